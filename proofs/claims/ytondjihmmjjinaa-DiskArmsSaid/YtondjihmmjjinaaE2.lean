/- The engine, part 2: the symbolic executor: operations, regions, code, functions (definitions only). -/
import Derived.Test.YtondjihmmjjinaaE1
namespace Go.Eng
open Go
set_option linter.unusedVariables false
set_option linter.unusedSimpArgs false

def unitV : SV := .tup .snil

def castL (a b : GT) (xs : List a.ty) : Option (List b.ty) := castD (.sl a) (.sl b) xs

def loadK {R : Type} (P : Program) (t : TypeId) (gc : Bool) (p : SV) (h : List SO) (K : Kont R) : Option R :=
  match p with
  | .rd g x => bif fits P t (.dat g x) then K (.dat g x) h else none
  | .box n path off => (match nth h n with
    | some (.box v) => bif Nat.beq (SV.off path v) off then (match SV.sub path v with
        | some u => bif fits P t u then K u h else none
        | none => none) else none
    | _ => none)
  | .el n g i path off => (match nth h n with
    | some (.arr g' xs) => (match castL g' g xs with
      | some xs => (bif gc then xs[i]? else some g.dflt).bind fun x =>
          bif Nat.beq (SV.off path (.dat g x)) off then (match SV.sub path (.dat g x) with
            | some u => bif fits P t u then K u h else none
            | none => none) else none
      | none => none)
    | some (.hole true g' xs j u) => bif GT.beq g' g then asrt gc (Nat.beq i j) (bif Nat.beq (SV.off path u) off then (match SV.sub path u with
        | some w => bif fits P t w then K w h else none
        | none => none) else none) else none
    | some (.hole false g' xs j u) => (match castL g' g xs with
      | some xs => (bif gc then (bif Nat.beq i j then none else xs[i]?) else some g.dflt).bind fun x =>
          bif Nat.beq (SV.off path (.dat g x)) off then (match SV.sub path (.dat g x) with
            | some u => bif fits P t u then K u h else none
            | none => none) else none
      | none => none)
    | _ => none)
  | _ => none

def storeK {R : Type} (P : Program) (t : TypeId) (p v : SV) (h : List SO) (K : Kont R) : Option R :=
  match p with
  | .box n path off => (match nth h n with
    | some (.box c) => bif Nat.beq (SV.off path c) off && fits P t v then (match SV.upd path c v with
        | some c' => K unitV (setN h n (.box c'))
        | none => none) else none
    | _ => none)
  | .el n g i path off => (match nth h n with
    | some (.arr g' xs) => (match castL g' g xs with
      | some xs => (xs[i]?).bind fun x =>
          bif Nat.beq (SV.off path (.dat g x)) off && fits P t v then (match SV.upd path (.dat g x) v with
            | some y => (match coe h y g with
              | some z => bif y.owns.any (Nat.beq n) then none else K unitV (setN (kill h y.owns) n (.arr g (xs.set i z)))
              | none => none)
            | none => none) else none
      | none => none)
    | some (.hole true g' xs j u) => bif GT.beq g' g && (Nat.beq (SV.off path u) off && fits P t v) then asrt true (Nat.beq i j) (match SV.upd path u v with
        | some u' => K unitV (setN h n (.hole true g' xs j u'))
        | none => none) else none
    | some (.hole false g' xs j u) => (match castL g' g xs with
      | some xs => (bif Nat.beq i j then none else xs[i]?).bind fun x =>
          bif Nat.beq (SV.off path (.dat g x)) off && fits P t v then (match SV.upd path (.dat g x) v with
            | some y => (match coe h y g with
              | some z => bif y.owns.any (Nat.beq n) then none else K unitV (setN (kill h y.owns) n (.hole false g (xs.set i z) j u))
              | none => none)
            | none => none) else none
      | none => none)
    | _ => none)
  | _ => none

/-- A slice that is nil if and only if it is empty: is one stored at this place? -/
def nslAt (h : List SO) : SV → Option GT
  | .box n path _ => (match nth h n with
    | some (.box c) => (match SV.sub path c with
      | some (.nsl g _) => some g
      | _ => none)
    | _ => none)
  | _ => none

/-- A store; where such a slice lies, it remains one. -/
def storeN {R : Type} (P : Program) (t : TypeId) (p v : SV) (h : List SO) (K : Kont R) : Option R :=
  match nslAt h p with
  | none => storeK P t p v h K
  | some g => (match v with
    | .nils => storeK P t p (.nsl g []) h K
    | v => bif v.stor && !v.isAgg then (match coe h v (.sl g) with
      | some ys => asrt true (!(List.isEmpty (α := g.ty) ys)) (storeK P t p (.nsl g ys) (kill h v.owns) K)
      | none => none) else none)

def fieldAddrK {R : Type} (P : Program) (t : TypeId) (p : SV) (f : Nat) (h : List SO) (K : Kont R) : Option R :=
  match P.underlying t with
  | some (.struct fs) => (match nth fs.toList f with
    | some fd => (match tyShape P fd.type with
      | some (_, s) => bif Nat.beq s 0 then none else (match p with
        | .box n path off => K (.box n (path ++ [f]) (off + fd.offset)) h
        | .el n g i path off => K (.el n g i (path ++ [f]) (off + fd.offset)) h
        | .rd g x => (match (SV.dat g x).partsOf with
          | some l => (match nthS l f with
            | some (.dat g' y) => bif Nat.beq (offS l f) fd.offset && Nat.beq g'.size s then K (.rd g' y) h else none
            | _ => none)
          | none => none)
        | _ => none)
      | none => none)
    | none => none)
  | _ => none

def fieldK {R : Type} (P : Program) (t : TypeId) (v : SV) (f : Nat) (h : List SO) (K : Kont R) : Option R :=
  match P.underlying t with
  | some (.struct fs) => (match nth fs.toList f with
    | some fd => (match v.partsOf with
      | some l => (match nthS l f with
        | some u => bif Nat.beq (offS l f) fd.offset && fits P fd.type u then K u h else none
        | none => none)
      | none => none)
    | none => none)
  | _ => none

def elemOK (P : Program) (e : TypeId) (g : GT) : Bool :=
  match tyShape P e with
  | some (a, s) => (a == g.isAgg) && Nat.beq s g.size && Nat.ble 1 s
  | none => false

def sliceAddrK {R : Type} (P : Program) (t : TypeId) (gc : Bool) (x i : SV) (h : List SO) (K : Kont R) : Option R :=
  match P.underlying t, i with
  | some (.slice e), .dat (.int _) i => (match x with
    | .dat (.sl g) xs => bif elemOK P e g then (idxG gc g.dflt xs i).bind fun y => K (.rd g y) h else none
    | .own n => (match nth h n with
      | some (.arr g xs) => bif elemOK P e g then asrt gc (decide (0 ≤ i) && decide (i < (xs.length : Int))) (K (.el n g i.toNat [] 0) h) else none
      | some (.hole _ g xs _ _) => bif elemOK P e g then asrt gc (decide (0 ≤ i) && decide (i < (xs.length : Int))) (K (.el n g i.toNat [] 0) h) else none
      | _ => none)
    | .nils => (match gtOf P 40 e with
      | some g => asrt gc false (K (.rd g g.dflt) h)
      | none => none)
    | .vw n g lo len => bif elemOK P e g then asrt gc (decide (0 ≤ i) && decide (i < (len : Int))) (K (.el n g (lo + i.toNat) [] 0) h) else none
    | _ => none)
  | _, _ => none

/-- Which place of an array is it? -/
def pickI {R : Type} (gc : Bool) (i : Int) (f : Nat → Option R) : Nat → Nat → Option R
  | 0, j => asrt gc false (f (j - 1))
  | m + 1, j => bif decide (i = (j : Int)) then f j else pickI gc i f m (j + 1)

def arrAddrK {R : Type} (P : Program) (t : TypeId) (gc : Bool) (n : Nat) (path : List Nat) (off : Nat) (i : SV) (h : List SO) (K : Kont R) : Option R :=
  match P.underlying t, i with
  | some (.array len e), .dat (.int _) i => (match tyShape P e with
    | some (_, s) => pickI gc i (fun j => K (.box n (path ++ [j]) (off + j * s)) h) len 0
    | none => none)
  | _, _ => none

def indexAddrK {R : Type} (P : Program) (t : TypeId) (gc : Bool) (x i : SV) (h : List SO) (K : Kont R) : Option R :=
  match x with
  | .box n path off => arrAddrK P t gc n path off i h K
  | _ => sliceAddrK P t gc x i h K

def indexK {R : Type} (P : Program) (t : TypeId) (gc : Bool) (x i : SV) (h : List SO) (K : Kont R) : Option R :=
  match P.underlying t, x, i with
  | some .string, .dat .str l, .dat (.int _) i => (idxG gc (0 : UInt8) l i).bind fun c => K (.dat (.int .u8) (c.toNat : Int)) h
  | _, _, _ => none

def optI : Option SV → Option (Option Int)
  | none => some none
  | some (.dat (.int _) n) => some (some n)
  | _ => none

def subl {α : Type} (l : List α) (lo hi : Int) : List α := (l.take hi.toNat).drop lo.toNat

def bounds (gc : Bool) (len : Nat) (lo hi : Int) : Bool := decide (0 ≤ lo) && decide (lo ≤ hi) && decide (hi ≤ (len : Int))

def sliceK {R : Type} (P : Program) (t : TypeId) (gc : Bool) (un : Bool) (x : SV) (lo hi mx : Option SV) (h : List SO) (K : Kont R) : Option R :=
  match P.underlying t, optI lo, optI hi, mx with
  | some .string, some lo, some hi, none => (match x with
    | .dat .str l => asrt gc (bounds gc l.length (lo.getD 0) (hi.getD (l.length : Int))) (K (.dat .str (subl l (lo.getD 0) (hi.getD (l.length : Int)))) h)
    | _ => none)
  | some (.slice e), some lo, some hi, none => (match x with
    | .dat (.sl g) xs => bif elemOK P e g then
        asrt gc (bounds gc xs.length (lo.getD 0) (hi.getD (xs.length : Int))) (K (.dat (.sl g) (subl xs (lo.getD 0) (hi.getD (xs.length : Int)))) h) else none
    | .own n => (match nth h n with
      | some (.arr g xs) => bif elemOK P e g && un then
          asrt gc (bounds gc xs.length (lo.getD 0) (hi.getD (xs.length : Int)))
            (K (.own h.length) (setN h n .dead ++ [.arr g (subl xs (lo.getD 0) (hi.getD (xs.length : Int)))])) else none
      | _ => none)
    | _ => none)
  | some (.slice e), some none, some (some hi), some (.dat (.int _) m) => (match x with
    | .dat (.sl g) _ => bif elemOK P e g then asrt gc (decide (hi = 0) && decide (m = (0 : Int))) (K .emp h) else none
    | _ => none)
  | _, _, _, _ => none

/-- The list that a slice value reads as. -/
def listV (h : List SO) (x : SV) (g : GT) : Option (List g.ty) :=
  match x with
  | .dat (.sl g') xs => castL g' g xs
  | .nils => some []
  | .emp => some []
  | .own n => (match nth h n with
    | some (.arr g' xs) => castL g' g xs
    | _ => none)
  | .vw n g2 lo len => (match nth h n with
    | some (.arr g' xs) => (match castL g' g xs with
      | some xs => bif GT.beq g2 g then some ((xs.drop lo).take len) else none
      | none => none)
    | _ => none)
  | _ => none

/-- A slice operation whose result is looked at as a view. -/
def isVw (E : Env) : Operand → Bool
  | .tmp t => E.vw t
  | _ => false

def isOwn1 : SV → Bool
  | .own _ => true
  | _ => false

/-- Is the slice of this value a view? -/
def vwB (E : Env) (x : Operand) (v : SV) : Bool := isVw E x && isOwn1 v

def viewK {R : Type} (P : Program) (t : TypeId) (gc : Bool) (x : SV) (lo hi mx : Option SV) (h : List SO) (K : Kont R) : Option R :=
  match P.underlying t, optI lo, optI hi, mx with
  | some (.slice e), some lo, some hi, none => (match x with
    | .own n => (match nth h n with
      | some (.arr g xs) => bif elemOK P e g then
          asrt gc (bounds gc xs.length (lo.getD 0) (hi.getD (xs.length : Int))) (K (.vw n g (lo.getD 0).toNat ((hi.getD (xs.length : Int)).toNat - (lo.getD 0).toNat)) h) else none
      | _ => none)
    | _ => none)
  | _, _, _, _ => none

/-- The elements that copy reads. -/
def srcK {R : Type} (h : List SO) (x : SV) (g : GT) (K : List g.ty → Option R) : Option R :=
  match x with
  | .vw n g' lo len => (match nth h n with
    | some (.arr g'' xs) => (match castL g'' g xs with
      | some xs => bif GT.beq g' g then asrt true (decide (lo + len ≤ xs.length)) (K ((xs.drop lo).take len)) else none
      | none => none)
    | _ => none)
  | .dat .str l => (match castL (.int .u8) g (l.map fun c => (c.toNat : Int)) with
    | some ys => K ys
    | none => none)
  | x => (match listV h x g with
    | some ys => K ys
    | none => none)

/-- A list of which some elements, at most len from lo on, are overwritten. -/
def patch {α : Type} (xs : List α) (lo len : Nat) (ys : List α) : List α := xs.take lo ++ (ys.take len ++ xs.drop (lo + min ys.length len))

def copyK {R : Type} (P : Program) (ts : List TypeId) (un : Bool) (d s : SV) (h : List SO) (K : Kont R) : Option R :=
  match ts with
  | [t, _] => (match P.underlying t with
    | some (.slice e) => (match gtOf P 40 e with
      | some g => bif un && elemOK P e g then srcK h s g fun ys => (match d with
        | .own n => (match nth h n with
          | some (.arr g' xs) => (match castL g' g xs with
            | some xs => K (.dat (.int .i64) ((min ys.length xs.length : Nat) : Int)) (setN h n (.arr g (patch xs 0 xs.length ys)))
            | none => none)
          | _ => none)
        | .vw n g2 lo len => (match nth h n with
          | some (.arr g' xs) => (match castL g' g xs with
            | some xs => bif GT.beq g2 g then asrt true (decide (lo + len ≤ xs.length)) (K (.dat (.int .i64) ((min ys.length len : Nat) : Int)) (setN h n (.arr g (patch xs lo len ys)))) else none
            | none => none)
          | _ => none)
        | _ => none) else none
      | none => none)
    | _ => none)
  | _ => none

def lenK {R : Type} (P : Program) (t : TypeId) (x : SV) (h : List SO) (K : Kont R) : Option R :=
  match P.underlying t, x with
  | some .string, .dat .str l => K (.dat (.int .i64) (l.length : Int)) h
  | some (.slice _), .dat (.sl _) xs => K (.dat (.int .i64) (xs.length : Int)) h
  | some (.slice _), .nils => K (.dat (.int .i64) (0 : Int)) h
  | some (.slice _), .emp => K (.dat (.int .i64) (0 : Int)) h
  | some (.slice _), .own n => (match nth h n with
    | some (.arr _ xs) => K (.dat (.int .i64) (xs.length : Int)) h
    | some (.hole _ _ xs _ _) => K (.dat (.int .i64) (xs.length : Int)) h
    | _ => none)
  | some (.slice _), .vw _ _ _ len => K (.dat (.int .i64) (len : Int)) h
  | _, _ => none

/-- The greatest length that the engine lets a slice have. -/
def LIM : Nat := 4294967296

def smallTy (P : Program) (e : TypeId) : Bool :=
  match P.info? e with
  | some i => Nat.ble i.bytes 4096 && Nat.ble 1 i.bytes
  | none => false

def cellsZ : GT → List Value
  | .int k => [.int k 0]
  | .bool => [.bool false]
  | .str => [.string ⟨#[]⟩]
  | .nil => []
  | .cons a b => cellsZ a ++ cellsZ b
  | .sl _ => [.slice none 0 0]
  | .opq => [.slice none 0 0]

/-- The type's zero value in the table is that of the plain data type. -/
def zeroOK (P : Program) (e : TypeId) (g : GT) : Bool :=
  match P.info? e with
  | some i => (match i.zero with
    | some v => sameVs (cellsZ g) v.cells.toList
    | none => false)
  | none => false

def appendK {R : Type} (P : Program) (ts : List TypeId) (un : Bool) (s x : SV) (h : List SO) (K : Kont R) : Option R :=
  match ts with
  | [t, u] => (match P.underlying t, P.underlying u with
    | some (.slice e), some (.slice _) => (match gtOf P 40 e with
      | some g => bif un && elemOK P e g && smallTy P e && zeroOK P e g then (match listV h x g with
        | some ys => (match s with
          | .nils => asrt true (decide (ys.length ≤ LIM)) (K (.own h.length) (h ++ [.arr g ys]))
          | .emp => asrt true (decide (ys.length ≤ LIM)) (K (.own h.length) (h ++ [.arr g ys]))
          | .own n => (match nth h n with
            | some (.arr g' xs) => (match castL g' g xs with
              | some xs =>
                  asrt true (decide (xs.length + ys.length ≤ LIM)) (K (.own h.length) (setN h n .dead ++ [.arr g (xs ++ ys)]))
              | none => none)
            | _ => none)
          | _ => none)
        | none => none) else none
      | none => none)
    | _, _ => none)
  | _ => none

def makeSliceK {R : Type} (P : Program) (t : TypeId) (gc : Bool) (un : Bool) (l c : SV) (h : List SO) (K : Kont R) : Option R :=
  match P.underlying t, l, c with
  | some (.slice e), .dat (.int _) l, .dat (.int _) c => (match gtOf P 40 e with
    | some g => bif un && elemOK P e g && smallTy P e && zeroOK P e g then
        asrt gc (decide (0 ≤ l) && decide (l ≤ c) && decide (c ≤ (LIM : Int))) (K (.own h.length) (h ++ [.arr g (List.replicate l.toNat g.dflt)])) else none
    | none => none)
  | _, _, _ => none

def minK {R : Type} (x y : SV) (h : List SO) (K : Kont R) : Option R :=
  match x, y with
  | .dat (.int k) a, .dat (.int _) b => K (.dat (.int k) (bif decide (b < a) then b else a)) h
  | _, _ => none

def maxK {R : Type} (x y : SV) (h : List SO) (K : Kont R) : Option R :=
  match x, y with
  | .dat (.int k) a, .dat (.int _) b => K (.dat (.int k) (bif decide (b > a) then b else a)) h
  | _, _ => none

def convK {R : Type} (P : Program) (s d : TypeId) (un : Bool) (x : SV) (h : List SO) (K : Kont R) : Option R :=
  match P.underlying s, P.underlying d, x with
  | some (.int _), some (.int k), .dat (.int _) n => K (.dat (.int k) (k.wrap n)) h
  | some .string, some .string, .dat .str l => K (.dat .str l) h
  | some .string, some (.slice e), .dat .str l => (match P.underlying e with
    | some (.int .u8) => bif un && elemOK P e (.int .u8) && smallTy P e then K (.own h.length) (h ++ [.arr (.int .u8) (l.map fun c => (c.toNat : Int))]) else none
    | _ => none)
  | some (.slice e), some .string, x => (match P.underlying e with
    | some (.int .u8) => (match listV h x (.int .u8) with
      | some xs => K (.dat .str ((show List Int from xs).map fun n => UInt8.ofNat n.toNat)) h
      | none => none)
    | _ => none)
  | _, _, _ => none

def unK {R : Type} (op : UnOp) (x : SV) (h : List SO) (K : Kont R) : Option R :=
  match op, x with
  | .neg, .dat (.int k) n => K (.dat (.int k) (k.wrap (0 - n))) h
  | .not, .dat .bool b => K (.dat .bool (!b)) h
  | _, _ => none

/-- The value of a key of a map. -/
def mapAt (k v : GT) (x : k.ty) : List (k.ty × v.ty) → Option v.ty
  | [] => none
  | e :: es => bif k.eqv x e.1 then some e.2 else mapAt k v x es

/-- Is this value a struct or an array? -/
def valAgg : Value → Option Bool
  | .agg _ => some true
  | .tuple _ => none
  | _ => some false

/-- The type table's zero value is that of the plain data type. -/
def zeroV (P : Program) (t : TypeId) (g : GT) : Bool :=
  match P.info? t with
  | some i => (match i.zero with
    | some v => (match valAgg v with
      | some b => (b == g.isAgg) && sameVs (cellsZ g) v.cells.toList
      | none => false)
    | none => false)
  | none => false

/-- A map, to which the key's value is set. -/
def putM (k v : GT) (x : k.ty) (y : v.ty) : List (k.ty × v.ty) → List (k.ty × v.ty)
  | [] => [(x, y)]
  | e :: es => bif k.eqv x e.1 then (x, y) :: es else e :: putM k v x y es

def makeMapK {R : Type} (P : Program) (t : TypeId) (un : Bool) (h : List SO) (K : Kont R) : Option R :=
  match P.underlying t with
  | some (.map kt vt) => (match gtOf P 40 kt, gtOf P 40 vt with
    | some k, some v => bif un then K (.mp h.length) (h ++ [.map k v []]) else none
    | _, _ => none)
  | _ => none

def lookupK {R : Type} (P : Program) (t : TypeId) (x i : SV) (co : Bool) (h : List SO) (K : Kont R) : Option R :=
  match P.underlying t, x, i with
  | some (.map kt vt), .mp n, .dat g a => (match nth h n with
    | some (.map k v es) => (match castD g k a with
      | some a => bif eqTy P 40 kt k && zeroV P vt v then
          (bif co then K (.tup (.scons (.dat v ((mapAt k v a es).getD v.dflt)) (.scons (.dat .bool (mapAt k v a es).isSome) .snil))) h
          else K (.dat v ((mapAt k v a es).getD v.dflt)) h) else none
      | none => none)
    | _ => none)
  | _, _, _ => none

def mapUpdateK {R : Type} (P : Program) (t : TypeId) (m x y : SV) (h : List SO) (K : Kont R) : Option R :=
  match P.underlying t, m, x, y with
  | some (.map kt _), .mp n, .dat g a, .dat g' b => (match nth h n with
    | some (.map k v es) => (match castD g k a, castD g' v b with
      | some a, some b => bif eqTy P 40 kt k then K unitV (setN h n (.map k v (putM k v a b es))) else none
      | _, _ => none)
    | some (.mapB k v es bs c) => (match castD g k a, castD g' v b with
      | some a, some b => bif eqTy P 40 kt k then asrt true (mapAt k v a es).isSome (K unitV (setN h n (.mapB k v (putM k v a b es) bs c))) else none
      | _, _ => none)
    | _ => none)
  | _, _, _, _ => none

/-- Where a key lies in a map, or its length. -/
def posM (k v : GT) (x : k.ty) : List (k.ty × v.ty) → Nat
  | [] => 0
  | e :: es => bif k.eqv x e.1 then 0 else posM k v x es + 1

/-- An entry is struck. -/
def deleteK {R : Type} (P : Program) (ts : List TypeId) (un : Bool) (m x : SV) (h : List SO) (K : Kont R) : Option R :=
  match ts with
  | [t, _] => (match P.underlying t, m, x with
    | some (.map kt _), .mp n, .dat g a => (match nth h n with
      | some (.mapB k v es bs c) => (match castD g k a with
        | some a => bif un && eqTy P 40 kt k then K unitV (setN h n (.mapB k v (es.eraseIdx (posM k v a es)) (bs.eraseIdx (posM k v a es)) c)) else none
        | none => none)
      | _ => none)
    | _, _, _ => none)
  | _ => none

/-- An entry of a map is held. -/
def mapEntryK {R : Type} (P : Program) (t : TypeId) (un : Bool) (m x : SV) (h : List SO) (K : Kont R) : Option R :=
  match P.underlying t, m, x with
  | some (.map kt vt), .mp n, .dat g a => (match nth h n with
    | some (.map k v es) => (match castD g k a with
      | some a => bif un && (eqTy P 40 kt k && zeroV P vt v) then
          K (.tup (.scons (.dat v ((mapAt k v a es).getD v.dflt)) (.scons (.own h.length) .snil))) (setN h n (.mapS k v (putM k v a ((mapAt k v a es).getD v.dflt) es) a h.length) ++ [.dead]) else none
      | none => none)
    | _ => none)
  | _, _, _ => none

/-- The entry that is held gets a value. -/
def entryStoreK {R : Type} (P : Program) (t : TypeId) (m s y : SV) (h : List SO) (K : Kont R) : Option R :=
  match P.underlying t, m, s, y with
  | some (.map _ _), .mp n, .own q, .dat g b => (match nth h n with
    | some (.mapS k v es a q') => (match castD g v b with
      | some b => bif Nat.beq q q' then K unitV (setN h n (.map k v (putM k v a b es))) else none
      | none => none)
    | _ => none)
  | _, _, _, _ => none

/-- The elements of an own list, or of a part of one, become zero values. -/
def clearK {R : Type} (P : Program) (ts : List TypeId) (un : Bool) (d : SV) (h : List SO) (K : Kont R) : Option R :=
  match ts with
  | [t] => (match P.underlying t, d with
    | some (.slice e), .vw n g lo len => (match nth h n with
      | some (.arr g' xs) => (match castL g' g xs with
        | some xs => bif un && elemOK P e g && zeroOK P e g then asrt true (decide (lo + len ≤ xs.length)) (K unitV (setN h n (.arr g (patch xs lo len (List.replicate len g.dflt))))) else none
        | none => none)
      | _ => none)
    | _, _ => none)
  | _ => none

/-- Values of a list of operands. -/
def evs (ev : Operand → Option SV) : List Operand → Option (List SV)
  | [] => some []
  | x :: l => match ev x with
    | some v => (match evs ev l with
      | some vs => some (v :: vs)
      | none => none)
    | none => none

/-- Parts (0, x0), (1, x1) .. in their order. -/
def inOrder (ev : Operand → Option SV) : Nat → List (Nat × Operand) → Option (List SV)
  | _, [] => some []
  | n, (i, x) :: l => bif Nat.beq i n then (match ev x with
    | some v => (match inOrder ev (n + 1) l with
      | some vs => some (v :: vs)
      | none => none)
    | none => none) else none

/-- The value of an operand that may be left out. -/
def evO (ev : Operand → Option SV) : Option Operand → Option (Option SV)
  | none => some none
  | some x => match ev x with
    | some v => some (some v)
    | none => none

def coeAll (h : List SO) (g : GT) : List SV → Option (List g.ty)
  | [] => some []
  | v :: l => match coe h v g with
    | some x => (match coeAll h g l with
      | some xs => some (x :: xs)
      | none => none)
    | none => none

def ownsAll : List SV → List Nat
  | [] => []
  | v :: l => v.owns ++ ownsAll l

def setParts (ev : Operand → Option SV) : SV → List (Nat × Operand) → Option SV
  | l, [] => some l
  | l, (i, x) :: r => match ev x with
    | some v => (match setS l i v with
      | some l' => setParts ev l' r
      | none => none)
    | none => none

/-- The table's places of a struct's fields are those of the parts. -/
def placesOK (P : Program) (l : SV) : List Field → Nat → Bool
  | [], _ => true
  | f :: r, n => (match nthS l n with
    | some u => Nat.beq (offS l n) f.offset && fits P f.type u
    | none => false) && placesOK P l r (n + 1)

def buildK {R : Type} (P : Program) (t : TypeId) (ps : List (Nat × Operand)) (ev : Operand → Option SV) (h : List SO) (K : Kont R) : Option R :=
  match P.underlying t, zero P t with
  | some (.struct fs), some z => (match z.partsOf with
    | some l => bif placesOK P l fs.toList 0 && Nat.beq l.toL.length fs.toList.length && l.chain then (match setParts ev l ps with
      | some l' => K (mkAgg l') h
      | none => none) else none
    | none => none)
  | some (.array len e), some z => (match z.partsOf, tyShape P e with
    | some l, some (_, s) => bif l.toL.all (fun u => Nat.beq u.size s) && l.chain then (match setParts ev l ps with
      | some l' => K (mkAgg l') h
      | none => none) else none
    | _, _ => none)
  | _, _ => none

def buildSliceK {R : Type} (P : Program) (t : TypeId) (un : Bool) (len : Nat) (ps : List (Nat × Operand)) (ev : Operand → Option SV) (h : List SO) (K : Kont R) : Option R :=
  bif Nat.beq len 0 then (match P.underlying t, ps with
    | some (.slice e), [] => (match gtOf P 40 e with
      | some g => bif elemOK P e g && zeroOK P e g then K .emp h else none
      | none => none)
    | _, _ => none)
  else match P.underlying t with
  | some (.slice e) => (match gtOf P 40 e, inOrder ev 0 ps with
    | some g, some vs => bif un && elemOK P e g && zeroOK P e g && Nat.beq vs.length len && vs.all SV.stor && Nat.ble (len * g.size) 1000 then (match coeAll h g vs with
      | some xs => K (.own h.length) (kill h (ownsAll vs) ++ [.arr g xs])
      | none => none) else none
    | _, _ => none)
  | _ => none

def toRes (many : Bool) (g : GT) (x : g.ty) : SV := bif many then .tup (parts g x) else .dat g x

/-- The names in values. -/
def namesAll : List SV → List Nat
  | [] => []
  | v :: l => v.names ++ namesAll l

def insN (acc : List Nat) : List Nat → List Nat
  | [] => acc
  | n :: l => bif acc.any (Nat.beq n) then insN acc l else insN (acc ++ [n]) l

def objNames (h : List SO) (k : Nat) : List Nat := match nth h k with
  | some (.box v) => v.names
  | some (.hole _ _ _ _ u) => u.names
  | _ => []

/-- The objects that these names lead to. -/
def reach (h : List SO) : Nat → List Nat → List Nat
  | 0, l => l
  | n + 1, l => reach h n (insN l (l.flatMap (objNames h)))

/-- Only these objects. -/
def maskH (F : List Nat) : Nat → List SO → List SO
  | _, [] => []
  | i, o :: h => (bif F.any (Nat.beq i) then o else .dead) :: maskH F (i + 1) h

/-- The others back. -/
def restH (F : List Nat) : Nat → List SO → List SO → Option (List SO)
  | _, [], h' => some h'
  | i, o :: h, o' :: h' => (match restH F (i + 1) h h' with
    | some l => bif F.any (Nat.beq i) then some (o' :: l) else (match o' with
      | .dead => some (o :: l)
      | _ => none)
    | none => none)
  | _, _ :: _, [] => none

/-- A call that sees only what its arguments lead to. -/
def locK {R : Type} (E : Env) (f : Nat) (args : List SV) (h : List SO) (K : Kont R) : Option R :=
  E.cm R f args (maskH (reach h 4 (namesAll args)) 0 h) fun v h' => match restH (reach h 4 (namesAll args)) 0 h h' with
    | some h2 => K v h2
    | none => none

def callK {R : Type} (E : Env) (gc un : Bool) (f : Nat) (args : List SV) (h : List SO) (K : Kont R) : Option R :=
  bif E.isPm f then (match E.pm f args h with
    | some r => (bif gc then r.m else some r.g.dflt).bind fun x => K (toRes r.many r.g x) h
    | none => none)
  else bif un then locK E f args h K else none

def builtinK {R : Type} (E : Env) (b : Builtin) (ts : List TypeId) (gc un : Bool) (args : List SV) (h : List SO) (K : Kont R) : Option R :=
  match b, args, ts with
  | .len, [x], [t] => lenK E.P t x h K
  | .append, [s, x], ts => appendK E.P ts un s x h K
  | .min, [x, y], _ => minK x y h K
  | .max, [x, y], _ => maxK x y h K
  | .copy, [d, s], ts => copyK E.P ts un d s h K
  | .clear, [d], ts => clearK E.P ts un d h K
  | .delete, [m, x], ts => deleteK E.P ts un m x h K
  | _, _, _ => none

def opK0 {R : Type} (E : Env) (o : Op) (gc un : Bool) (ev : Operand → Option SV) (evg : Nat → Bool → Operand → Option SV) (h : List SO) (K : Kont R) : Option R :=
  match o with
  | .move x => (match ev x with
    | some v => K v h
    | none => none)
  | .assign x => (match ev x with
    | some v => K v h
    | none => none)
  | .pick (.tmp c) a b => (match ev (.tmp c), evg c true a, evg c false b with
    | some (.dat .bool t), some (.dat .bool x), some (.dat .bool y) => K (.dat .bool (bif t then x else y)) h
    | _, _, _ => none)
  | .alloc t => (match zero E.P t with
    | some z => bif un then K (.box h.length [] 0) (h ++ [.box z]) else none
    | none => none)
  | .box _ x => (match ev x with
    | some v => bif un && v.stor then K (.box h.length [] 0) (h ++ [.box v]) else none
    | none => none)
  | .build t ps => buildK E.P t ps.toList ev h K
  | .buildSlice t n ps => buildSliceK E.P t un n ps.toList ev h K
  | .load t a => (match ev a with
    | some p => loadK E.P t gc p h K
    | none => none)
  | .store t a x => (match ev a, ev x with
    | some p, some v => bif un then storeN E.P t p v h K else none
    | _, _ => none)
  | .nilCheck x => (match ev x with
    | some v => bif isPtr v then K v h else none
    | none => none)
  | .binOp op t x y _ => (match ev x, ev y with
    | some u, some v => binK E.P op t gc u v h K
    | _, _ => none)
  | .unOp op _ x => (match ev x with
    | some v => unK op v h K
    | none => none)
  | .convert s d x => (match ev x with
    | some v => convK E.P s d un v h K
    | none => none)
  | .makeFunc (.func f) first caps => (match evs ev caps.toList with
    | some vs => bif Nat.beq first.toList.length 0 then K (.fn f (SV.ofL vs)) h else none
    | none => none)
  | .makeSlice t l c => (match ev l, ev c with
    | some u, some v => makeSliceK E.P t gc un u v h K
    | _, _ => none)
  | .makeMap t none => makeMapK E.P t un h K
  | .lookup t x i co => (match ev x, ev i with
    | some u, some v => lookupK E.P t u v co h K
    | _, _ => none)
  | .mapUpdate t m x y => (match ev m, ev x, ev y with
    | some u, some v, some w => bif un then mapUpdateK E.P t u v w h K else none
    | _, _, _ => none)
  | .mapEntry t m x => (match ev m, ev x with
    | some u, some v => mapEntryK E.P t un u v h K
    | _, _ => none)
  | .entryStore t m x y => (match ev m, ev x, ev y with
    | some u, some v, some w => bif un then entryStoreK E.P t u v w h K else none
    | _, _, _ => none)
  | .slice t x lo hi mx => (match ev x, evO ev lo, evO ev hi, evO ev mx with
    | some v, some lo, some hi, some mx => bif vwB E x v then viewK E.P t gc v lo hi mx h K else sliceK E.P t gc un v lo hi mx h K
    | _, _, _, _ => none)
  | .fieldAddr t x f => (match ev x with
    | some v => fieldAddrK E.P t v f h K
    | none => none)
  | .field t x f => (match ev x with
    | some v => fieldK E.P t v f h K
    | none => none)
  | .indexAddr t x i => (match ev x, ev i with
    | some u, some v => indexAddrK E.P t gc u v h K
    | _, _ => none)
  | .index t x i => (match ev x, ev i with
    | some u, some v => indexK E.P t gc u v h K
    | _, _ => none)
  | .extract x i => (match ev x with
    | some (.tup l) => (match nthS l i with
      | some v => bif l.chain then K v h else none
      | none => none)
    | _ => none)
  | .call c => (match evs ev c.args.toList with
    | some args => (match c.callee with
      | .builtin b => builtinK E b c.argTypes.toList gc un args h K
      | .value f => (match ev f with
        | some (.fn f caps) => bif caps.chain then callK E gc un f (args ++ caps.toL) h K else none
        | _ => none)
      | _ => none)
    | none => none)
  | _ => none

/-- An empty slice. -/
def emptyS : SV → Bool
  | .nils => true
  | .emp => true
  | _ => false

/-- How an operation is to the heap, by its operands' values: 0 looks at registers alone; 1 looks at objects; 2 makes a new object; 3 changes objects. -/
def clsK (E : Env) (o : Op) (ev : Operand → Option SV) : Nat :=
  let plain (x : Operand) : Nat := match ev x with
    | some (.rd _ _) => 0
    | some (.dat _ _) => 0
    | some .nils => 0
    | some .emp => 0
    | _ => 1
  match o with
  | .alloc _ => 2
  | .box _ _ => 2
  | .buildSlice _ n ps => bif Nat.beq n 0 then 0 else (match inOrder ev 0 ps.toList with
    | some vs => bif Nat.beq (ownsAll vs).length 0 then 2 else 3
    | none => 3)
  | .load _ a => plain a
  | .store _ _ _ => 3
  | .convert _ _ x => (match ev x with
    | some (.dat (.int _) _) => 0
    | some (.dat .str _) => 2
    | some (.dat _ _) => 0
    | _ => 1)
  | .makeSlice _ _ _ => 2
  | .makeMap _ _ => 2
  | .lookup _ _ _ _ => 1
  | .mapUpdate _ _ _ _ => 3
  | .mapEntry _ _ _ => 3
  | .entryStore _ _ _ _ => 3
  | .slice _ x _ _ _ => bif (match ev x with | some v => vwB E x v | none => false) then 1 else bif Nat.beq (plain x) 0 then 0 else 3
  | .indexAddr _ x _ => (match ev x with
    | some (.box _ _ _) => 0
    | _ => plain x)
  | .call c => (match c.callee with
    | .builtin .len => (match c.args.toList with
      | [x] => plain x
      | _ => 3)
    | .builtin .min => 0
    | .builtin .max => 0
    | .builtin .append => (match evs ev c.args.toList with
      | some [s, x] => bif emptyS s && Nat.beq x.owns.length 0 then 2 else 3
      | _ => 3)
    | .value f => (match ev f, evs ev c.args.toList with
      | some (.fn f caps), some args => bif E.isPm f then 1 else bif E.isO f && Nat.beq (ownsAll (args ++ caps.toL)).length 0 then 2 else 3
      | _, _ => 3)
    | _ => 3)
  | _ => 0

/-- What stands for a value that is not looked at. -/
def dummy (P : Program) (t : TypeId) : SV := match zero P t with
  | some z => z
  | none => unitV

/-- An operation under its guard: one that makes or changes objects parts the ways. -/
def opK {R : Type} (E : Env) (o : Oper) (gc un : Bool) (ev : Operand → Option SV) (evg : Nat → Bool → Operand → Option SV) (h : List SO) (K : Kont R) : Option R :=
  bif un || Nat.ble (clsK E o.op ev) 1 then opK0 E o.op gc un ev evg h K else bif gc then opK0 E o.op true true ev evg h K else K (dummy E.P o.type) h

/-- The objects that an operation looks at or changes, where they are known. -/
def footK (E : Env) (o : Op) (ev : Operand → Option SV) (h : List SO) : Option (List Nat) :=
  match o with
  | .load _ a => (match ev a with
    | some (.box n _ _) => some [n]
    | some (.el n _ _ _ _) => some [n]
    | _ => none)
  | .store _ a x => (match ev a with
    | some (.box n p o) => (match nslAt h (.box n p o), ev x with
      | some _, some v => some (n :: v.owns)
      | _, _ => some [n])
    | _ => none)
  | .indexAddr _ x _ => (match ev x with
    | some (.own n) => some [n]
    | _ => none)
  | .slice _ x _ _ _ => (match ev x with
    | some (.own n) => bif isVw E x then some [n] else none
    | _ => none)
  | .call c => (match c.callee with
    | .value f => (match ev f, evs ev c.args.toList with
      | some (.fn f caps), some args => bif E.isPm f then none else some (reach h 4 (namesAll (args ++ caps.toL)))
      | _, _ => none)
    | .builtin .append => (match evs ev c.args.toList with
      | some [.own n, _] => some [n]
      | _ => none)
    | _ => none)
  | _ => none

def apartB : Option (List Nat) → Option (List Nat) → Bool
  | some l, some m => !(l.any fun n => m.any (Nat.beq n))
  | _, _ => false

/-- What an operation of a region has done. -/
structure Rc where
  cls : Nat
  foot : Option (List Nat)
  dst : Option Nat
  g : Option (Nat × Bool)
  v : SV
  h : List SO

def lkR : List Rc → Nat → Option (Option (Nat × Bool) × SV)
  | [], _ => none
  | r :: l, t => match r.dst with
    | some d => bif Nat.beq d t then some (r.g, r.v) else lkR l t
    | none => lkR l t

def look (rs : List Rc) (base : List (Nat × SV)) (t : Nat) : Option (Option (Nat × Bool) × SV) :=
  match lkR rs t with
  | some e => some e
  | none => match lk base t with
    | some v => some (none, v)
    | none => none

def sameG (a b : Nat × Bool) : Bool := Nat.beq a.1 b.1 && (a.2 == b.2)

def opnd (lo : Nat → Option (Option (Nat × Bool) × SV)) (gs : List (Nat × Bool)) : Operand → Option SV
  | .const v => constSV v
  | .func f => some (.fn f .snil)
  | .global _ => none
  | .tmp t => match lo t with
    | some (none, v) => some v
    | some (some g, v) => bif gs.any (sameG g) then some v else none
    | none => none

/-- When is the guard met? And which guards are met with it? -/
def gcOf (lo : Nat → Option (Option (Nat × Bool) × SV)) : Nat → Nat × Bool → Option (Bool × List (Nat × Bool))
  | 0, _ => none
  | n + 1, (t, w) => match lo t with
    | some (none, .dat .bool b) => some (b == w, [(t, w)])
    | some (some g, .dat .bool b) => (match gcOf lo n g with
      | some (c, gs) => some (c && (b == w), (t, w) :: gs)
      | none => none)
    | _ => none

/-- Has an operation of the region written this slot? -/
def hasDst : List Rc → Nat → Bool
  | [], _ => false
  | r :: l, t => (match r.dst with
    | some d => Nat.beq d t
    | none => false) || hasDst l t

def runOps {R : Type} (E : Env) (ops : List Oper) (base : List (Nat × SV)) : List Oper → List Rc → List SO → (List Rc → List SO → Option R) → Option R
  | [], rs, h, k => k rs h
  | o :: l, rs, h, k =>
    match o.guard with
    | none =>
      opK E o true true (opnd (look rs base) []) (fun t w => opnd (look rs base) [(t, w)]) h fun v h' =>
        runOps E ops base l (⟨clsK E o.op (opnd (look rs base) []), footK E o.op (opnd (look rs base) []) h, o.dst, none, v, h'⟩ :: rs) h' k
    | some (j, w) =>
      match (nth ops j).bind (·.dst) with
      | some t => (match gcOf (look rs base) 6 (t, w) with
        | some (c, gs) => bif !(hasDst rs t) then none else
          opK E o c false (opnd (look rs base) gs) (fun t w => opnd (look rs base) ((t, w) :: gs)) h fun v h' =>
            runOps E ops base l (⟨clsK E o.op (opnd (look rs base) gs), footK E o.op (opnd (look rs base) gs) h, o.dst, some (t, w), v, h'⟩ :: rs) h' k
        | none => none)
      | none => none

/-- Slots that guarded operations have written. -/
def gds : List Rc → List Nat
  | [] => []
  | r :: l => match r.dst, r.g with
    | some d, some _ => d :: gds l
    | _, _ => gds l

def ents : List Rc → List (Nat × SV)
  | [] => []
  | r :: l => match r.dst, r.g with
    | some d, none => (d, r.v) :: ents l
    | _, _ => ents l

def rmv (l : List Nat) : List (Nat × SV) → List (Nat × SV)
  | [] => []
  | e :: r => bif l.any (Nat.beq e.1) then rmv l r else e :: rmv l r

/-- The registers behind a region. -/
def after (rs : List Rc) (base : List (Nat × SV)) : List (Nat × SV) :=
  ents rs ++ (match gds rs with
    | [] => base
    | a :: l => rmv (a :: l) base)

def dsts : List Oper → List Nat
  | [] => []
  | o :: l => match o.dst with
    | some d => d :: dsts l
    | none => dsts l

def nodupB : List Nat → Bool
  | [] => true
  | a :: l => !(l.any (Nat.beq a)) && nodupB l

def dstsOk (n : Nat) (ops : List Oper) : Bool := (dsts ops).all (fun d => Nat.blt d n) && nodupB (dsts ops)

/-- The operations that come before each, as bits: by the edges, closed. -/
def masks : List Oper → List Nat → List Nat
  | [], acc => acc
  | o :: l, acc => masks l (acc ++ [o.after.toList.foldl (fun s e => bif Region.binds .any e then s ||| (2 ^ e.on ||| (nth acc e.on).getD 0) else s) 0])

def edgesOk : List Oper → Nat → Bool
  | [], _ => true
  | o :: l, n => o.after.toList.all (fun e => !Region.binds .any e || Nat.blt e.on n) && edgesOk l (n + 1)

def looksAt (ops : List Oper) (o : Oper) : List Nat :=
  (o.op.operands.toList.filterMap fun | .tmp t => some t | _ => none) ++
  (match o.guard with
   | some (j, _) => ((nth ops j).bind (·.dst)).toList
   | none => [])

/-- Is operation i before j by the masks? -/
def befB (ms : List Nat) (i j : Nat) : Bool := ((nth ms j).getD 0).testBit i

/-- May operations i < j (i looks before j in the text) come in either order? If not, they must be ordered. -/
def pairOk (ms : List Nat) (ops : List Oper) (cs : List Nat) (fs : List (Option (List Nat))) (i j : Nat) (oi oj : Oper) : Bool :=
  befB ms i j ||
  ((match oi.dst with
    | some d => !((looksAt ops oj).any (Nat.beq d))
    | none => true) &&
   (match oj.dst with
    | some d => !((looksAt ops oi).any (Nat.beq d))
    | none => true) &&
   (match (nth cs i).getD 3, (nth cs j).getD 3 with
    | 0, _ => true
    | _, 0 => true
    | 1, 1 => true
    | 1, 2 => true
    | 2, 2 => true
    | 2, 1 => ((nth fs j).getD none).isSome
    | 3, 2 => true
    | 1, 3 => apartB ((nth fs i).getD none) ((nth fs j).getD none)
    | 3, 1 => apartB ((nth fs i).getD none) ((nth fs j).getD none)
    | _, _ => false))

/-- What is named is there. -/
def inB (m : Nat) (l : List Nat) : Bool := l.all fun k => Nat.blt k m

def heapOk (h : List SO) : Bool := h.all fun o => inB h.length o.names

/-- Objects are only added, and what is named is there. -/
def scopeOk : Nat → List Rc → Bool
  | _, [] => true
  | n, r :: l => Nat.ble n r.h.length && inB r.h.length r.v.names && heapOk r.h && scopeOk r.h.length l

def baseOk (h : List SO) (base : List (Nat × SV)) : Bool := heapOk h && base.all fun e => inB h.length e.2.names

def orderOk (ops : List Oper) (cs : List Nat) (fs : List (Option (List Nat))) : Bool :=
  let ms := masks ops []
  edgesOk ops 0 && ((List.range ops.length).all fun j => (List.range j).all fun i =>
    match nth ops i, nth ops j with
    | some oi, some oj => pairOk ms ops cs fs i j oi oj
    | _, _ => false) && (ops.all fun o => match o.op with | .select .. => false | _ => true)

end Go.Eng
