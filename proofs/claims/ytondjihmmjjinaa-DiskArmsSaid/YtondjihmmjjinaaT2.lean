/- Disk, plain: put. -/
import Derived.Test.YtondjihmmjjinaaM
namespace Go.Proofs.Ytondjihmmjjinaa
open Go Go.Eng
set_option linter.unusedVariables false
set_option linter.unusedSimpArgs false

/-! ### Putting bytes into a string -/
/-- Byte i of a string, 0 behind its end. -/
def byteD (s : List UInt8) (i : Nat) : UInt8 := s.getD i 0
/-- The string with t at a place. -/
def putS (s : List UInt8) (at_ : Nat) (t : List UInt8) : List UInt8 := if t = [] then s else (List.range (max s.length (at_ + t.length))).map fun i => if at_ ≤ i ∧ i < at_ + t.length then byteD t (i - at_) else byteD s i

theorem putS_nil (s : List UInt8) (a : Nat) : putS s a [] = s := by simp [putS]
theorem putS_len {s t : List UInt8} {a : Nat} (h : t ≠ []) : (putS s a t).length = max s.length (a + t.length) := by simp [putS, h]
theorem putS_at {s t : List UInt8} {a : Nat} (h : t ≠ []) {i : Nat} (hi : i < max s.length (a + t.length)) : (putS s a t)[i]? = some (if a ≤ i ∧ i < a + t.length then byteD t (i - a) else byteD s i) := by
  simp only [putS, h, if_false, List.getElem?_map, List.getElem?_range hi, Option.map_some]

theorem byteD_get {s : List UInt8} {i : Nat} (h : i < s.length) : s[i]? = some (byteD s i) := by
  unfold byteD
  rw [List.getD_eq_getElem?_getD, List.getElem?_eq_getElem h]
  rfl
theorem byteD_end {s : List UInt8} {i : Nat} (h : s.length ≤ i) : byteD s i = 0 := by
  unfold byteD
  rw [List.getD_eq_getElem?_getD, List.getElem?_eq_none h]
  rfl
theorem byteD_put {s t : List UInt8} {a : Nat} (h : t ≠ []) (i : Nat) : byteD (putS s a t) i = if a ≤ i ∧ i < a + t.length then byteD t (i - a) else byteD s i := by
  by_cases hi : i < max s.length (a + t.length)
  · have := putS_at (s := s) h hi
    unfold byteD at *
    rw [List.getD_eq_getElem?_getD, this]
    rfl
  · rw [byteD_end (by rw [putS_len h]; omega), if_neg (by omega), byteD_end (by omega)]
theorem ext_byteD {s t : List UInt8} (hl : s.length = t.length) (h : ∀ i, i < s.length → byteD s i = byteD t i) : s = t := by
  apply List.ext_getElem?
  intro i
  by_cases hi : i < s.length
  · rw [byteD_get hi, byteD_get (by omega), h i hi]
  · rw [List.getElem?_eq_none (by omega), List.getElem?_eq_none (by omega)]

theorem byte_back (c : UInt8) : UInt8.ofNat (Int.toNat (c.toNat : Int)) = c := by simp

theorem m47_eq {s t : List UInt8} {a : Int} (h0 : 0 ≤ a) (ha : a + t.length ≤ 16777216) (hs : s.length ≤ 16777216) : m47 s a t = some (putS s a.toNat t) := by
  unfold m47
  by_cases ht : t = []
  · subst ht; simp [putS]
  · have hne : (t == ([] : List UInt8)) = false := by simp [ht]
    rw [hne, cond_false]
    have hw : IntKind.i64.wrap (a + (t.length : Int)) = a + t.length := wrapI (by omega) (by omega)
    simp only [hw, max_eq]
    obtain ⟨n, rfl⟩ := Int.eq_ofNat_of_zero_le h0
    have hm : max ((n : Int) + (t.length : Int)) (s.length : Int) = ((max s.length (n + t.length) : Nat) : Int) := by omega
    have hm' : max (s.length : Int) ((n : Int) + (t.length : Int)) = ((max s.length (n + t.length) : Nat) : Int) := by omega
    simp only [hm, hm', Int.toNat_natCast, List.length_replicate]
    generalize hN : max s.length (n + t.length) = N
    have hN1 : s.length ≤ N := by omega
    have hN2 : n + t.length ≤ N := by omega
    have hNl : N ≤ 16777216 := by omega
    have hp1 : (patch (α := Int) (List.replicate N 0) 0 N (List.map (fun c => (UInt8.toNat c : Int)) s)).length = N := by
      rw [patch_len (by simp)]; simp
    simp only [hp1]
    rw [show (decide ((0 : Int) ≤ (N : Int)) && decide ((N : Int) ≤ (N : Int)) && decide ((N : Int) ≤ (LIM : Int))) = true by unfold LIM; simp; omega, asrtT]
    rw [show bounds true N (n : Int) (N : Int) = true by unfold bounds; simp; omega, asrtT]
    rw [show decide (n + (N - n) ≤ N) = true by simp; omega, asrtT]
    congr 1
    apply List.ext_getElem?
    intro i
    rw [List.getElem?_map, patch_get (by rw [hp1]; omega), patch_get (by simp)]
    simp only [List.length_map, List.getElem?_map, List.getElem?_replicate, Nat.not_lt_zero, if_false, Nat.zero_add, Nat.sub_zero]
    by_cases hi : i < N
    · rw [putS_at ht (by omega)]
      rw [show min t.length (N - n) = t.length by omega, show min s.length N = s.length by omega]
      have hin : Option.map (fun n => UInt8.ofNat (Int.toNat n)) (if i < s.length then Option.map (fun c : UInt8 => (UInt8.toNat c : Int)) s[i]? else if i < N then some 0 else none) = some (byteD s i) := by
        by_cases h2 : i < s.length
        · rw [if_pos h2, byteD_get h2]; simp [byte_back]
        · rw [if_neg h2, if_pos hi, byteD_end (by omega)]; rfl
      by_cases h1 : i < n
      · have hr : ¬ (n ≤ i ∧ i < n + t.length) := by omega
        rw [if_pos h1, if_neg hr]
        exact hin
      · rw [if_neg h1]
        by_cases h3 : i < n + t.length
        · rw [if_pos h3, if_pos ⟨by omega, h3⟩, byteD_get (by omega)]; simp [byte_back]
        · have hr : ¬ (n ≤ i ∧ i < n + t.length) := by omega
          rw [if_neg h3, if_neg hr]
          exact hin
    · rw [List.getElem?_eq_none (l := putS s n t) (by rw [putS_len ht]; omega)]
      rw [show min t.length (N - n) = t.length by omega, show min s.length N = s.length by omega]
      have e1 : ¬ i < n := by omega
      have e2 : ¬ i < n + t.length := by omega
      have e3 : ¬ i < s.length := by omega
      rw [if_neg e1, if_neg e2, if_neg e3, if_neg hi]
      rfl

/-! ### Disk, plain: maps as lists of entries. -/
/-- The keys' == is equality. -/
def EqK (k : GT) : Prop := ∀ x y : k.ty, k.eqv x y = true ↔ x = y
theorem eqK_int : EqK (.int .i64) := fun x y => by simp [GT.eqv]
theorem eqK_sec : EqK G69 := fun x y => by
  obtain ⟨a, b, ⟨⟩⟩ := x
  obtain ⟨c, d, ⟨⟩⟩ := y
  simp [GT.eqv]

section
theorem mem_put {k v : GT} {x : k.ty} {b : v.ty} {q : k.ty × v.ty} : ∀ {es : List (k.ty × v.ty)}, q ∈ putM k v x b es → q.1 = x ∨ q ∈ es
  | [], h => by simp only [putM, List.mem_singleton] at h; exact .inl (by rw [h])
  | e :: es, h => by
    simp only [putM] at h
    cases h2 : k.eqv x e.1 with
    | true =>
      rw [h2] at h
      simp only [cond_true, List.mem_cons] at h
      rcases h with h | h
      · exact .inl (by rw [h])
      · exact .inr (by simp [h])
    | false =>
      rw [h2] at h
      simp only [cond_false, List.mem_cons] at h
      rcases h with h | h
      · exact .inr (by simp [h])
      · rcases mem_put h with h | h
        · exact .inl h
        · exact .inr (by simp [h])

theorem over_key {k v : GT} {f : k.ty × v.ty → Option v.ty} {q : k.ty × v.ty} : ∀ {es : List (k.ty × v.ty)}, q ∈ overM f es → ∃ e ∈ es, e.1 = q.1
  | e :: es, h => by
    simp only [overM, List.filterMap_cons] at h
    cases hf : f e with
    | none =>
      rw [hf] at h
      obtain ⟨e', h1, h2⟩ := over_key (es := es) h
      exact ⟨e', by simp [h1], h2⟩
    | some y =>
      rw [hf] at h
      simp only [Option.map_some, List.mem_cons] at h
      rcases h with rfl | h
      · exact ⟨e, by simp, rfl⟩
      · obtain ⟨e', h1, h2⟩ := over_key (es := es) h
        exact ⟨e', by simp [h1], h2⟩

variable {k v : GT} (hk : EqK k)
include hk
theorem eqv_ne {x y : k.ty} (h : x ≠ y) : k.eqv x y = false := by
  cases e : k.eqv x y with
  | false => rfl
  | true => exact absurd ((hk x y).1 e) h
theorem eqv_self (x : k.ty) : k.eqv x x = true := (hk x x).2 rfl

theorem mapAt_put (x : k.ty) (b : v.ty) : ∀ es : List (k.ty × v.ty), mapAt k v x (putM k v x b es) = some b
  | [] => by simp [putM, mapAt, eqv_self hk]
  | e :: es => by
    simp only [putM]
    cases h : k.eqv x e.1 with
    | true => simp [mapAt, eqv_self hk]
    | false => simp only [cond_false, mapAt, h, mapAt_put x b es]
theorem mapAt_put_ne {x y : k.ty} (h : x ≠ y) (b : v.ty) : ∀ es : List (k.ty × v.ty), mapAt k v x (putM k v y b es) = mapAt k v x es
  | [] => by simp [putM, mapAt, eqv_ne hk h]
  | e :: es => by
    simp only [putM]
    cases h2 : k.eqv y e.1 with
    | true =>
      have : e.1 = y := ((hk _ _).1 h2).symm
      simp only [cond_true, mapAt, eqv_ne hk h, cond_false, this]
    | false => simp only [cond_false, mapAt, mapAt_put_ne h b es]

theorem nodK_put {x : k.ty} {b : v.ty} : ∀ {es : List (k.ty × v.ty)}, nodK k v es = true → nodK k v (putM k v x b es) = true
  | [], _ => by simp [putM, nodK]
  | e :: es, h => by
    simp only [nodK, Bool.and_eq_true, List.all_eq_true, Bool.not_eq_true'] at h
    simp only [putM]
    cases h2 : k.eqv x e.1 with
    | true =>
      have he : e.1 = x := ((hk _ _).1 h2).symm
      simp only [cond_true, nodK, Bool.and_eq_true, List.all_eq_true, Bool.not_eq_true']
      exact ⟨fun q hq => by rw [← he]; exact h.1 q hq, h.2⟩
    | false =>
      simp only [cond_false, nodK, Bool.and_eq_true, List.all_eq_true, Bool.not_eq_true']
      refine ⟨fun q hq => ?_, nodK_put h.2⟩
      rcases mem_put hq with e1 | hq
      · rw [e1]; exact h2
      · exact h.1 q hq

theorem mapAt_mem {x : k.ty} {b : v.ty} : ∀ {es : List (k.ty × v.ty)}, mapAt k v x es = some b → (x, b) ∈ es
  | e :: es, h => by
    simp only [mapAt] at h
    cases h2 : k.eqv x e.1 with
    | true =>
      rw [h2] at h
      simp only [cond_true, Option.some.injEq] at h
      have he : x = e.1 := (hk _ _).1 h2
      subst h; subst he
      simp
    | false =>
      rw [h2] at h
      exact List.mem_cons_of_mem _ (mapAt_mem h)

theorem mapAt_none {x : k.ty} : ∀ {es : List (k.ty × v.ty)}, (∀ q ∈ es, q.1 ≠ x) → mapAt k v x es = none
  | [], _ => rfl
  | e :: es, h => by
    simp only [mapAt, eqv_ne hk (Ne.symm (h e (by simp))), cond_false]
    exact mapAt_none (fun q hq => h q (by simp [hq]))

theorem mapAt_over {f : k.ty × v.ty → Option v.ty} {x : k.ty} : ∀ {es : List (k.ty × v.ty)}, nodK k v es = true → mapAt k v x (overM f es) = (mapAt k v x es).bind fun y => f (x, y)
  | [], _ => rfl
  | e :: es, h => by
    simp only [nodK, Bool.and_eq_true, List.all_eq_true, Bool.not_eq_true'] at h
    have ih := mapAt_over (f := f) (x := x) h.2
    simp only [overM, List.filterMap_cons, mapAt]
    cases h2 : k.eqv x e.1 with
    | true =>
      have he : x = e.1 := (hk _ _).1 h2
      subst he
      cases hf : f e with
      | none =>
        simp only [Option.map_none, cond_true, Option.bind_some]
        rw [show (e.1, e.2) = e from rfl, hf]
        refine mapAt_none hk (fun q hq => ?_)
        obtain ⟨e', h3, h4⟩ := over_key hq
        intro h5
        have := h.1 e' h3
        rw [h4, h5, eqv_self hk] at this
        cases this
      | some y =>
        simp only [Option.map_some, mapAt, eqv_self hk, cond_true, Option.bind_some]
        rw [show (e.1, e.2) = e from rfl, hf]
    | false =>
      simp only [cond_false]
      cases hf : f e with
      | none => exact ih
      | some y =>
        simp only [Option.map_some, mapAt, h2, cond_false]
        exact ih
end
theorem nodK_over {k v : GT} {f : k.ty × v.ty → Option v.ty} : ∀ {es : List (k.ty × v.ty)}, nodK k v es = true → nodK k v (overM f es) = true
  | [], _ => rfl
  | e :: es, h => by
    simp only [nodK, Bool.and_eq_true, List.all_eq_true, Bool.not_eq_true'] at h
    simp only [overM, List.filterMap_cons]
    cases hf : f e with
    | none => exact nodK_over h.2
    | some y =>
      simp only [Option.map_some, nodK, Bool.and_eq_true, List.all_eq_true, Bool.not_eq_true']
      refine ⟨fun q hq => ?_, nodK_over h.2⟩
      obtain ⟨e', h3, h4⟩ := over_key hq
      rw [← h4]
      exact h.1 e' h3

/-! ### Disk, plain: what the acts do, without maps. -/
/-! ### The disk, its files as a function -/
structure A where
  fs : Int → T62
  qu : List T69
  lost : Int
  down : Bool
  armed : Int
  keep : List Int

def setF (g : Int → T62) (f : Int) (x : T62) : Int → T62 := fun h => if h = f then x else g h

/-- Sectors n, n + 1, .. are pending. -/
def addQ (f : Int) : Nat → Int → List T69 → List T69
  | 0, _, q => q
  | m + 1, n, q => addQ f m (n + 1) (if (f, n, ()) ∈ q then q else q ++ [(f, n, ())])

/-- How many sectors a write touches. -/
def cntQ (at_ : Int) (l : Nat) : Nat := ((at_ + l - 1) / 64 - at_ / 64 + 1).toNat

def mayA (a : A) (f : Int) : Int := if a.down = true then 8 else if f < 0 ∨ 16 ≤ f then 1 else 0

def addA (f at_ : Int) (s : List UInt8) (a : A) : A := if s = [] then a else { a with fs := setF a.fs f (putS (a.fs f).1 at_.toNat s, (a.fs f).2.1, ()), qu := addQ f (cntQ at_ s.length) (at_ / 64) a.qu }
/-- The error that prevents a write, or 0. -/
def errW (f at_ : Int) (s : List UInt8) (a : A) : Int :=
  if mayA a f ≠ 0 then mayA a f else if at_ < 0 then 1 else if 16777216 < at_ ∨ 16777216 - at_ < (s.length : Int) then 6 else 0
def writeA (f at_ : Int) (s : List UInt8) (a : A) : Int × A := (errW f at_ s a, if errW f at_ s a = 0 then addA f at_ s a else a)

/-- A sector's bytes. -/
def cutS (s : List UInt8) (n : Int) : List UInt8 := (s.drop (64 * n).toNat).take 64
def oddK (keep : List Int) (i : Nat) : Bool := keep.length != 0 && (gI keep (i % keep.length) % 2 == 1)
/-- What survives of pending sectors. -/
def crF (keep : List Int) : Nat → List T69 → (Int → T62) → (Int → T62)
  | _, [], g => g
  | i, p :: q, g => crF keep (i + 1) q (if oddK keep i = true ∧ 64 * p.2.1 < ((g p.1).1.length : Int) then setF g p.1 ((g p.1).1, putS (g p.1).2.1 (64 * p.2.1).toNat (cutS (g p.1).1 p.2.1), ()) else g)
def crashA (keep : List Int) (a : A) : A := if a.down = true then a else { a with down := true, armed := 0, fs := fun f => ((crF keep 0 a.qu a.fs f).2.1, (crF keep 0 a.qu a.fs f).2.1, ()), qu := [] }

def settleA (f : Int) (s : List UInt8) (a : A) : A := { a with fs := setF a.fs f (s, s, ()), qu := a.qu.filter fun p => !(p.1 == f) }
/-- A call is counted. -/
def cntA (a : A) : A := if a.down = true ∨ a.armed = 0 then a else { a with armed := a.armed - 1 }
/-- The scheduled crash happens in this call. -/
def endsA (a : A) : Bool := !a.down && a.armed == 1
def WriteA (f at_ : Int) (s : List UInt8) (a : A) : Int × A :=
  if endsA a = true then (8, crashA (cntA a).keep (writeA f at_ s (cntA a)).2) else writeA f at_ s (cntA a)
def preA (a : A) : A := if endsA a = true then crashA (cntA a).keep (cntA a) else cntA a
def SyncA (f : Int) (a : A) : Int × A :=
  if mayA (preA a) f ≠ 0 then (mayA (preA a) f, preA a) else if 0 < (preA a).lost then (9, { preA a with lost := (preA a).lost - 1 }) else (0, settleA f ((preA a).fs f).1 (preA a))
def TruncA (f size : Int) (a : A) : Int × A :=
  if mayA (preA a) f ≠ 0 then (mayA (preA a) f, preA a) else if size < 0 ∨ (((preA a).fs f).1.length : Int) < size then (1, preA a) else (0, settleA f (((preA a).fs f).1.take size.toNat) (preA a))
def ReadA (f at_ size : Int) (a : A) : List UInt8 × Int :=
  if mayA a f ≠ 0 then ([], mayA a f) else if at_ < 0 ∨ size < 0 then ([], 1) else (((a.fs f).1.drop at_.toNat).take size.toNat, 0)
/-- An act. -/
def doA (x : T32) (a : A) : Int × A :=
  if x.1 % 8 = 2 then SyncA x.2.1 a else if x.1 % 8 = 3 then TruncA x.2.1 x.2.2.1 a else if x.1 % 8 = 4 then (0, { a with lost := x.2.2.1 % 4 })
  else if x.1 % 8 = 5 then (0, { a with armed := max x.2.2.1 0, keep := x.2.2.2.2.1 }) else if x.1 % 8 = 6 then (0, crashA x.2.2.2.2.1 a) else if x.1 % 8 = 7 then (0, { a with down := false })
  else WriteA x.2.1 x.2.2.1 x.2.2.2.1 a

/-! ### The real disk bears it -/
/-- A map's file. -/
def gF (fs : List (Int × T62)) (f : Int) : T62 := Option.getD (mapAt (.int .i64) G62 f fs) ([], [], ())
/-- Is a sector in the set? -/
def inS (st : List (T69 × Bool)) (p : T69) : Bool := Option.getD (mapAt G69 .bool p st) false

structure Rel (n : Nat) (a : A) (fs : List (Int × T62)) (qu : List T69) (st : List (T69 × Bool)) : Prop where
  hfs : ∀ f, gF fs f = a.fs f
  hqu : qu = a.qu
  hst : ∀ p, inS st p = true ↔ p ∈ a.qu
  nf : nodK (.int .i64) G62 fs = true
  ns : nodK G69 .bool st = true
  len : a.qu.length ≤ 100 * n
  dom : ∀ p ∈ a.qu, 0 ≤ p.2.1 ∧ p.2.1 ≤ 262144
  now : ∀ f, (a.fs f).1.length ≤ 16777216
  last : ∀ f, (a.fs f).2.1.length ≤ 16777216

theorem gF_put (fs : List (Int × T62)) (f : Int) (x : T62) (h : Int) : gF (putM (.int .i64) G62 f x fs) h = if h = f then x else gF fs h := by
  unfold gF
  by_cases e : h = f
  · subst e; rw [if_pos rfl, mapAt_put eqK_int]; rfl
  · rw [if_neg e, mapAt_put_ne eqK_int e]
theorem inS_put (st : List (T69 × Bool)) (p : T69) (q : T69) : inS (putM G69 .bool p true st) q = (decide (q = p) || inS st q) := by
  unfold inS
  by_cases e : q = p
  · subst e; rw [mapAt_put eqK_sec]; simp
  · rw [mapAt_put_ne eqK_sec e]; simp [e]

theorem and7 (x : Int) : IntKind.i64.wrap ((BitVec.ofInt IntKind.i64.bits x &&& BitVec.ofInt IntKind.i64.bits 7).toNat) = x % 8 := by
  have h : (BitVec.ofInt IntKind.i64.bits x &&& BitVec.ofInt IntKind.i64.bits 7).toNat = (x % 8).toNat := by
    show (BitVec.ofInt 64 x &&& BitVec.ofInt 64 7).toNat = _
    rw [BitVec.toNat_and, BitVec.toNat_ofInt, BitVec.toNat_ofInt]
    rw [show ((7 : Int) % ((2 : Nat) ^ 64 : Nat)).toNat = 2 ^ 3 - 1 by decide, Nat.and_two_pow_sub_one_eq_mod]
    omega
  rw [h, wrapI (by omega) (by omega)]
  omega

/-! ### Write -/
theorem addQ_len (f : Int) : ∀ (m : Nat) (n : Int) (q : List T69), (addQ f m n q).length ≤ q.length + m
  | 0, _, q => Nat.le_refl _
  | m + 1, n, q => by
    have := addQ_len f m (n + 1) (if (f, n, ()) ∈ q then q else q ++ [(f, n, ())])
    simp only [addQ]
    split at this <;> simp_all <;> omega

theorem l49_eq {R : Type} {f at_ : Int} {s : List UInt8} {k : List (T69 × Bool) → List T69 → Option R} (h0 : 0 ≤ at_) (hs : 0 < s.length) (ha : at_ + s.length ≤ 16777216) :
    ∀ (m : Nat) (n : Int) (st : List (T69 × Bool)) (q : List T69) (g : Nat), 0 ≤ n → n + m = (at_ + s.length - 1) / 64 + 1 → (∀ p, inS st p = true ↔ p ∈ q) → nodK G69 .bool st = true → q.length + m ≤ 1000000000 →
    ∃ st', l49_1 f at_ s k (g + m + 1) n st q = k st' (addQ f m n q) ∧ (∀ p, inS st' p = true ↔ p ∈ addQ f m n q) ∧ nodK G69 .bool st' = true
  | 0, n, st, q, g, hn, hm, hst, hno, hl => by
    have e1 : IntKind.i64.wrap (Int.tdiv (IntKind.i64.wrap ((IntKind.i64.wrap (at_ + (s.length : Int))) - 1)) 64) = (at_ + s.length - 1) / 64 := by
      rw [wrapI (x := at_ + (s.length : Int)) (by omega) (by omega), wrapI (x := at_ + (s.length : Int) - 1) (by omega) (by omega), tdiv_pos _ (by omega), wrapI (by omega) (by omega)]
    refine ⟨st, ?_, by simpa [addQ] using hst, hno⟩
    simp only [l49_1, s49_1, e1]
    rw [show decide (n ≤ (at_ + s.length - 1) / 64) = false by simp; omega]
    rfl
  | m + 1, n, st, q, g, hn, hm, hst, hno, hl => by
    have e1 : IntKind.i64.wrap (Int.tdiv (IntKind.i64.wrap ((IntKind.i64.wrap (at_ + (s.length : Int))) - 1)) 64) = (at_ + s.length - 1) / 64 := by
      rw [wrapI (x := at_ + (s.length : Int)) (by omega) (by omega), wrapI (x := at_ + (s.length : Int) - 1) (by omega) (by omega), tdiv_pos _ (by omega), wrapI (by omega) (by omega)]
    have e2 : IntKind.i64.wrap (n + 1) = n + 1 := wrapI (by omega) (by omega)
    rw [show g + (m + 1) + 1 = (g + m + 1) + 1 by omega]
    have e3 : ∀ st q, l49_1 f at_ s k ((g + m + 1) + 1) n st q = s49_1 f at_ s (l49_1 f at_ s k (g + m + 1)) k n st q := fun _ _ => rfl
    rw [e3]
    unfold s49_1
    rw [e1, e2]
    rw [show decide (n ≤ (at_ + s.length - 1) / 64) = true by simp; omega, cond_true]
    simp only [addQ]
    cases hin : inS st (f, n, ()) with
    | true =>
      have hm' : (f, n, ()) ∈ q := (hst _).1 hin
      obtain ⟨st', h1, h2, h3⟩ := l49_eq (R := R) (k := k) h0 hs ha m (n + 1) st q g (by omega) (by omega) hst hno (by omega)
      refine ⟨st', ?_, by rw [if_pos hm']; exact h2, h3⟩
      rw [if_pos hm']
      refine Eq.trans (cont_eq (st, q) (fun k2 => ?_)) h1
      rw [show Option.getD (mapAt G69 .bool (f, n, ()) st) false = true from hin]
      rfl
    | false =>
      have hm' : ¬ (f, n, ()) ∈ q := fun h => by rw [(hst _).2 h] at hin; cases hin
      have hst' : ∀ p, inS (putM G69 .bool (f, n, ()) true (putM G69 .bool (f, n, ()) false st)) p = true ↔ p ∈ q ++ [(f, n, ())] := by
        intro p
        rw [inS_put, Bool.or_eq_true, decide_eq_true_eq, List.mem_append, List.mem_singleton]
        by_cases e : p = (f, n, ())
        · simp [e]
        · rw [show inS (putM G69 .bool (f, n, ()) false st) p = inS st p by unfold inS; rw [mapAt_put_ne eqK_sec e], hst]
          simp [e]
      obtain ⟨st', h1, h2, h3⟩ := l49_eq (R := R) (k := k) h0 hs ha m (n + 1) _ (q ++ [(f, n, ())]) g (by omega) (by omega) hst' (nodK_put eqK_sec (nodK_put eqK_sec hno)) (by simp; omega)
      refine ⟨st', ?_, by rw [if_neg hm']; exact h2, h3⟩
      rw [if_neg hm']
      refine Eq.trans (cont_eq (putM G69 .bool (f, n, ()) true (putM G69 .bool (f, n, ()) false st), q ++ [(f, n, ())]) (fun k2 => ?_)) h1
      rw [show Option.getD (mapAt G69 .bool (f, n, ()) st) false = false from hin]
      rw [show decide (List.length (α := T69) q + List.length (α := T69) [(f, n, ())] ≤ LIM) = true by unfold LIM; simp; omega]
      rfl

/-! ### Disk, plain: settle. -/
theorem l45_1_eq {R : Type} {f : Int} {k1 : Option R} {k2 : Int → Option R} {qu : List T69} (hl : qu.length ≤ 1000000000) : ∀ (m i g : Nat), i + m = qu.length → (qu.take i).all (fun q => !(q.1 == f)) = true →
    (qu.all (fun q => !(q.1 == f)) = true ∧ l45_1 (qu.length : Int) qu f k1 k2 (g + m + 1) (i : Int) = k1) ∨
    ∃ j : Nat, j < qu.length ∧ (qu.take j).all (fun q => !(q.1 == f)) = true ∧ (∃ x, qu[j]? = some x ∧ x.1 = f) ∧ l45_1 (qu.length : Int) qu f k1 k2 (g + m + 1) (i : Int) = k2 (j : Int)
  | 0, i, g, hm, ha => by
    left
    have hi : i = qu.length := by omega
    subst hi
    rw [List.take_length] at ha
    refine ⟨ha, ?_⟩
    show s45_1 _ _ _ _ _ _ _ = _
    unfold s45_1
    rw [show decide (((qu.length : Nat) : Int) < (qu.length : Int)) = false by simp]
    rfl
  | m + 1, i, g, hm, ha => by
    have hi : i < qu.length := by omega
    have e : l45_1 (qu.length : Int) qu f k1 k2 (g + (m + 1) + 1) (i : Int) = bif (qu[i].1 == f) then k2 (i : Int) else l45_1 (qu.length : Int) qu f k1 k2 (g + m + 1) ((i + 1 : Nat) : Int) := by
      show s45_1 _ _ _ _ _ _ _ = _
      unfold s45_1
      rw [show decide ((i : Int) < (qu.length : Int)) = true by simp; omega, cond_true]
      rw [show (decide (0 ≤ (i : Int)) && true) = true by simp, asrtT]
      rw [Int.toNat_natCast, List.getElem?_eq_getElem hi, Option.bind_some, wrapI (by omega) (by omega)]
      rfl
    rw [e]
    cases h : (qu[i].1 == f) with
    | true =>
      right
      exact ⟨i, hi, ha, ⟨qu[i], List.getElem?_eq_getElem hi, by simpa using h⟩, rfl⟩
    | false =>
      rw [cond_false]
      refine l45_1_eq hl m (i + 1) g (by omega) ?_
      rw [List.take_add_one, List.getElem?_eq_getElem hi]
      simp only [Option.toList_some, List.all_append, ha, List.all_cons, h, Bool.not_false, List.all_nil, Bool.and_self]

theorem l45_2_eq {R : Type} {f : Int} {k : Int → List T69 → Option R} {qu : List T69} (hl : qu.length ≤ 1000000000) : ∀ (m i j : Nat) (xs : List T69) (g : Nat), j + m = qu.length → i ≤ j → xs.length = qu.length → xs.take i = (qu.take j).filter (fun q => !(q.1 == f)) → xs.drop j = qu.drop j →
    ∃ (xs' : List T69) (i' : Nat), l45_2 f k (g + m + 1) (i : Int) (j : Int) xs = k (i' : Int) xs' ∧ xs'.length = qu.length ∧ i' ≤ qu.length ∧ xs'.take i' = qu.filter (fun q => !(q.1 == f))
  | 0, i, j, xs, g, hm, hij, hx, ht, hd => by
    have hj : j = qu.length := by omega
    subst hj
    rw [List.take_length] at ht
    refine ⟨xs, i, ?_, hx, hij, ht⟩
    show s45_2 _ _ _ _ _ _ = _
    unfold s45_2
    rw [show decide (((qu.length : Nat) : Int) < (xs.length : Int)) = false by simp; omega]
    rfl
  | m + 1, i, j, xs, g, hm, hij, hx, ht, hd => by
    have hj : j < qu.length := by omega
    have hjx : j < xs.length := by omega
    have hix : i < xs.length := by omega
    have hxj : xs[j] = qu[j] := by
      have h1 : (xs.drop j)[0]? = (qu.drop j)[0]? := by rw [hd]
      rw [List.getElem?_drop, List.getElem?_drop, Nat.add_zero, List.getElem?_eq_getElem hjx, List.getElem?_eq_getElem hj] at h1
      exact Option.some.inj h1
    have e : l45_2 f k (g + (m + 1) + 1) (i : Int) (j : Int) xs = bif !(qu[j].1 == f) then l45_2 f k (g + m + 1) ((i + 1 : Nat) : Int) ((j + 1 : Nat) : Int) (xs.set i qu[j]) else l45_2 f k (g + m + 1) (i : Int) ((j + 1 : Nat) : Int) xs := by
      show s45_2 _ _ _ _ _ _ = _
      unfold s45_2
      rw [show decide ((j : Int) < (xs.length : Int)) = true by simp; omega, cond_true]
      rw [show IntKind.i64.wrap ((j : Int) + 1) = ((j + 1 : Nat) : Int) by rw [wrapI (by omega) (by omega)]; rfl]
      refine (cont_eq (bif !(qu[j].1 == f) then (((i + 1 : Nat) : Int), xs.set i qu[j]) else ((i : Int), xs)) (fun k6 => ?_)).trans ?_
      · rw [show (decide (0 ≤ (j : Int)) && true) = true by simp, asrtT]
        rw [Int.toNat_natCast, List.getElem?_eq_getElem hjx, Option.bind_some, hxj]
        cases h : !(qu[j].1 == f) with
        | false => rfl
        | true =>
          rw [cond_true, show (decide (0 ≤ (i : Int)) && decide ((i : Int) < (List.length xs : Int))) = true by simp; omega, asrtT]
          rw [Int.toNat_natCast, List.getElem?_eq_getElem hix, Option.bind_some, show IntKind.i64.wrap ((i : Int) + 1) = ((i + 1 : Nat) : Int) by rw [wrapI (by omega) (by omega)]; rfl]
          rfl
      · cases !(qu[j].1 == f) <;> rfl
    rw [e]
    have htk : (qu.take (j + 1)).filter (fun q => !(q.1 == f)) = (qu.take j).filter (fun q => !(q.1 == f)) ++ (if !(qu[j].1 == f) then [qu[j]] else []) := by
      rw [List.take_add_one, List.getElem?_eq_getElem hj]
      simp only [Option.toList_some, List.filter_append, List.filter_cons, List.filter_nil]
    have hdr : xs.drop (j + 1) = qu.drop (j + 1) := by
      rw [← List.drop_drop, ← List.drop_drop, hd]
    cases h : !(qu[j].1 == f) with
    | true =>
      rw [cond_true]
      refine l45_2_eq hl m (i + 1) (j + 1) _ g (by omega) (by omega) (by rw [List.length_set]; exact hx) ?_ ?_
      · rw [htk, h, if_pos rfl, ← ht, List.take_add_one, List.getElem?_set_self hix]
        simp only [Option.toList_some]
        congr 1
        rw [List.take_set_of_le (Nat.le_refl i)]
      · rw [List.drop_set_of_lt (by omega)]
        exact hdr
    | false =>
      rw [cond_false]
      refine l45_2_eq hl m i (j + 1) xs g (by omega) (by omega) hx ?_ hdr
      rw [htk, h, ht]
      simp

/-! ### Disk, plain: settle, whole. -/
theorem m58_eq {st : List (T69 × Bool)} (h : nodK G69 .bool st = true) (f : Int) : m58 st f = some (((), ()), (overM (fd58 f) st, f, ())) := by
  unfold m58
  rw [h, asrtT]

theorem inS_over {st : List (T69 × Bool)} (h : nodK G69 .bool st = true) (f : Int) (p : T69) : inS (overM (fd58 f) st) p = (inS st p && !(p.1 == f)) := by
  unfold inS
  rw [mapAt_over eqK_sec h]
  cases h1 : mapAt G69 .bool p st with
  | none => simp
  | some b =>
    simp only [Option.bind_some, fd58, Option.getD_some]
    cases p.1 == f <;> simp

/-- The map and the queue behind settle. -/
theorem rel_settle {n : Nat} {a : A} {fs : List (Int × T62)} {qu : List T69} {st : List (T69 × Bool)} (R : Rel n a fs qu st) {f : Int} {s : List UInt8} (hs : s.length ≤ 16777216) :
    Rel n (settleA f s a) (putM (.int .i64) G62 f (s, s, ()) fs) (qu.filter fun q => !(q.1 == f)) (overM (fd58 f) st) where
  hfs := fun h => by
    rw [gF_put, R.hfs]
    rfl
  hqu := by rw [R.hqu]; rfl
  hst := fun p => by
    rw [inS_over R.ns, Bool.and_eq_true, R.hst]
    show _ ↔ p ∈ a.qu.filter fun q => !(q.1 == f)
    rw [List.mem_filter]
  nf := nodK_put eqK_int R.nf
  ns := nodK_over R.ns
  len := Nat.le_trans (List.length_filter_le _ _) R.len
  dom := fun p hp => R.dom p (List.mem_filter.1 hp).1
  now := fun h => by
    show (setF a.fs f (s, s, ()) h).1.length ≤ _
    unfold setF
    split
    · exact hs
    · exact R.now h
  last := fun h => by
    show (setF a.fs f (s, s, ()) h).2.1.length ≤ _
    unfold setF
    split
    · exact hs
    · exact R.last h

theorem m45_eq {n : Nat} {a : A} {fs : List (Int × T62)} {qu : List T69} {st : List (T69 × Bool)} (R : Rel n a fs qu st) (hn : n ≤ 1000) (f : Int) (s : List UInt8) (lost : Int) (down : Bool) (armed : Int) (keep : List Int) :
    m45 f s lost down armed keep fs qu st = some (((), ()), (((), (), (), lost, down, armed, keep, ()), putM (.int .i64) G62 f (s, s, ()) fs, (), (), qu.filter (fun q => !(q.1 == f)), overM (fd58 f) st, ())) := by
  have hl : qu.length ≤ 1000000000 := by have := R.len; rw [R.hqu]; omega
  unfold m45
  obtain ⟨g, hg⟩ := fuel_s (qu.length + 1) (by omega)
  rw [show FUEL = g + qu.length + 1 by omega]
  rcases l45_1_eq (R := F45o.ty) (f := f) (qu := qu) hl qu.length 0 g (by omega) (by simp) with ⟨h1, h2⟩ | ⟨j, h1, h2, ⟨x, h3, h4⟩, h5⟩
  · refine h2.trans ?_
    rw [m58_eq R.ns, List.filter_eq_self.2 (fun q hq => List.all_eq_true.1 h1 q hq)]
    rfl
  · refine h5.trans ?_
    rw [show (((j : Nat) : Int) == (-1)) = false by rw [beq_eq_false_iff_ne]; omega, cond_false]
    have hall : (qu.take j).filter (fun q => !(q.1 == f)) = qu.take j := List.filter_eq_self.2 (fun q hq => List.all_eq_true.1 h2 q hq)
    obtain ⟨g2, hg2⟩ : ∃ g2, g + qu.length + 1 = g2 + (qu.length - (j + 1)) + 1 := ⟨g + (j + 1), by omega⟩
    rw [hg2, show IntKind.i64.wrap ((j : Int) + 1) = ((j + 1 : Nat) : Int) by rw [wrapI (by omega) (by omega)]; rfl]
    obtain ⟨xs', i', e1, e2, e3, e4⟩ := l45_2_eq (R := F45o.ty) (f := f) (qu := qu) hl (qu.length - (j + 1)) j (j + 1) qu g2 (by omega) (by omega) rfl (by
      rw [List.take_add_one, h3, List.filter_append, hall]
      simp [h4]) rfl
    refine e1.trans ?_
    have hlx : i' ≤ xs'.length := by omega
    rw [show bounds true xs'.length (i' : Int) (xs'.length : Int) = true by unfold bounds; simp; omega, asrtT]
    rw [Int.toNat_natCast, show decide (i' + (xs'.length - i') ≤ xs'.length) = true by simp; omega, asrtT]
    have hp : (patch (α := T69) xs' i' (xs'.length - i') (List.replicate (xs'.length - i') (0, 0, ()))).length = xs'.length := patch_len (by omega)
    rw [hp, show bounds true xs'.length 0 (i' : Int) = true by unfold bounds; simp; omega, asrtT, m58_eq R.ns]
    have hsub : subl (patch (α := T69) xs' i' (xs'.length - i') (List.replicate (xs'.length - i') (0, 0, ()))) 0 (i' : Int) = qu.filter (fun q => !(q.1 == f)) := by
      unfold subl patch
      rw [Int.toNat_natCast]
      simp only [Int.toNat_zero, List.drop_zero]
      rw [List.take_append_of_le_length (by simp; omega), List.take_take, Nat.min_self, e4]
    rw [← hsub]
    rfl

/-! ### Disk, plain: a crash. -/
theorem and1 (x : Int) : IntKind.i64.wrap ((BitVec.ofInt IntKind.i64.bits x &&& BitVec.ofInt IntKind.i64.bits 1).toNat) = x % 2 := by
  have h : (BitVec.ofInt IntKind.i64.bits x &&& BitVec.ofInt IntKind.i64.bits 1).toNat = (x % 2).toNat := by
    show (BitVec.ofInt 64 x &&& BitVec.ofInt 64 1).toNat = _
    rw [BitVec.toNat_and, BitVec.toNat_ofInt, BitVec.toNat_ofInt]
    rw [show ((1 : Int) % ((2 : Nat) ^ 64 : Nat)).toNat = 2 ^ 1 - 1 by decide, Nat.and_two_pow_sub_one_eq_mod]
    omega
  rw [h, wrapI (by omega) (by omega)]
  omega
theorem and3 (x : Int) : IntKind.i64.wrap ((BitVec.ofInt IntKind.i64.bits x &&& BitVec.ofInt IntKind.i64.bits 3).toNat) = x % 4 := by
  have h : (BitVec.ofInt IntKind.i64.bits x &&& BitVec.ofInt IntKind.i64.bits 3).toNat = (x % 4).toNat := by
    show (BitVec.ofInt 64 x &&& BitVec.ofInt 64 3).toNat = _
    rw [BitVec.toNat_and, BitVec.toNat_ofInt, BitVec.toNat_ofInt]
    rw [show ((3 : Int) % ((2 : Nat) ^ 64 : Nat)).toNat = 2 ^ 2 - 1 by decide, Nat.and_two_pow_sub_one_eq_mod]
    omega
  rw [h, wrapI (by omega) (by omega)]
  omega

theorem cutS_eq {s : List UInt8} {n : Int} (h0 : 0 ≤ n) (hn : 64 * n < s.length) : subl s (64 * n) (if ((s.length : Int) < 64 * n + 64) then (s.length : Int) else 64 * n + 64) = cutS s n := by
  unfold subl cutS
  obtain ⟨m, rfl⟩ := Int.eq_ofNat_of_zero_le h0
  rw [List.drop_take]
  split
  · rw [show (64 * (m : Int)).toNat = 64 * m by omega, show ((s.length : Int)).toNat = s.length by omega]
    rw [List.take_of_length_le (by rw [List.length_drop]; omega), List.take_of_length_le (by rw [List.length_drop]; omega)]
  · rw [show (64 * (m : Int)).toNat = 64 * m by omega, show (64 * (m : Int) + 64).toNat - 64 * m = 64 by omega]
theorem cutS_len {s : List UInt8} {n : Int} : (cutS s n).length ≤ 64 ∧ (0 ≤ n → (64 * n).toNat + (cutS s n).length ≤ max s.length (64 * n).toNat) := by
  unfold cutS
  rw [List.length_take, List.length_drop]
  constructor
  · omega
  · intro h; omega

/-- A sector that survives. -/
def crS (keep : List Int) (i : Nat) (p : T69) (g : Int → T62) : Int → T62 := if oddK keep i = true ∧ 64 * p.2.1 < ((g p.1).1.length : Int) then setF g p.1 ((g p.1).1, putS (g p.1).2.1 (64 * p.2.1).toNat (cutS (g p.1).1 p.2.1), ()) else g
theorem crF_cons (keep : List Int) (i : Nat) (p : T69) (q : List T69) (g : Int → T62) : crF keep i (p :: q) g = crF keep (i + 1) q (crS keep i p g) := rfl
theorem crS_now (keep : List Int) (i : Nat) (p : T69) (g : Int → T62) (f : Int) : (crS keep i p g f).1 = (g f).1 := by
  unfold crS
  split
  · unfold setF
    split
    · rename_i h; rw [h]
    · rfl
  · rfl
theorem crS_last (keep : List Int) (i : Nat) (p : T69) (g : Int → T62) (hp : 0 ≤ p.2.1) (hg : ∀ f, (g f).1.length ≤ 16777216 ∧ (g f).2.1.length ≤ 16777216) (f : Int) : (crS keep i p g f).2.1.length ≤ 16777216 := by
  unfold crS
  split
  · unfold setF
    split
    · rename_i hc h
      show (putS _ _ _).length ≤ _
      have h1 := hg p.1
      have h2 := (cutS_len (s := (g p.1).1) (n := p.2.1)).2 hp
      by_cases e : cutS (g p.1).1 p.2.1 = []
      · rw [e, putS_nil]; exact h1.2
      · rw [putS_len e]; omega
    · exact (hg f).2
  · exact (hg f).2

theorem l25_eq {R : Type} {keep : List Int} {k : List (Int × T62) → Option R} {qu : List T69} (hl : qu.length ≤ 1000000000) (hkl : keep.length ≤ 1000000000) (hd : ∀ p ∈ qu, 0 ≤ p.2.1 ∧ p.2.1 ≤ 262144) : ∀ (m i g : Nat) (fs : List (Int × T62)) (G : Int → T62), i + m = qu.length →
    (∀ f, gF fs f = G f) → (∀ f, (G f).1.length ≤ 16777216 ∧ (G f).2.1.length ≤ 16777216) → nodK (.int .i64) G62 fs = true →
    ∃ fs', l25_1 keep (qu.length : Int) qu k (g + m + 1) (i : Int) fs = k fs' ∧ (∀ f, gF fs' f = crF keep i (qu.drop i) G f) ∧ nodK (.int .i64) G62 fs' = true ∧ (∀ f, (crF keep i (qu.drop i) G f).2.1.length ≤ 16777216)
  | 0, i, g, fs, G, hm, hG, hb, hn => by
    have hi : i = qu.length := by omega
    subst hi
    refine ⟨fs, ?_, fun f => by rw [List.drop_length]; exact hG f, hn, fun f => by rw [List.drop_length]; exact (hb f).2⟩
    show s25_1 _ _ _ _ _ _ _ = _
    unfold s25_1
    rw [show decide (((qu.length : Nat) : Int) < (qu.length : Int)) = false by simp]
    rfl
  | m + 1, i, g, fs, G, hm, hG, hb, hn => by
    have hi : i < qu.length := by omega
    obtain ⟨hp0, hp1⟩ := hd qu[i] (List.getElem_mem hi)
    have hdr : qu.drop i = qu[i] :: qu.drop (i + 1) := List.drop_eq_getElem_cons hi
    have hgf : ∀ fs : List (Int × T62), ∀ f, Option.getD (mapAt (.int .i64) G62 f fs) (([] : List UInt8), ([] : List UInt8), ()) = gF fs f := fun _ _ => rfl
    rw [hdr, crF_cons]
    obtain ⟨fs1, hfs1, hgf1, hn1⟩ : ∃ fs1, l25_1 keep (qu.length : Int) qu k (g + (m + 1) + 1) (i : Int) fs = l25_1 keep (qu.length : Int) qu k (g + m + 1) ((i + 1 : Nat) : Int) fs1 ∧ (∀ f, gF fs1 f = crS keep i qu[i] G f) ∧ nodK (.int .i64) G62 fs1 = true := by
      have e : ∀ fs1, (∀ k8 : List (Int × T62) → Option R, (asrt (((List.length keep : Int) == 0) == false) ((List.length keep : Int) != 0) (
          (idxG (((List.length keep : Int) == 0) == false) 0 keep (Int.tmod (i : Int) (List.length keep : Int))).bind fun x6 =>
          bif ((((List.length keep : Int) == 0) || ((IntKind.i64.wrap ((BitVec.ofInt IntKind.i64.bits x6 &&& BitVec.ofInt IntKind.i64.bits 1).toNat)) == 0)) || (decide ((IntKind.i64.wrap (qu[i].2.1 * 64)) ≥ (List.length (gF fs qu[i].1).1 : Int)))) then
            k8 fs
          else
            asrt true (bounds true (List.length (gF fs qu[i].1).1) (IntKind.i64.wrap (qu[i].2.1 * 64)) (bif decide ((List.length (gF fs qu[i].1).1 : Int) < (IntKind.i64.wrap ((IntKind.i64.wrap (qu[i].2.1 * 64)) + 64))) then (List.length (gF fs qu[i].1).1 : Int) else (IntKind.i64.wrap ((IntKind.i64.wrap (qu[i].2.1 * 64)) + 64)))) (
              (m47 (gF fs qu[i].1).2.1 (IntKind.i64.wrap (qu[i].2.1 * 64)) (subl (gF fs qu[i].1).1 (IntKind.i64.wrap (qu[i].2.1 * 64)) (bif decide ((List.length (gF fs qu[i].1).1 : Int) < (IntKind.i64.wrap ((IntKind.i64.wrap (qu[i].2.1 * 64)) + 64))) then (List.length (gF fs qu[i].1).1 : Int) else (IntKind.i64.wrap ((IntKind.i64.wrap (qu[i].2.1 * 64)) + 64))))).bind fun r7 =>
              k8 (putM (.int .i64) G62 qu[i].1 ((gF fs qu[i].1).1, r7, ()) fs)))) = k8 fs1) →
          l25_1 keep (qu.length : Int) qu k (g + (m + 1) + 1) (i : Int) fs = l25_1 keep (qu.length : Int) qu k (g + m + 1) ((i + 1 : Nat) : Int) fs1 := by
        intro fs1 h
        show s25_1 _ _ _ _ _ _ _ = _
        unfold s25_1
        rw [show decide ((i : Int) < (qu.length : Int)) = true by simp; omega, cond_true]
        rw [show IntKind.i64.wrap ((i : Int) + 1) = ((i + 1 : Nat) : Int) by rw [wrapI (by omega) (by omega)]; rfl]
        refine cont_eq fs1 (fun k8 => ?_)
        rw [show (decide (0 ≤ (i : Int)) && true) = true by simp, asrtT, Int.toNat_natCast, List.getElem?_eq_getElem hi, Option.bind_some]
        exact h k8
      have hw1 : IntKind.i64.wrap (qu[i].2.1 * 64) = 64 * qu[i].2.1 := by rw [wrapI (by omega) (by omega)]; omega
      have hw2 : IntKind.i64.wrap (64 * qu[i].2.1 + 64) = 64 * qu[i].2.1 + 64 := wrapI (by omega) (by omega)
      simp only [hw1, hw2, cond_if, decide_eq_true_eq, and1] at e
      by_cases hk0 : keep.length = 0
      · refine ⟨fs, e fs (fun k8 => ?_), fun f => ?_, hn⟩
        · have : ((keep.length : Int) == 0) = true := by simp [hk0]
          rw [this]
          rfl
        · rw [hG]; unfold crS oddK; simp [hk0]
      · have hkb : ((keep.length : Int) == 0) = false := by rw [beq_eq_false_iff_ne]; omega
        have hkn : ((keep.length : Int) != 0) = true := bne_ne (by omega)
        have hmod : Int.tmod (i : Int) (keep.length : Int) = ((i % keep.length : Nat) : Int) := by rw [tmod_pos _ (by omega)]; rfl
        have hlt : i % keep.length < keep.length := Nat.mod_lt _ (by omega)
        have hx6 : idxG true 0 keep ((i % keep.length : Nat) : Int) = some (gI keep (i % keep.length)) := by
          unfold idxG
          rw [cond_true, idx_nat, gI_get hlt]
        by_cases ho : oddK keep i = true ∧ 64 * qu[i].2.1 < ((gF fs qu[i].1).1.length : Int)
        · obtain ⟨ho1, ho2⟩ := ho
          have hodd : gI keep (i % keep.length) % 2 = 1 := by
            unfold oddK at ho1
            rw [Bool.and_eq_true] at ho1
            simpa using ho1.2
          have hb1 := hb qu[i].1
          rw [← hG] at hb1
          refine ⟨putM (.int .i64) G62 qu[i].1 ((gF fs qu[i].1).1, putS (gF fs qu[i].1).2.1 (64 * qu[i].2.1).toNat (cutS (gF fs qu[i].1).1 qu[i].2.1), ()) fs, e _ (fun k8 => ?_), fun f => ?_, nodK_put eqK_int hn⟩
          · rw [hkb, hkn, hmod, show (false == false) = true from rfl, asrtT, hx6, Option.bind_some]
            rw [if_neg (by
              rw [hodd]
              simp
              omega)]
            rw [cutS_eq hp0 ho2]
            rw [show bounds true (gF fs qu[i].1).1.length (64 * qu[i].2.1) (if ((gF fs qu[i].1).1.length : Int) < 64 * qu[i].2.1 + 64 then ((gF fs qu[i].1).1.length : Int) else 64 * qu[i].2.1 + 64) = true by
              unfold bounds
              simp only [Bool.and_eq_true, decide_eq_true_eq]
              split <;> omega, asrtT]
            have h64 := (cutS_len (s := (gF fs qu[i].1).1) (n := qu[i].2.1)).1
            have h65 := (cutS_len (s := (gF fs qu[i].1).1) (n := qu[i].2.1)).2 hp0
            rw [m47_eq (by omega) (by omega) hb1.2]
            rfl
          · have hc : oddK keep i = true ∧ 64 * qu[i].2.1 < ((G qu[i].1).1.length : Int) := ⟨ho1, by rw [← hG]; exact ho2⟩
            unfold crS
            rw [if_pos hc, gF_put]
            unfold setF
            simp only [hG]
        · refine ⟨fs, e fs (fun k8 => ?_), fun f => ?_, hn⟩
          · rw [hkb, hkn, hmod, show (false == false) = true from rfl, asrtT, hx6, Option.bind_some]
            rw [if_pos (by
              by_cases h1 : oddK keep i = true
              · have : ¬ 64 * qu[i].2.1 < ((gF fs qu[i].1).1.length : Int) := fun h => ho ⟨h1, h⟩
                simp
                omega
              · unfold oddK at h1
                have h2 : ¬ gI keep (i % keep.length) % 2 = 1 := fun h => h1 (by rw [Bool.and_eq_true]; exact ⟨bne_iff_ne.2 hk0, by simp [h]⟩)
                have h3 : gI keep (i % keep.length) % 2 = 0 := by omega
                simp [h3])]
          · have hc : ¬ (oddK keep i = true ∧ 64 * qu[i].2.1 < ((G qu[i].1).1.length : Int)) := fun h => ho ⟨h.1, by rw [hG]; exact h.2⟩
            unfold crS
            rw [if_neg hc]
            exact hG f
    obtain ⟨fs', h1, h2, h3, h4⟩ := l25_eq (R := R) (k := k) hl hkl hd m (i + 1) g fs1 (crS keep i qu[i] G) (by omega) hgf1 (fun f => ⟨by rw [crS_now]; exact (hb f).1, crS_last keep i qu[i] G hp0 hb f⟩) hn1
    exact ⟨fs', hfs1.trans h1, h2, h3, h4⟩

/-! ### Disk, plain: a crash, whole; the disk's acts. -/
theorem m25_down (kp : List Int) (lost armed : Int) (kf : List Int) (fs : List (Int × T62)) (qu : List T69) (st : List (T69 × Bool)) :
    m25 kp lost true armed kf fs qu st = some (((), ()), (((), (), (), lost, true, armed, kf, ()), fs, (), (), qu, st, ())) := rfl

theorem gF_over {fs : List (Int × T62)} (h : nodK (.int .i64) G62 fs = true) (f : Int) : gF (overM fd25 fs) f = ((gF fs f).2.1, (gF fs f).2.1, ()) := by
  unfold gF
  rw [mapAt_over eqK_int h]
  cases mapAt (.int .i64) G62 f fs <;> rfl

theorem m25_up {n : Nat} {a : A} {fs : List (Int × T62)} {qu : List T69} {st : List (T69 × Bool)} (R : Rel n a fs qu st) (hn : n ≤ 1000) (hd : a.down = false) {kp : List Int} (hk : kp.length ≤ 1000000000) (lost armed : Int) (kf : List Int) :
    ∃ fs', m25 kp lost false armed kf fs qu st = some (((), ()), (((), (), (), lost, true, 0, kf, ()), fs', (), (), [], [], ())) ∧ Rel n (crashA kp a) fs' [] [] := by
  have hl : qu.length ≤ 1000000000 := by have := R.len; rw [R.hqu]; omega
  obtain ⟨g, hg⟩ := fuel_s (qu.length + 1) (by omega)
  obtain ⟨fs1, h1, h2, h3, h4⟩ := l25_eq (R := Bool × F25q.ty) (keep := kp) (k := fun y9 => some (false, (((), ()), (((), (), (), lost, true, 0, kf, ()), y9, qu, st, ())))) (qu := qu) hl hk (fun p hp => R.dom p (by rw [← R.hqu]; exact hp)) qu.length 0 g fs a.fs (by omega) R.hfs (fun f => ⟨R.now f, R.last f⟩) R.nf
  rw [List.drop_zero] at h2 h4
  have hpre : pre25 kp lost false armed kf fs qu st = some (false, (((), ()), (((), (), (), lost, true, 0, kf, ()), fs1, qu, st, ()))) := by
    unfold pre25
    rw [show FUEL = g + qu.length + 1 by omega]
    exact h1
  have hnf : nodK (.int .i64) G62 fs1 = true := h3
  refine ⟨overM fd25 fs1, ?_, ?_⟩
  · unfold m25
    rw [hpre, Option.bind_some]
    show asrt true (nodK (.int .i64) G62 fs1) _ = _
    rw [hnf, asrtT]
    rfl
  · have hc : crashA kp a = { a with down := true, armed := 0, fs := fun f => ((crF kp 0 a.qu a.fs f).2.1, (crF kp 0 a.qu a.fs f).2.1, ()), qu := [] } := by unfold crashA; rw [hd]; rfl
    rw [hc]
    exact {
      hfs := fun f => by
        rw [gF_over hnf, h2, R.hqu]
      hqu := rfl
      hst := fun p => by simp [inS, mapAt]
      nf := nodK_over hnf
      ns := rfl
      len := Nat.zero_le _
      dom := fun p hp => by cases hp
      now := fun f => by rw [← R.hqu]; exact h4 f
      last := fun f => by rw [← R.hqu]; exact h4 f }

/-! ### Disk, plain: write. -/
theorem Rel.more {n m : Nat} {a : A} {fs : List (Int × T62)} {qu : List T69} {st : List (T69 × Bool)} (R : Rel n a fs qu st) (h : n ≤ m) : Rel m a fs qu st :=
  ⟨R.hfs, R.hqu, R.hst, R.nf, R.ns, Nat.le_trans R.len (Nat.mul_le_mul_left _ h), R.dom, R.now, R.last⟩

theorem addQ_dom (f : Int) {p : T69} : ∀ (m : Nat) (n : Int) (q : List T69), p ∈ addQ f m n q → p ∈ q ∨ (p.1 = f ∧ n ≤ p.2.1 ∧ p.2.1 < n + m)
  | 0, _, q, h => .inl h
  | m + 1, n, q, h => by
    simp only [addQ] at h
    rcases addQ_dom f m (n + 1) _ h with h | ⟨h1, h2, h3⟩
    · split at h
      · exact .inl h
      · rcases List.mem_append.1 h with h | h
        · exact .inl h
        · simp only [List.mem_singleton] at h
          subst h
          exact .inr ⟨rfl, by simp, by simp; omega⟩
    · exact .inr ⟨h1, by omega, by omega⟩

theorem m49_eq {n : Nat} {a : A} {fs : List (Int × T62)} {qu : List T69} {st : List (T69 × Bool)} (R : Rel n a fs qu st) (hn : n ≤ 1000) (f at_ : Int) {s : List UInt8} (hs : s.length ≤ 300) (lost armed : Int) (keep : List Int) :
    ∃ fs' qu' st', m49 f at_ s lost a.down armed keep fs qu st = some (((writeA f at_ s a).1, ()), (((), (), (), lost, a.down, armed, keep, ()), fs', (), (), qu', st', ())) ∧ Rel (n + 1) (writeA f at_ s a).2 fs' qu' st' := by
  unfold m49 writeA
  have same : ∀ e : Int, errW f at_ s a = e → e ≠ 0 → ∃ fs' qu' st', (some ((e, ()), (((), (), (), lost, a.down, armed, keep, ()), fs, (), (), qu, st, ())) : Option F49o.ty) = some ((errW f at_ s a, ()), (((), (), (), lost, a.down, armed, keep, ()), fs', (), (), qu', st', ())) ∧ Rel (n + 1) (if errW f at_ s a = 0 then addA f at_ s a else a) fs' qu' st' := by
    intro e he h0
    refine ⟨fs, qu, st, by rw [he], ?_⟩
    rw [he, if_neg h0]
    exact R.more (by omega)
  cases hd : a.down with
  | true =>
    rw [hd] at same
    exact same 8 (by simp [errW, mayA, hd]) (by decide)
  | false =>
    rw [hd] at same
    rw [cond_false]
    by_cases hf : f < 0 ∨ 16 ≤ f
    · have : ((decide (f < 0)) || (decide (f ≥ 16))) = true := by simp; omega
      rw [this, cond_true]
      exact same 1 (by simp [errW, mayA, hd, hf]) (by decide)
    · have : ((decide (f < 0)) || (decide (f ≥ 16))) = false := by simp; omega
      rw [this, cond_false]
      have hmay : mayA a f = 0 := by simp [mayA, hd, hf]
      by_cases h0 : at_ < 0
      · rw [show decide (at_ < 0) = true by simp [h0], cond_true]
        exact same 1 (by simp [errW, hmay, h0]) (by decide)
      · rw [show decide (at_ < 0) = false by simp; omega, cond_false]
        by_cases h1 : 16777216 < at_ ∨ 16777216 - at_ < (s.length : Int)
        · have : ((decide (at_ > 16777216)) || (decide ((List.length s : Int) > (IntKind.i64.wrap (16777216 - at_))))) = true := by
            by_cases h2 : 16777216 < at_
            · simp [h2]
            · rw [wrapI (by omega) (by omega)]; simp; omega
          rw [this, cond_true]
          exact same 6 (by simp [errW, hmay, h0, h1]) (by decide)
        · have : ((decide (at_ > 16777216)) || (decide ((List.length s : Int) > (IntKind.i64.wrap (16777216 - at_))))) = false := by
            rw [wrapI (by omega) (by omega)]; simp; omega
          rw [this, cond_false]
          have herr : errW f at_ s a = 0 := by simp [errW, hmay, h0, h1]
          rw [herr, if_pos rfl]
          by_cases hse : s = []
          · subst hse
            refine ⟨fs, qu, st, rfl, ?_⟩
            rw [show addA f at_ [] a = a by simp [addA]]
            exact R.more (by omega)
          · rw [show (s == ([] : List UInt8)) = false by simp [hse], cond_false]
            have hpos : 0 < s.length := List.length_pos_iff.2 hse
            have hG : Option.getD (mapAt (.int .i64) G62 f fs) (([] : (List UInt8)), ([] : (List UInt8)), ()) = a.fs f := R.hfs f
            rw [hG, m47_eq (by omega) (by omega) (R.now f), Option.bind_some]
            have hc0 : 0 ≤ at_ / 64 ∧ at_ / 64 ≤ (at_ + s.length - 1) / 64 := by omega
            have hcn : ((cntQ at_ s.length : Nat) : Int) = (at_ + s.length - 1) / 64 - at_ / 64 + 1 := by unfold cntQ; omega
            have hc1 : cntQ at_ s.length ≤ 50 := by omega
            obtain ⟨g, hg⟩ := fuel_s (cntQ at_ s.length + 1) (by omega)
            rw [show FUEL = g + cntQ at_ s.length + 1 by omega, tdiv_pos _ (by omega), wrapI (x := at_ / 64) (by omega) (by omega)]
            have hql : qu.length ≤ 100 * n := by rw [R.hqu]; exact R.len
            obtain ⟨st', e1, e2, e3⟩ := l49_eq (R := F49o.ty) (f := f) (at_ := at_) (s := s) (k := fun y3 y4 =>
                some ((0, ()), (((), (), (), lost, false, armed, keep, ()), (putM (.int .i64) G62 f (putS (a.fs f).1 at_.toNat s, (a.fs f).2.1, ()) fs), (), (), y4, y3, ()))) (by omega) hpos (by omega) (cntQ at_ s.length) (at_ / 64) st qu g hc0.1 (by omega) (fun p => by rw [R.hst, R.hqu]) R.ns (by omega)
            refine ⟨_, _, st', e1, ?_⟩
            have ha : addA f at_ s a = { a with fs := setF a.fs f (putS (a.fs f).1 at_.toNat s, (a.fs f).2.1, ()), qu := addQ f (cntQ at_ s.length) (at_ / 64) a.qu } := by simp [addA, hse]
            rw [ha]
            exact {
              hfs := fun h => by
                rw [gF_put, R.hfs]
                rfl
              hqu := by rw [R.hqu]
              hst := fun p => by rw [e2, R.hqu]
              nf := nodK_put eqK_int R.nf
              ns := e3
              len := by
                have := addQ_len f (cntQ at_ s.length) (at_ / 64) a.qu
                have := R.len
                show (addQ f (cntQ at_ s.length) (at_ / 64) a.qu).length ≤ _
                omega
              dom := fun p hp => by
                rcases addQ_dom f _ _ _ hp with hp | ⟨_, h2, h3⟩
                · exact R.dom p hp
                · omega
              now := fun h => by
                show (setF a.fs f _ h).1.length ≤ _
                unfold setF
                split
                · show (putS _ _ _).length ≤ _
                  rw [putS_len hse]
                  have := R.now f
                  omega
                · exact R.now h
              last := fun h => by
                show (setF a.fs f _ h).2.1.length ≤ _
                unfold setF
                split
                · exact R.last f
                · exact R.last h }

/-! ### Disk, plain: the calls. -/
structure Nice (a : A) : Prop where
  armed : 0 ≤ a.armed ∧ a.armed ≤ 9223372036854775807
  lost : 0 ≤ a.lost ∧ a.lost ≤ 9223372036854775807
  keep : a.keep.length ≤ 1000000000

theorem writeA_flags (f at_ : Int) (s : List UInt8) (a : A) : (writeA f at_ s a).2.lost = a.lost ∧ (writeA f at_ s a).2.down = a.down ∧ (writeA f at_ s a).2.armed = a.armed ∧ (writeA f at_ s a).2.keep = a.keep := by
  unfold writeA addA
  split
  · split <;> exact ⟨rfl, rfl, rfl, rfl⟩
  · exact ⟨rfl, rfl, rfl, rfl⟩
theorem cntA_flags (a : A) : (cntA a).lost = a.lost ∧ (cntA a).down = a.down ∧ (cntA a).keep = a.keep ∧ (cntA a).fs = a.fs ∧ (cntA a).qu = a.qu := by
  unfold cntA
  split <;> exact ⟨rfl, rfl, rfl, rfl, rfl⟩
theorem rel_cnt {n : Nat} {a : A} {fs : List (Int × T62)} {qu : List T69} {st : List (T69 × Bool)} (R : Rel n a fs qu st) : Rel n (cntA a) fs qu st := by
  obtain ⟨_, _, _, h4, h5⟩ := cntA_flags a
  exact ⟨fun f => by rw [h4]; exact R.hfs f, by rw [h5]; exact R.hqu, fun p => by rw [h5]; exact R.hst p, R.nf, R.ns, by rw [h5]; exact R.len, fun p hp => R.dom p (by rw [← h5]; exact hp), fun f => by rw [h4]; exact R.now f, fun f => by rw [h4]; exact R.last f⟩
theorem crashA_flags {kp : List Int} {a : A} (h : a.down = false) : (crashA kp a).lost = a.lost ∧ (crashA kp a).down = true ∧ (crashA kp a).armed = 0 ∧ (crashA kp a).keep = a.keep := by
  unfold crashA
  rw [h]
  exact ⟨rfl, rfl, rfl, rfl⟩

theorem m29_eq {n : Nat} {a : A} {fs : List (Int × T62)} {qu : List T69} {st : List (T69 × Bool)} (R : Rel n a fs qu st) (N : Nice a) (hn : n ≤ 900) (f at_ : Int) {s : List UInt8} (hs : s.length ≤ 300) :
    ∃ fs' qu' st', m29 f at_ s a.lost a.down a.armed a.keep fs qu st = some (((WriteA f at_ s a).1, ()), (((), (), (), (WriteA f at_ s a).2.lost, (WriteA f at_ s a).2.down, (WriteA f at_ s a).2.armed, (WriteA f at_ s a).2.keep, ()), fs', (), (), qu', st', ())) ∧ Rel (n + 1) (WriteA f at_ s a).2 fs' qu' st' := by
  obtain ⟨c1, c2, c3, c4, c5⟩ := cntA_flags a
  obtain ⟨w1, w2, w3, w4⟩ := writeA_flags f at_ s (cntA a)
  unfold m29
  by_cases h0 : a.down = true ∨ a.armed = 0
  · have hb : (a.down || (a.armed == 0)) = true := by simpa using h0
    have hc : cntA a = a := by unfold cntA; rw [if_pos h0]
    have he : endsA a = false := by
      unfold endsA
      rcases h0 with h | h
      · simp [h]
      · simp [h]
    have hW : WriteA f at_ s a = writeA f at_ s a := by unfold WriteA; rw [he, hc]; rfl
    rw [hc] at w1 w2 w3 w4
    obtain ⟨fs', qu', st', h1, h2⟩ := m49_eq R (by omega) f at_ hs a.lost a.armed a.keep
    rw [hb, cond_true, h1, hW, w1, w2, w3, w4]
    exact ⟨fs', qu', st', rfl, h2⟩
  · have hd : a.down = false := by
      cases h : a.down with
      | false => rfl
      | true => exact absurd (.inl h) h0
    have ha0 : a.armed ≠ 0 := fun h => h0 (.inr h)
    have hb : (a.down || (a.armed == 0)) = false := by simp [hd, ha0]
    have hc : cntA a = { a with armed := a.armed - 1 } := by unfold cntA; rw [if_neg h0]
    have hN := N.armed
    obtain ⟨fs', qu', st', h1, h2⟩ := m49_eq (rel_cnt R) (by omega) f at_ hs a.lost (a.armed - 1) a.keep
    rw [c2] at h1
    rw [hb, cond_false, wrapI (by omega) (by omega), h1, Option.bind_some]
    by_cases h3 : a.armed = 1
    · have he : endsA a = true := by unfold endsA; simp [hd, h3]
      have hW : WriteA f at_ s a = (8, crashA (cntA a).keep (writeA f at_ s (cntA a)).2) := by unfold WriteA; rw [he]; rfl
      have hwd : (writeA f at_ s (cntA a)).2.down = false := by rw [w2, c2, hd]
      rw [show ((a.armed - 1) == 0) = true by simp [h3], cond_true, hW]
      obtain ⟨fs2, g1, g2⟩ := m25_up h2 (by omega) hwd (kp := (cntA a).keep) (by rw [c3]; exact N.keep) a.lost (a.armed - 1) a.keep
      obtain ⟨k1, k2, k3, k4⟩ := crashA_flags (kp := (cntA a).keep) hwd
      rw [k1, k2, k3, k4, w1, w4, c1, c3]
      rw [c3] at g1 g2
      rw [hd]
      refine ⟨fs2, [], [], ?_, g2⟩
      show (m25 a.keep a.lost false (a.armed - 1) a.keep fs' qu' st').bind _ = _
      rw [g1]
      rfl
    · have he : endsA a = false := by unfold endsA; simp [hd, h3]
      have hW : WriteA f at_ s a = writeA f at_ s (cntA a) := by unfold WriteA; rw [he]; rfl
      rw [show ((a.armed - 1) == 0) = false by rw [beq_eq_false_iff_ne]; omega, cond_false, hW, w1, w2, w3, w4, c1, c2, c3]
      rw [show (cntA a).armed = a.armed - 1 by rw [hc]]
      exact ⟨fs', qu', st', rfl, h2⟩

/-! ### Disk, plain: Sync. -/
noncomputable def bodyS (f lost : Int) (down : Bool) (armed : Int) (keep : List Int) (fs : List (Int × T62)) (qu : List T69) (st : List (T69 × Bool)) : Option F19o.ty :=
  bif down then
    some ((8, ()), (((), (), (), lost, down, armed, keep, ()), fs, (), (), qu, st, ()))
  else
    bif ((decide (f < 0)) || (decide (f ≥ 16))) then
      some ((1, ()), (((), (), (), lost, down, armed, keep, ()), fs, (), (), qu, st, ()))
    else
      bif (decide (lost > 0)) then
        some ((9, ()), (((), (), (), (IntKind.i64.wrap (lost - 1)), down, armed, keep, ()), fs, (), (), qu, st, ()))
      else
        (m45 f ((Option.getD (mapAt (.int .i64) G62 f fs) (([] : (List UInt8)), ([] : (List UInt8)), ())).1) lost down armed keep fs qu st).bind fun r =>
        some ((0, ()), (((), (), (), r.2.1.2.2.2.1, r.2.1.2.2.2.2.1, r.2.1.2.2.2.2.2.1, r.2.1.2.2.2.2.2.2.1, ()), r.2.2.1, (), (), r.2.2.2.2.2.1, r.2.2.2.2.2.2.1, ()))

theorem m19_body (f lost : Int) (down : Bool) (armed : Int) (keep : List Int) (fs : List (Int × T62)) (qu : List T69) (st : List (T69 × Bool)) : m19 f lost down armed keep fs qu st =
    bif (down || (armed == 0)) then bodyS f lost down armed keep fs qu st
    else bif ((IntKind.i64.wrap (armed - 1)) == 0) then (m25 keep lost down (IntKind.i64.wrap (armed - 1)) keep fs qu st).bind fun r => bodyS f r.2.1.2.2.2.1 r.2.1.2.2.2.2.1 r.2.1.2.2.2.2.2.1 r.2.1.2.2.2.2.2.2.1 r.2.2.1 r.2.2.2.2.2.1 r.2.2.2.2.2.2.1
    else bodyS f lost down (IntKind.i64.wrap (armed - 1)) keep fs qu st := rfl

/-- Sync behind what comes first. -/
def SyncB (f : Int) (a : A) : Int × A :=
  if mayA a f ≠ 0 then (mayA a f, a) else if 0 < a.lost then (9, { a with lost := a.lost - 1 }) else (0, settleA f (a.fs f).1 a)
theorem SyncA_eq (f : Int) (a : A) : SyncA f a = SyncB f (preA a) := rfl

theorem bodyS_eq {n : Nat} {a : A} {fs : List (Int × T62)} {qu : List T69} {st : List (T69 × Bool)} (R : Rel n a fs qu st) (N : Nice a) (hn : n ≤ 1000) (f : Int) :
    ∃ fs' qu' st', bodyS f a.lost a.down a.armed a.keep fs qu st = some (((SyncB f a).1, ()), (((), (), (), (SyncB f a).2.lost, (SyncB f a).2.down, (SyncB f a).2.armed, (SyncB f a).2.keep, ()), fs', (), (), qu', st', ())) ∧ Rel n (SyncB f a).2 fs' qu' st' := by
  unfold bodyS SyncB
  cases hd : a.down with
  | true => exact ⟨fs, qu, st, by simp [mayA, hd], by simp [mayA, hd]; exact R⟩
  | false =>
    rw [cond_false]
    by_cases hf : f < 0 ∨ 16 ≤ f
    · rw [show ((decide (f < 0)) || (decide (f ≥ 16))) = true by simp; omega, cond_true]
      exact ⟨fs, qu, st, by simp [mayA, hd, hf], by simp [mayA, hd, hf]; exact R⟩
    · rw [show ((decide (f < 0)) || (decide (f ≥ 16))) = false by simp; omega, cond_false]
      have hmay : mayA a f = 0 := by simp [mayA, hd, hf]
      rw [if_neg (by rw [hmay]; simp)]
      have hL := N.lost
      by_cases hl : 0 < a.lost
      · rw [show decide (a.lost > 0) = true by simpa using hl, cond_true, if_pos hl, wrapI (by omega) (by omega)]
        exact ⟨fs, qu, st, by simp [hd], ⟨R.hfs, R.hqu, R.hst, R.nf, R.ns, R.len, R.dom, R.now, R.last⟩⟩
      · rw [show decide (a.lost > 0) = false by simpa using hl, cond_false, if_neg hl]
        have hG : Option.getD (mapAt (.int .i64) G62 f fs) (([] : (List UInt8)), ([] : (List UInt8)), ()) = a.fs f := R.hfs f
        rw [hG, m45_eq R hn, Option.bind_some]
        exact ⟨_, _, _, by simp [settleA, hd], rel_settle R (R.now f)⟩

/-! ### Disk, plain: what comes before Sync and Truncate; both whole. -/
abbrev BodyT (T : Type) := Int → Bool → Int → List Int → List (Int × T62) → List T69 → List (T69 × Bool) → Option T

theorem pre_run {T : Type} (B : BodyT T) {n : Nat} {a : A} {fs : List (Int × T62)} {qu : List T69} {st : List (T69 × Bool)} (R : Rel n a fs qu st) (N : Nice a) (hn : n ≤ 1000) :
    ∃ fs' qu' st', (bif (a.down || (a.armed == 0)) then B a.lost a.down a.armed a.keep fs qu st
      else bif ((IntKind.i64.wrap (a.armed - 1)) == 0) then (m25 a.keep a.lost a.down (IntKind.i64.wrap (a.armed - 1)) a.keep fs qu st).bind fun r => B r.2.1.2.2.2.1 r.2.1.2.2.2.2.1 r.2.1.2.2.2.2.2.1 r.2.1.2.2.2.2.2.2.1 r.2.2.1 r.2.2.2.2.2.1 r.2.2.2.2.2.2.1
      else B a.lost a.down (IntKind.i64.wrap (a.armed - 1)) a.keep fs qu st) = B (preA a).lost (preA a).down (preA a).armed (preA a).keep fs' qu' st' ∧ Rel n (preA a) fs' qu' st' ∧ Nice (preA a) := by
  obtain ⟨c1, c2, c3, c4, c5⟩ := cntA_flags a
  have hN := N.armed
  by_cases h0 : a.down = true ∨ a.armed = 0
  · have hb : (a.down || (a.armed == 0)) = true := by simpa using h0
    have hc : cntA a = a := by unfold cntA; rw [if_pos h0]
    have he : endsA a = false := by
      unfold endsA
      rcases h0 with h | h
      · simp [h]
      · simp [h]
    have hp : preA a = a := by unfold preA; rw [he, hc]; rfl
    rw [hb, cond_true, hp]
    exact ⟨fs, qu, st, rfl, R, N⟩
  · have hd : a.down = false := by
      cases h : a.down with
      | false => rfl
      | true => exact absurd (.inl h) h0
    have ha0 : a.armed ≠ 0 := fun h => h0 (.inr h)
    have hb : (a.down || (a.armed == 0)) = false := by simp [hd, ha0]
    have hc : cntA a = { a with armed := a.armed - 1 } := by unfold cntA; rw [if_neg h0]
    rw [hb, cond_false, wrapI (by omega) (by omega)]
    by_cases h3 : a.armed = 1
    · have he : endsA a = true := by unfold endsA; simp [hd, h3]
      have hp : preA a = crashA (cntA a).keep (cntA a) := by unfold preA; rw [he]; rfl
      have hwd : (cntA a).down = false := by rw [c2, hd]
      obtain ⟨fs2, g1, g2⟩ := m25_up (rel_cnt R) hn hwd (kp := (cntA a).keep) (by rw [c3]; exact N.keep) a.lost (a.armed - 1) a.keep
      obtain ⟨k1, k2, k3, k4⟩ := crashA_flags (kp := (cntA a).keep) hwd
      rw [show ((a.armed - 1) == 0) = true by simp [h3], cond_true, hp, k1, k2, k3, k4, c1, c3]
      rw [c3] at g1 g2 k1 k3 k4
      refine ⟨fs2, [], [], ?_, g2, ⟨by rw [k3]; decide, by rw [k1, c1]; exact N.lost, by rw [k4]; exact N.keep⟩⟩
      rw [hd, g1]
      rfl
    · have he : endsA a = false := by unfold endsA; simp [hd, h3]
      have hp : preA a = cntA a := by unfold preA; rw [he]; rfl
      rw [show ((a.armed - 1) == 0) = false by rw [beq_eq_false_iff_ne]; omega, cond_false, hp, c1, c2, c3]
      rw [show (cntA a).armed = a.armed - 1 by rw [hc]]
      exact ⟨fs, qu, st, rfl, rel_cnt R, ⟨by rw [hc]; exact ⟨by show 0 ≤ a.armed - 1; omega, by show a.armed - 1 ≤ _; omega⟩, by rw [c1]; exact N.lost, by rw [c3]; exact N.keep⟩⟩

theorem m19_eq {n : Nat} {a : A} {fs : List (Int × T62)} {qu : List T69} {st : List (T69 × Bool)} (R : Rel n a fs qu st) (N : Nice a) (hn : n ≤ 1000) (f : Int) :
    ∃ fs' qu' st', m19 f a.lost a.down a.armed a.keep fs qu st = some (((SyncA f a).1, ()), (((), (), (), (SyncA f a).2.lost, (SyncA f a).2.down, (SyncA f a).2.armed, (SyncA f a).2.keep, ()), fs', (), (), qu', st', ())) ∧ Rel n (SyncA f a).2 fs' qu' st' := by
  obtain ⟨fs1, qu1, st1, h1, R1, N1⟩ := pre_run (bodyS f) R N hn
  rw [m19_body, h1, SyncA_eq]
  exact bodyS_eq R1 N1 hn f

/-! ### Disk, plain: Truncate, Read, Copy. -/
noncomputable def bodyT (f size lost : Int) (down : Bool) (armed : Int) (keep : List Int) (fs : List (Int × T62)) (qu : List T69) (st : List (T69 × Bool)) : Option F30o.ty :=
  bif down then
    some ((8, ()), (((), (), (), lost, down, armed, keep, ()), fs, (), (), qu, st, ()))
  else
    bif ((decide (f < 0)) || (decide (f ≥ 16))) then
      some ((1, ()), (((), (), (), lost, down, armed, keep, ()), fs, (), (), qu, st, ()))
    else
      bif ((decide (size < 0)) == false) then
        bif ((decide (size < 0)) || (decide (size > (List.length (Option.getD (mapAt (.int .i64) G62 f fs) (([] : (List UInt8)), ([] : (List UInt8)), ())).1 : Int)))) then
          some ((1, ()), (((), (), (), lost, down, armed, keep, ()), fs, (), (), qu, st, ()))
        else
          asrt true (bounds true (List.length (Option.getD (mapAt (.int .i64) G62 f fs) (([] : (List UInt8)), ([] : (List UInt8)), ())).1) 0 size) (
            (m45 f (subl (Option.getD (mapAt (.int .i64) G62 f fs) (([] : (List UInt8)), ([] : (List UInt8)), ())).1 0 size) lost down armed keep fs qu st).bind fun r2 =>
            some ((0, ()), (((), (), (), r2.2.1.2.2.2.1, r2.2.1.2.2.2.2.1, r2.2.1.2.2.2.2.2.1, r2.2.1.2.2.2.2.2.2.1, ()), r2.2.2.1, (), (), r2.2.2.2.2.2.1, r2.2.2.2.2.2.2.1, ())))
      else
        bif ((decide (size < 0)) || (decide (size > 0))) then
          some ((1, ()), (((), (), (), lost, down, armed, keep, ()), fs, (), (), qu, st, ()))
        else
          asrt true (bounds true (List.length (Option.getD (mapAt (.int .i64) G62 f fs) (([] : (List UInt8)), ([] : (List UInt8)), ())).1) 0 size) (
            (m45 f (subl (Option.getD (mapAt (.int .i64) G62 f fs) (([] : (List UInt8)), ([] : (List UInt8)), ())).1 0 size) lost down armed keep fs qu st).bind fun r3 =>
            some ((0, ()), (((), (), (), r3.2.1.2.2.2.1, r3.2.1.2.2.2.2.1, r3.2.1.2.2.2.2.2.1, r3.2.1.2.2.2.2.2.2.1, ()), r3.2.2.1, (), (), r3.2.2.2.2.2.1, r3.2.2.2.2.2.2.1, ())))

theorem m30_body (f size lost : Int) (down : Bool) (armed : Int) (keep : List Int) (fs : List (Int × T62)) (qu : List T69) (st : List (T69 × Bool)) : m30 f size lost down armed keep fs qu st =
    bif (down || (armed == 0)) then bodyT f size lost down armed keep fs qu st
    else bif ((IntKind.i64.wrap (armed - 1)) == 0) then (m25 keep lost down (IntKind.i64.wrap (armed - 1)) keep fs qu st).bind fun r => bodyT f size r.2.1.2.2.2.1 r.2.1.2.2.2.2.1 r.2.1.2.2.2.2.2.1 r.2.1.2.2.2.2.2.2.1 r.2.2.1 r.2.2.2.2.2.1 r.2.2.2.2.2.2.1
    else bodyT f size lost down (IntKind.i64.wrap (armed - 1)) keep fs qu st := rfl

def TruncB (f size : Int) (a : A) : Int × A :=
  if mayA a f ≠ 0 then (mayA a f, a) else if size < 0 ∨ ((a.fs f).1.length : Int) < size then (1, a) else (0, settleA f ((a.fs f).1.take size.toNat) a)
theorem TruncA_eq (f size : Int) (a : A) : TruncA f size a = TruncB f size (preA a) := rfl

theorem bodyT_eq {n : Nat} {a : A} {fs : List (Int × T62)} {qu : List T69} {st : List (T69 × Bool)} (R : Rel n a fs qu st) (hn : n ≤ 1000) (f size : Int) :
    ∃ fs' qu' st', bodyT f size a.lost a.down a.armed a.keep fs qu st = some (((TruncB f size a).1, ()), (((), (), (), (TruncB f size a).2.lost, (TruncB f size a).2.down, (TruncB f size a).2.armed, (TruncB f size a).2.keep, ()), fs', (), (), qu', st', ())) ∧ Rel n (TruncB f size a).2 fs' qu' st' := by
  unfold bodyT TruncB
  cases hd : a.down with
  | true => exact ⟨fs, qu, st, by simp [mayA, hd], by simp [mayA, hd]; exact R⟩
  | false =>
    rw [cond_false]
    by_cases hf : f < 0 ∨ 16 ≤ f
    · rw [show ((decide (f < 0)) || (decide (f ≥ 16))) = true by simp; omega, cond_true]
      exact ⟨fs, qu, st, by simp [mayA, hd, hf], by simp [mayA, hd, hf]; exact R⟩
    · rw [show ((decide (f < 0)) || (decide (f ≥ 16))) = false by simp; omega, cond_false]
      have hmay : mayA a f = 0 := by simp [mayA, hd, hf]
      rw [if_neg (by rw [hmay]; simp)]
      have hG : Option.getD (mapAt (.int .i64) G62 f fs) (([] : (List UInt8)), ([] : (List UInt8)), ()) = a.fs f := R.hfs f
      rw [hG]
      by_cases h0 : size < 0
      · rw [show ((decide (size < 0)) == false) = false by simp [h0], cond_false]
        rw [show ((decide (size < 0)) || (decide (size > 0))) = true by simp [h0], cond_true, if_pos (.inl h0)]
        exact ⟨fs, qu, st, by simp [hd], R⟩
      · rw [show ((decide (size < 0)) == false) = true by simp; omega, cond_true]
        by_cases h1 : ((a.fs f).1.length : Int) < size
        · rw [show ((decide (size < 0)) || (decide (size > ((a.fs f).1.length : Int)))) = true by simp; omega, cond_true, if_pos (.inr h1)]
          exact ⟨fs, qu, st, by simp [hd], R⟩
        · rw [show ((decide (size < 0)) || (decide (size > ((a.fs f).1.length : Int)))) = false by simp; omega, cond_false, if_neg (by omega)]
          rw [show bounds true (a.fs f).1.length 0 size = true by unfold bounds; simp; omega, asrtT]
          rw [show subl (a.fs f).1 0 size = (a.fs f).1.take size.toNat by simp [subl], m45_eq R hn, Option.bind_some]
          exact ⟨_, _, _, by simp [settleA, hd], rel_settle R (by rw [List.length_take]; have := R.now f; omega)⟩

theorem m30_eq {n : Nat} {a : A} {fs : List (Int × T62)} {qu : List T69} {st : List (T69 × Bool)} (R : Rel n a fs qu st) (N : Nice a) (hn : n ≤ 1000) (f size : Int) :
    ∃ fs' qu' st', m30 f size a.lost a.down a.armed a.keep fs qu st = some (((TruncA f size a).1, ()), (((), (), (), (TruncA f size a).2.lost, (TruncA f size a).2.down, (TruncA f size a).2.armed, (TruncA f size a).2.keep, ()), fs', (), (), qu', st', ())) ∧ Rel n (TruncA f size a).2 fs' qu' st' := by
  obtain ⟨fs1, qu1, st1, h1, R1, N1⟩ := pre_run (bodyT f size) R N hn
  rw [m30_body, h1, TruncA_eq]
  exact bodyT_eq R1 hn f size

/-! ### Disk, plain: Read, Copy, an act. -/
theorem m20_eq {n : Nat} {a : A} {fs : List (Int × T62)} {qu : List T69} {st : List (T69 × Bool)} (R : Rel n a fs qu st) (f at_ size lost armed : Int) (keep : List Int) :
    m20 f at_ size lost a.down armed keep fs qu st = some ((((ReadA f at_ size a).1, (ReadA f at_ size a).2, ()), ()), (((), (), (), lost, a.down, armed, keep, ()), fs, qu, st, ())) := by
  unfold m20 ReadA
  cases hd : a.down with
  | true => simp [mayA, hd]
  | false =>
    rw [cond_false]
    by_cases hf : f < 0 ∨ 16 ≤ f
    · rw [show ((decide (f < 0)) || (decide (f ≥ 16))) = true by simp; omega, cond_true]
      simp [mayA, hd, hf]
    · rw [show ((decide (f < 0)) || (decide (f ≥ 16))) = false by simp; omega, cond_false]
      have hmay : mayA a f = 0 := by simp [mayA, hd, hf]
      rw [if_neg (by rw [hmay]; simp)]
      have hG : Option.getD (mapAt (.int .i64) G62 f fs) (([] : (List UInt8)), ([] : (List UInt8)), ()) = a.fs f := R.hfs f
      rw [hG]
      by_cases h0 : at_ < 0 ∨ size < 0
      · rw [show ((decide (at_ < 0)) || (decide (size < 0))) = true by simp; omega, cond_true, if_pos h0]
      · rw [show ((decide (at_ < 0)) || (decide (size < 0))) = false by simp; omega, cond_false, if_neg h0]
        generalize (a.fs f).1 = s
        have e1 : subl s (bif decide ((s.length : Int) < at_) then (s.length : Int) else at_) (s.length : Int) = s.drop at_.toNat := by
          unfold subl
          rw [Int.toNat_natCast, List.take_length, cond_if]
          split
          · rename_i h
            have h : (s.length : Int) < at_ := of_decide_eq_true h
            rw [Int.toNat_natCast, List.drop_length, List.drop_eq_nil_of_le (by omega)]
          · rfl
        rw [e1]
        rw [show bounds true s.length (bif decide ((s.length : Int) < at_) then (s.length : Int) else at_) (s.length : Int) = true by
          unfold bounds
          rw [cond_if]
          simp only [Bool.and_eq_true, decide_eq_true_eq]
          split <;> omega, asrtT]
        have e2 : subl (s.drop at_.toNat) 0 (bif decide (((s.drop at_.toNat).length : Int) < size) then ((s.drop at_.toNat).length : Int) else size) = (s.drop at_.toNat).take size.toNat := by
          unfold subl
          rw [cond_if]
          split
          · rename_i h
            have h : ((s.drop at_.toNat).length : Int) < size := of_decide_eq_true h
            simp only [Int.toNat_natCast, Int.toNat_zero, List.drop_zero, List.take_length]
            rw [List.take_of_length_le (by omega)]
          · simp only [Int.toNat_zero, List.drop_zero]
        rw [e2]
        rw [show bounds true (s.drop at_.toNat).length 0 (bif decide (((s.drop at_.toNat).length : Int) < size) then ((s.drop at_.toNat).length : Int) else size) = true by
          unfold bounds
          rw [cond_if]
          simp only [Bool.and_eq_true, decide_eq_true_eq]
          split <;> omega, asrtT]

/-! ### Disk, plain: an act. -/
theorem nice_cnt {a : A} (N : Nice a) : Nice (cntA a) := by
  unfold cntA
  split
  · exact N
  · rename_i h
    have := N.armed
    exact ⟨⟨by show 0 ≤ a.armed - 1; have : a.armed ≠ 0 := fun e => h (.inr e); omega, by show a.armed - 1 ≤ _; omega⟩, N.lost, N.keep⟩
theorem nice_crash {a : A} (N : Nice a) (kp : List Int) : Nice (crashA kp a) := by
  unfold crashA
  split
  · exact N
  · exact ⟨⟨by show (0 : Int) ≤ 0; omega, by show (0 : Int) ≤ _; omega⟩, N.lost, N.keep⟩
theorem nice_write {a : A} (N : Nice a) (f at_ : Int) (s : List UInt8) : Nice (writeA f at_ s a).2 := by
  obtain ⟨w1, w2, w3, w4⟩ := writeA_flags f at_ s a
  exact ⟨by rw [w3]; exact N.armed, by rw [w1]; exact N.lost, by rw [w4]; exact N.keep⟩
theorem nice_pre {a : A} (N : Nice a) : Nice (preA a) := by
  unfold preA
  split
  · exact nice_crash (nice_cnt N) _
  · exact nice_cnt N
theorem nice_Write {a : A} (N : Nice a) (f at_ : Int) (s : List UInt8) : Nice (WriteA f at_ s a).2 := by
  unfold WriteA
  split
  · exact nice_crash (nice_write (nice_cnt N) _ _ _) _
  · exact nice_write (nice_cnt N) _ _ _
theorem nice_Sync {a : A} (N : Nice a) (f : Int) : Nice (SyncA f a).2 := by
  have h := nice_pre N
  unfold SyncA
  split
  · exact h
  · split
    · rename_i hl
      have := h.lost
      exact ⟨h.armed, ⟨by show 0 ≤ (preA a).lost - 1; omega, by show (preA a).lost - 1 ≤ _; omega⟩, h.keep⟩
    · exact ⟨h.armed, h.lost, h.keep⟩
theorem nice_Trunc {a : A} (N : Nice a) (f size : Int) : Nice (TruncA f size a).2 := by
  have h := nice_pre N
  unfold TruncA
  split
  · exact h
  · split
    · exact h
    · exact ⟨h.armed, h.lost, h.keep⟩

theorem crash_eq {n : Nat} {a : A} {fs : List (Int × T62)} {qu : List T69} {st : List (T69 × Bool)} (R : Rel n a fs qu st) (hn : n ≤ 1000) {kp : List Int} (hk : kp.length ≤ 1000000000) :
    ∃ fs' qu' st', m25 kp a.lost a.down a.armed a.keep fs qu st = some (((), ()), (((), (), (), (crashA kp a).lost, (crashA kp a).down, (crashA kp a).armed, (crashA kp a).keep, ()), fs', (), (), qu', st', ())) ∧ Rel n (crashA kp a) fs' qu' st' := by
  cases hd : a.down with
  | true =>
    have : crashA kp a = a := by unfold crashA; rw [hd]; rfl
    rw [this, m25_down, hd]
    exact ⟨fs, qu, st, rfl, R⟩
  | false =>
    obtain ⟨fs', h1, h2⟩ := m25_up R hn hd hk a.lost a.armed a.keep
    obtain ⟨k1, k2, k3, k4⟩ := crashA_flags (kp := kp) hd
    rw [h1, k1, k2, k3, k4]
    exact ⟨fs', [], [], rfl, h2⟩

theorem m12_eq {n : Nat} {a : A} {fs : List (Int × T62)} {qu : List T69} {st : List (T69 × Bool)} (R : Rel n a fs qu st) (N : Nice a) (hn : n ≤ 900) (x : T32) (hs : x.2.2.2.1.length ≤ 300) (hk : x.2.2.2.2.1.length ≤ 60) (hN : x.2.2.1 ≤ 9223372036854775807) :
    ∃ fs' qu' st', m12 x a.lost a.down a.armed a.keep fs qu st = some (((doA x a).1, ()), (((), (), (), (doA x a).2.lost, (doA x a).2.down, (doA x a).2.armed, (doA x a).2.keep, ()), fs', (), (), qu', st', ())) ∧ Rel (n + 1) (doA x a).2 fs' qu' st' ∧ Nice (doA x a).2 := by
  unfold m12 doA
  simp only [and7, and3]
  by_cases h2 : x.1 % 8 = 2
  · rw [show (x.1 % 8 == 2) = true by simp [h2], cond_true, if_pos h2]
    obtain ⟨fs', qu', st', e1, e2⟩ := m19_eq R N (by omega) x.2.1
    rw [e1, Option.bind_some]
    exact ⟨fs', qu', st', rfl, e2.more (by omega), nice_Sync N _⟩
  · rw [show (x.1 % 8 == 2) = false by simp [h2], cond_false, if_neg h2]
    by_cases h3 : x.1 % 8 = 3
    · rw [show (x.1 % 8 == 3) = true by simp [h3], cond_true, if_pos h3]
      obtain ⟨fs', qu', st', e1, e2⟩ := m30_eq R N (by omega) x.2.1 x.2.2.1
      rw [e1, Option.bind_some]
      exact ⟨fs', qu', st', rfl, e2.more (by omega), nice_Trunc N _ _⟩
    · rw [show (x.1 % 8 == 3) = false by simp [h3], cond_false, if_neg h3]
      by_cases h4 : x.1 % 8 = 4
      · rw [show (x.1 % 8 == 4) = true by simp [h4], cond_true, if_pos h4]
        have e : (bif decide (0 > x.2.2.1 % 4) then 0 else x.2.2.1 % 4) = x.2.2.1 % 4 := by
          rw [show decide (0 > x.2.2.1 % 4) = false by simp; omega]; rfl
        rw [e]
        exact ⟨fs, qu, st, rfl, ⟨R.hfs, R.hqu, R.hst, R.nf, R.ns, (R.more (m := n + 1) (by omega)).len, R.dom, R.now, R.last⟩, ⟨N.armed, ⟨by show 0 ≤ x.2.2.1 % 4; omega, by show x.2.2.1 % 4 ≤ _; omega⟩, N.keep⟩⟩
      · rw [show (x.1 % 8 == 4) = false by simp [h4], cond_false, if_neg h4]
        by_cases h5 : x.1 % 8 = 5
        · rw [show (x.1 % 8 == 5) = true by simp [h5], cond_true, if_pos h5, cloneM_eq (by omega), Option.bind_some]
          have e : (bif decide (0 > x.2.2.1) then 0 else x.2.2.1) = max x.2.2.1 0 := by
            rw [cond_if]
            split
            · rename_i h; have := of_decide_eq_true h; omega
            · rename_i h; have : ¬ 0 > x.2.2.1 := fun h' => h (decide_eq_true h'); omega
          rw [e]
          exact ⟨fs, qu, st, rfl, ⟨R.hfs, R.hqu, R.hst, R.nf, R.ns, (R.more (m := n + 1) (by omega)).len, R.dom, R.now, R.last⟩, ⟨⟨by show 0 ≤ max x.2.2.1 0; omega, by show max x.2.2.1 0 ≤ _; omega⟩, N.lost, by show x.2.2.2.2.1.length ≤ _; omega⟩⟩
        · rw [show (x.1 % 8 == 5) = false by simp [h5], cond_false, if_neg h5]
          by_cases h6 : x.1 % 8 = 6
          · rw [show (x.1 % 8 == 6) = true by simp [h6], cond_true, if_pos h6]
            obtain ⟨fs', qu', st', e1, e2⟩ := crash_eq R (by omega) (kp := x.2.2.2.2.1) (by omega)
            rw [e1, Option.bind_some]
            exact ⟨fs', qu', st', rfl, e2.more (by omega), nice_crash N _⟩
          · rw [show (x.1 % 8 == 6) = false by simp [h6], cond_false, if_neg h6]
            by_cases h7 : x.1 % 8 = 7
            · rw [show (x.1 % 8 == 7) = true by simp [h7], cond_true, if_pos h7]
              exact ⟨fs, qu, st, rfl, ⟨R.hfs, R.hqu, R.hst, R.nf, R.ns, (R.more (m := n + 1) (by omega)).len, R.dom, R.now, R.last⟩, ⟨N.armed, N.lost, N.keep⟩⟩
            · rw [show (x.1 % 8 == 7) = false by simp [h7], cond_false, if_neg h7]
              obtain ⟨fs', qu', st', e1, e2⟩ := m29_eq R N hn x.2.1 x.2.2.1 hs
              rw [e1, Option.bind_some]
              exact ⟨fs', qu', st', rfl, e2, nice_Write N _ _ _⟩

end Go.Proofs.Ytondjihmmjjinaa
