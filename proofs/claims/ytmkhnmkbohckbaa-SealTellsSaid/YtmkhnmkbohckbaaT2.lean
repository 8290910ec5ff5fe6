/- Seal: places of entries. -/
import Derived.Test.YtmkhnmkbohckbaaM
namespace Go.Proofs.Ytmkhnmkbohckbaa
open Go Go.Eng
set_option linter.unusedVariables false
set_option linter.unusedSimpArgs false

instance dec31 : DecidableEq T31 := inferInstance
instance dec23 : DecidableEq T23 := inferInstance

theorem eqv31 (x y : T31) : GT.eqv G31 x y = decide (x = y) := by
  obtain ⟨a, b, _⟩ := x
  obtain ⟨c, d, _⟩ := y
  show ((a == c) && ((b == d) && true)) = _
  rw [Bool.eq_iff_iff]
  simp

theorem eq31 (x y : T31) : ((x.1 == y.1) && ((x.2.1 == y.2.1) && true)) = decide (x = y) := by
  obtain ⟨a, b, _⟩ := x
  obtain ⟨c, d, _⟩ := y
  rw [Bool.eq_iff_iff]
  simp

theorem eq23 (x y : T23) : ((x.1 == y.1) && ((x.2.1 == y.2.1) && ((x.2.2.1 == y.2.2.1) && true))) = decide (x = y) := by
  obtain ⟨a, b, c, _⟩ := x
  obtain ⟨a', b', c', _⟩ := y
  rw [Bool.eq_iff_iff]
  simp

/-- The place of an entry. -/
def pos (l : List T31) (e : T31) : Option Nat := l.findIdx? fun x => decide (e = x)

theorem pos_app (l : List T31) (e x : T31) : pos (l ++ [e]) x = (match pos l x with | some i => some i | none => if x = e then some l.length else none) := by
  unfold pos
  rw [List.findIdx?_append]
  cases h : List.findIdx? (fun y => decide (x = y)) l with
  | some i => simp
  | none =>
    by_cases e1 : x = e
    · simp [List.findIdx?_cons, e1]
    · simp [List.findIdx?_cons, e1]

theorem pos_get {l : List T31} {e : T31} {n : Nat} (h : pos l e = some n) : ∃ hn : n < l.length, l[n] = e := by
  unfold pos at h
  obtain ⟨h1, h2, _⟩ := List.findIdx?_eq_some_iff_getElem.1 h
  exact ⟨h1, (of_decide_eq_true h2).symm⟩

theorem pos_none {l : List T31} {e : T31} : pos l e = none ↔ e ∉ l := by
  unfold pos
  rw [List.findIdx?_eq_none_iff]
  constructor
  · intro h hm
    have := h e hm
    simp at this
  · intro h x hx
    simp only [decide_eq_false_iff_not]
    intro e'
    subst e'
    exact h hx

def zi : Nat → List T31 → List (T31 × Int)
  | _, [] => []
  | n, e :: l => (e, (n : Int)) :: zi (n + 1) l

theorem zi_app (e : T31) : ∀ (l : List T31) (n : Nat), zi n (l ++ [e]) = zi n l ++ [(e, ((n + l.length : Nat) : Int))]
  | [], n => rfl
  | x :: l, n => by
    simp only [zi, List.cons_append, zi_app e l (n + 1), List.length_cons]
    rw [show n + 1 + l.length = n + (l.length + 1) by omega]

theorem mapAt_zi (x : T31) : ∀ (l : List T31) (n : Nat), mapAt G31 (.int .i64) x (zi n l) = (pos l x).map fun i => ((n + i : Nat) : Int)
  | [], n => rfl
  | e :: l, n => by
    have ih := mapAt_zi x l (n + 1)
    show (bif GT.eqv G31 x e then some (n : Int) else mapAt G31 (.int .i64) x (zi (n + 1) l)) = _
    rw [eqv31, ih]
    unfold pos
    rw [List.findIdx?_cons]
    by_cases h : x = e
    · simp [h]
    · simp only [decide_eq_false h, cond_false, Bool.false_eq_true, if_false, Option.map_map]
      congr 1
      funext i
      show ((n + 1 + i : Nat) : Int) = ((n + (i + 1) : Nat) : Int)
      congr 1
      omega

/-- A signature holds. -/
def hol (l : List T31) (x : T23) : Bool := match pos l (x.1, x.2.1, ()) with
  | some n => (n : Int) == x.2.2.1
  | none => false

theorem hol_eq (l : List T31) (x : T23) : ((Option.isSome (mapAt G31 (.int .i64) (x.1, x.2.1, ()) (zi 0 l))) && ((Option.getD (mapAt G31 (.int .i64) (x.1, x.2.1, ()) (zi 0 l)) 0) == x.2.2.1)) = hol l x := by
  rw [mapAt_zi]
  unfold hol
  cases pos l (x.1, x.2.1, ()) with
  | none => rfl
  | some n => simp

theorem hol_app (l : List T31) (e : T31) (he : pos l e = none) (x : T23) : hol (l ++ [e]) x = true ↔ hol l x = true ∨ x = (e.1, e.2.1, (l.length : Int), ()) := by
  unfold hol
  rw [pos_app]
  cases h : pos l (x.1, x.2.1, ()) with
  | some n =>
    simp only
    constructor
    · exact .inl
    · rintro (q | q)
      · exact q
      · subst q
        have : pos l e = some n := h
        rw [he] at this; cases this
  | none =>
    obtain ⟨a, b, c, _⟩ := x
    obtain ⟨p, q, _⟩ := e
    simp only [Bool.false_eq_true, false_or]
    by_cases h2 : ((a, b, ()) : T31) = (p, q, ())
    · rw [if_pos h2]
      simp only [Prod.mk.injEq, and_true] at h2
      simp only [beq_iff_eq, Prod.mk.injEq, and_true, h2, true_and]
      exact ⟨fun h => h.symm, fun h => h.symm⟩
    · rw [if_neg h2]
      simp only [Bool.false_eq_true, false_iff, Prod.mk.injEq]
      intro h3
      exact h2 (by rw [h3.1, h3.2.1])

theorem hol_new (l : List T31) (e : T31) (n : Nat) (h : pos l e = some n) : hol l (e.1, e.2.1, (n : Int), ()) = true := by
  unfold hol
  have : pos l (e.1, e.2.1, ()) = some n := h
  simp only [this, beq_self_eq_true]

def KeyP (k : Int) : Prop := 0 ≤ k ∧ k < 200
instance (k : Int) : Decidable (KeyP k) := by unfold KeyP; infer_instance

theorem m21_eq (k : Int) : m21 k = some (decide (KeyP k)) := by
  unfold m21 KeyP
  rw [← Bool.decide_and]

theorem l9_eq (l : List T31) : ∀ (n j : Nat), j ≤ l.length → 41 - j < n → j ≤ 41 → ∃ b, l9_1 l 40 (some (decide ((List.length l : Int) ≤ 40))) (some false) n j = some b ∧ (b = true → l.length ≤ 40)
  | 0, j, _, h, _ => by omega
  | n + 1, j, hj, hn, h41 => by
    unfold l9_1 s9_1
    by_cases c : j < l.length ∧ j ≤ 40
    · obtain ⟨c1, c2⟩ := c
      rw [bifT (by rw [decide_eq_true (show (j : Int) < (l.length : Int) by omega), decide_eq_true (show (j : Int) ≤ 40 by omega)]; rfl), idx_nat, List.getElem?_eq_getElem c1]
      simp only [Option.bind_some]
      by_cases h : (l[j].2.1.length : Int) > 500
      · rw [bifT (decide_eq_true h)]; exact ⟨false, rfl, fun h => by cases h⟩
      · rw [bifF (decide_eq_false h), wrapI (x := (j : Int) + 1) (by omega) (by omega)]
        exact l9_eq l n (j + 1) (by omega) (by omega) (by omega)
    · rw [bifF (by rw [← Bool.decide_and]; exact decide_eq_false (by omega))]
      exact ⟨_, rfl, fun h => by have := of_decide_eq_true h; omega⟩

theorem m9_eq (l : List T31) : ∃ b, m9 l 40 = some b ∧ (b = true → l.length ≤ 40) := l9_eq l FUEL 0 (by omega) (fuel_lt (by omega)) (by omega)

theorem lim {n : Nat} (h : n ≤ 10000) : decide (n ≤ LIM) = true := decide_eq_true (Nat.le_trans h (by decide))

/-- What is known while pairs are signed. -/
structure Made (o2 : List T23) (o3 : List T31) (j : Nat) : Prop where
  l2 : o2.length ≤ j
  l3 : o3.length ≤ j
  holds : ∀ x ∈ o2, hol o3 x = true
  all : ∀ x, hol o3 x = true → x ∈ o2

theorem Made.add {o2 : List T23} {o3 : List T31} {j : Nat} (h : Made o2 o3 j) {e : T31} (he : pos o3 e = none) : Made (o2 ++ [(e.1, e.2.1, (o3.length : Int), ())]) (o3 ++ [e]) (j + 1) where
  l2 := by simp; exact h.l2
  l3 := by simp; exact h.l3
  holds := fun x hx => by
    rw [hol_app _ _ he]
    rcases List.mem_append.1 hx with q | q
    · exact .inl (h.holds x q)
    · exact .inr (List.mem_singleton.1 q)
  all := fun x hx => by
    rcases (hol_app _ _ he x).1 hx with q | q
    · exact List.mem_append_left _ (h.all x q)
    · rw [q]; simp

theorem Made.again {o2 : List T23} {o3 : List T31} {j : Nat} (h : Made o2 o3 j) {e : T31} {n : Nat} (he : pos o3 e = some n) : Made (o2 ++ [(e.1, e.2.1, (n : Int), ())]) o3 (j + 1) where
  l2 := by simp; exact h.l2
  l3 := by have := h.l3; omega
  holds := fun x hx => by
    rcases List.mem_append.1 hx with q | q
    · exact h.holds x q
    · rw [List.mem_singleton.1 q]; exact hol_new _ _ _ he
  all := fun x hx => List.mem_append_left _ (h.all x hx)

theorem Made.skip {o2 : List T23} {o3 : List T31} {j : Nat} (h : Made o2 o3 j) : Made o2 o3 (j + 1) where
  l2 := by have := h.l2; omega
  l3 := by have := h.l3; omega
  holds := h.holds
  all := h.all

theorem l3_1_eq {R : Type} {o2 : List T23} {o3 : List T31} (hh : ∀ x ∈ o2, hol o3 x = true) (hL : o2.length ≤ 10000) (k1 k2 : Option R) : ∀ (m n j : Nat), j + m = o2.length → m < n → l3_1 o2 (zi 0 o3) k1 k2 n j = k1 := by
  intro m
  induction m with
  | zero =>
    intro n j hj hn
    obtain ⟨n, rfl⟩ : ∃ m, n = m + 1 := ⟨n - 1, by omega⟩
    unfold l3_1 s3_1
    rw [bifF (decide_eq_false (by omega))]
  | succ m ih =>
    intro n j hj hn
    obtain ⟨n, rfl⟩ : ∃ m, n = m + 1 := ⟨n - 1, by omega⟩
    have hlt : j < o2.length := by omega
    unfold l3_1 s3_1
    rw [bifT (decide_eq_true (by omega)), asrtP (fun _ => by simp only [Bool.and_eq_true, decide_eq_true_eq]; omega), Int.toNat_natCast, List.getElem?_eq_getElem hlt]
    simp only [Option.bind_some]
    rw [hol_eq, hh _ (List.getElem_mem hlt), wrapI (x := (j : Int) + 1) (by omega) (by omega)]
    exact ih n (j + 1) (by omega) (by omega)

theorem l3_3_eq {R : Type} (s : T23) (o2 : List T23) (hL : o2.length ≤ 40) (k : List T23 → Option R) : ∀ (m n j : Nat) (o3 : List T23), j + m = o2.length → m < n → o3.length ≤ 41 + 4 * j → ∃ a, a.length ≤ 201 ∧ l3_3 s o2 k n j o3 = k a := by
  intro m
  induction m with
  | zero =>
    intro n j o3 hj hn h3
    obtain ⟨n, rfl⟩ : ∃ m, n = m + 1 := ⟨n - 1, by omega⟩
    unfold l3_3 s3_3
    rw [bifF (decide_eq_false (by omega))]
    exact ⟨o3, by omega, rfl⟩
  | succ m ih =>
    intro n j o3 hj hn h3
    obtain ⟨n, rfl⟩ : ∃ m, n = m + 1 := ⟨n - 1, by omega⟩
    have hlt : j < o2.length := by omega
    unfold l3_3 s3_3
    rw [bifT (decide_eq_true (by omega)), asrtP (fun _ => by simp only [Bool.and_eq_true, decide_eq_true_eq]; omega), Int.toNat_natCast, List.getElem?_eq_getElem hlt]
    simp only [Option.bind_some]
    rw [asrtP (fun _ => lim (by simp; omega)), wrapI (x := (j : Int) + 1) (by omega) (by omega)]
    exact ih n (j + 1) _ (by omega) (by omega) (by simp; omega)

theorem l3_4_eq {R : Type} {a o2 : List T23} {i : Nat} (hi : i < a.length) (hL : o2.length ≤ 10000) (k : Bool → Option R) : ∀ (m n j : Nat) (b : Bool), j + m = o2.length → m < n → (b = true ↔ a[i] ∈ o2.take j) →
    ∃ y, l3_4 (i : Int) o2 a k n b j = k y ∧ (y = true ↔ a[i] ∈ o2) := by
  intro m
  induction m with
  | zero =>
    intro n j b hj hn hb
    obtain ⟨n, rfl⟩ : ∃ m, n = m + 1 := ⟨n - 1, by omega⟩
    unfold l3_4 s3_4
    rw [bifF (decide_eq_false (by omega))]
    refine ⟨b, rfl, ?_⟩
    rwa [List.take_of_length_le (by omega)] at hb
  | succ m ih =>
    intro n j b hj hn hb
    obtain ⟨n, rfl⟩ : ∃ m, n = m + 1 := ⟨n - 1, by omega⟩
    have hlt : j < o2.length := by omega
    unfold l3_4 s3_4
    rw [bifT (decide_eq_true (by omega)), wrapI (x := (j : Int) + 1) (by omega) (by omega)]
    have ht : a[i] ∈ o2.take (j + 1) ↔ a[i] ∈ o2.take j ∨ a[i] = o2[j] := by
      rw [List.take_succ_eq_append_getElem hlt, List.mem_append, List.mem_singleton]
    cases b with
    | true =>
      simp only [show ((true : Bool) == false) = false from rfl, asrtF, cond_false, Option.bind_some, Bool.true_or]
      exact ih n (j + 1) true (by omega) (by omega) ⟨fun _ => ht.2 (.inl (hb.1 rfl)), fun _ => rfl⟩
    | false =>
      simp only [beq_self_eq_true, cond_true, Bool.false_or]
      rw [asrtP (fun _ => by simp only [Bool.and_eq_true, decide_eq_true_eq]; omega), Int.toNat_natCast, List.getElem?_eq_getElem hlt]
      simp only [Option.bind_some]
      rw [asrtP (fun _ => by simp only [Bool.and_eq_true, decide_eq_true_eq]; omega), Int.toNat_natCast, List.getElem?_eq_getElem hi]
      simp only [Option.bind_some]
      rw [eq23]
      refine ih n (j + 1) _ (by omega) (by omega) ?_
      rw [ht, decide_eq_true_iff]
      constructor
      · exact fun h => .inr h.symm
      · rintro (h | h)
        · have := hb.2 h; cases this
        · exact h.symm

theorem l3_5_eq {R : Type} {a o2 : List T23} {o3 : List T31} (ha : a.length ≤ 10000) (hL : o2.length ≤ 10000) (hh : ∀ x, hol o3 x = true ↔ x ∈ o2) (k1 k2 : Option R) : ∀ (m n j : Nat), j + m = a.length → m < n → l3_5 o2 a (zi 0 o3) k1 k2 n j = k1 := by
  intro m
  induction m with
  | zero =>
    intro n j hj hn
    obtain ⟨n, rfl⟩ : ∃ m, n = m + 1 := ⟨n - 1, by omega⟩
    unfold l3_5 s3_5
    rw [bifF (decide_eq_false (by omega))]
  | succ m ih =>
    intro n j hj hn
    obtain ⟨n, rfl⟩ : ∃ m, n = m + 1 := ⟨n - 1, by omega⟩
    have hlt : j < a.length := by omega
    unfold l3_5 s3_5
    rw [bifT (decide_eq_true (by omega))]
    obtain ⟨y, q1, q2⟩ := l3_4_eq hlt hL (fun y30 => asrt true (decide (0 ≤ (j : Int)) && decide ((j : Int) < (List.length a : Int))) (
          ((a)[((j : Int) : Int).toNat]?).bind fun x31 =>
          bif (!(((Option.isSome (mapAt G31 (.int .i64) (x31.1, x31.2.1, ()) (zi 0 o3))) && ((Option.getD (mapAt G31 (.int .i64) (x31.1, x31.2.1, ()) (zi 0 o3)) 0) == x31.2.2.1)) == y30)) then
            k2
          else
            l3_5 o2 a (zi 0 o3) k1 k2 n (IntKind.i64.wrap ((j : Int) + 1)))) o2.length FUEL 0 false (by omega) (fuel_lt (by omega)) (by simp)
    refine Eq.trans q1 ?_
    rw [asrtP (fun _ => by simp only [Bool.and_eq_true, decide_eq_true_eq]; omega), Int.toNat_natCast, List.getElem?_eq_getElem hlt]
    simp only [Option.bind_some]
    rw [hol_eq, wrapI (x := (j : Int) + 1) (by omega) (by omega)]
    have e : hol o3 a[j] = y := by rw [Bool.eq_iff_iff, q2, hh]
    rw [e, beq_self_eq_true]
    exact ih n (j + 1) (by omega) (by omega)

/-- The signing loop of SealMakes. -/
theorem l3_2_eq {R : Type} (l : List T31) (hl : l.length ≤ 40) (k1 : List T23 → List T31 → List (T31 × Int) → Option R) (k2 : Option R) : ∀ (m n j : Nat) (o2 : List T23) (o3 : List T31), j + m = l.length → m < n → Made o2 o3 j →
    ∃ p q, Made p q l.length ∧ l3_2 l k1 k2 n j o2 o3 (zi 0 o3) = k1 p q (zi 0 q) := by
  intro m
  induction m with
  | zero =>
    intro n j o2 o3 hj hn hM
    obtain ⟨n, rfl⟩ : ∃ m, n = m + 1 := ⟨n - 1, by omega⟩
    unfold l3_2 s3_2
    rw [bifF (decide_eq_false (by omega))]
    exact ⟨o2, o3, by rwa [show l.length = j by omega], rfl⟩
  | succ m ih =>
    intro n j o2 o3 hj hn hM
    obtain ⟨n, rfl⟩ : ∃ m, n = m + 1 := ⟨n - 1, by omega⟩
    have hlt : j < l.length := by omega
    have h2 := hM.l2
    have h3 := hM.l3
    have ig : ∀ g : Bool, idxG g (0, ([] : List UInt8), ()) l (j : Int) = some (bif g then l[j] else (0, [], ())) := by
      intro g
      unfold idxG
      rw [idx_nat, List.getElem?_eq_getElem hlt]
      cases g <;> rfl
    unfold l3_2 s3_2
    rw [bifT (decide_eq_true (by omega)), idx_nat, List.getElem?_eq_getElem hlt, wrapI (x := (j : Int) + 1) (by omega) (by omega)]
    simp only [cont, Option.bind_some, m21_eq, ig]
    by_cases hk : KeyP l[j].1
    · obtain ⟨k0, k1'⟩ := hk
      rw [decide_eq_true (show KeyP l[j].1 from ⟨k0, k1'⟩), decide_eq_true (show l[j].1 ≥ 0 from k0)]
      simp only [Bool.not_true, beq_self_eq_true, cond_true, cond_false, Bool.true_and, bne_same, Bool.false_or]
      rw [decide_eq_true (show l[j].1 < 200 from k1')]
      simp only [cond_true, Bool.not_true, cond_false]
      have em : mapAt G31 (.int .i64) (l[j].1, l[j].2.1, ()) (zi 0 o3) = (pos o3 l[j]).map fun i => ((0 + i : Nat) : Int) := mapAt_zi _ o3 0
      rw [em]
      cases hp : pos o3 l[j] with
      | none =>
        have hM2 := hM.add hp
        obtain ⟨p, q, r1, r2⟩ := ih n (j + 1) _ _ (by omega) (by omega) hM2
        refine ⟨p, q, r1, ?_⟩
        rw [← r2]
        simp only [Option.map_none, Option.isSome_none, Option.isNone_none, Bool.not_false, cond_true]
        rw [asrtP (fun _ => lim (by simp; omega)), asrtT, asrtP (fun _ => lim (by simp; omega))]
        have ez : (zi 0 o3 ++ [((l[j].1, l[j].2.1, ()), (List.length o3 : Int))]) = zi 0 (o3 ++ [l[j]]) := by
          rw [zi_app, Nat.zero_add]
        rw [ez]
        exact l3_1_eq hM2.holds (by have := hM2.l2; omega) _ _ (o2 ++ [(l[j].1, l[j].2.1, (o3.length : Int), ())]).length FUEL 0 (by omega) (fuel_lt (by have := hM2.l2; omega))
      | some i =>
        have hM2 := hM.again hp
        obtain ⟨p, q, r1, r2⟩ := ih n (j + 1) _ _ (by omega) (by omega) hM2
        refine ⟨p, q, r1, ?_⟩
        rw [← r2]
        simp only [Option.map_some, Option.isSome_some, Bool.not_true, cond_false, Option.getD_some, Nat.zero_add]
        rw [asrtP (fun _ => lim (by simp; omega))]
        exact l3_1_eq hM2.holds (by have := hM2.l2; omega) _ _ (o2 ++ [(l[j].1, l[j].2.1, (i : Int), ())]).length FUEL 0 (by omega) (fuel_lt (by have := hM2.l2; omega))
    · rw [decide_eq_false hk]
      simp only [Bool.not_false, cond_true]
      have hc : (decide (l[j].1 ≥ 0) && decide (((bif (decide (l[j].1 ≥ 0) == true) then l[j] else ((0, [], ()) : T31)) : T31).1 < 200)) = false := by
        unfold KeyP at hk
        by_cases h0 : l[j].1 ≥ 0
        · rw [decide_eq_true h0]
          simp only [beq_self_eq_true, cond_true, Bool.true_and]
          exact decide_eq_false (by omega)
        · rw [decide_eq_false h0]; rfl
      rw [hc]
      simp only [cond_false, beq_self_eq_true, Bool.and_self, Bool.not_true]
      obtain ⟨p, q, r1, r2⟩ := ih n (j + 1) o2 o3 (by omega) (by omega) hM.skip
      refine ⟨p, q, r1, ?_⟩
      rw [← r2]
      exact l3_1_eq hM.holds (by omega) _ _ o2.length FUEL 0 (by omega) (fuel_lt (by omega))

theorem made0 : Made [] [] 0 := ⟨by simp, by simp, fun x hx => (by cases hx), fun x hx => (by cases hx)⟩

theorem small7 : m7 = some true := rfl

theorem sealMakes (l : List T31) (s : T23) : m3 l s = some true := by
  unfold m3
  rw [small7]
  simp only [Option.bind_some]
  obtain ⟨b, eb, hb⟩ := m9_eq l
  rw [eb]
  simp only [Option.bind_some]
  cases b with
  | false => rfl
  | true =>
    have hl := hb rfl
    simp only [Bool.not_true, cond_false]
    obtain ⟨p, q, r1, r2⟩ := l3_2_eq l hl (fun y23 y24 y25 =>
        asrt true (decide (List.length (α := T23) [s] + List.length (α := T23) y23 ≤ LIM)) (
          l3_3 s y23 (fun y27 => l3_5 y23 y27 y25 (some true) (some false) FUEL 0) FUEL 0 ([s] ++ y23))) (some false) l.length FUEL 0 [] [] (by omega) (fuel_lt (by omega)) made0
    refine Eq.trans r2 ?_
    have h2 := r1.l2
    rw [asrtP (fun _ => lim (by simp; omega))]
    obtain ⟨a, a1, a2⟩ := l3_3_eq s p (by omega) (fun y27 => l3_5 p y27 (zi 0 q) (some true) (some false) FUEL 0) p.length FUEL 0 ([s] ++ p) (by omega) (fuel_lt (by omega)) (by simp; omega)
    refine Eq.trans a2 ?_
    exact l3_5_eq (by omega) (by omega) (fun x => ⟨r1.all x, r1.holds x⟩) _ _ a.length FUEL 0 (by omega) (fuel_lt (by omega))

end Go.Proofs.Ytmkhnmkbohckbaa
