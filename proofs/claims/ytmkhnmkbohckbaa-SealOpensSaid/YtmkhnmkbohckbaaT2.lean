/- Seal: rings that are opened from entries, plainly. -/
import Derived.Test.YtmkhnmkbohckbaaM
namespace Go.Proofs.Ytmkhnmkbohckbaa
open Go Go.Eng
set_option linter.unusedVariables false
set_option linter.unusedSimpArgs false

theorem eqv31 (x y : T31) : GT.eqv G31 x y = decide (x = y) := by
  obtain ⟨a, b, _⟩ := x
  obtain ⟨c, d, _⟩ := y
  show ((a == c) && ((b == d) && true)) = _
  rw [Bool.eq_iff_iff]
  simp

theorem eq31 (x y : T31) : ((x.1 == y.1) && ((x.2.1 == y.2.1) && true)) = decide (x = y) := by
  obtain ⟨a, b, _⟩ := x
  obtain ⟨c, d, _⟩ := y
  rw [Bool.eq_iff_iff]
  simp

theorem eq23 (x y : T23) : ((x.1 == y.1) && ((x.2.1 == y.2.1) && ((x.2.2.1 == y.2.2.1) && true))) = decide (x = y) := by
  obtain ⟨a, b, c, _⟩ := x
  obtain ⟨a', b', c', _⟩ := y
  rw [Bool.eq_iff_iff]
  simp

/-- The place of an entry. -/
def pos (l : List T31) (e : T31) : Option Nat := l.findIdx? fun x => decide (e = x)

theorem pos_app (l : List T31) (e x : T31) : pos (l ++ [e]) x = (match pos l x with | some i => some i | none => if x = e then some l.length else none) := by
  unfold pos
  rw [List.findIdx?_append]
  cases h : List.findIdx? (fun y => decide (x = y)) l with
  | some i => simp
  | none =>
    by_cases e1 : x = e
    · simp [List.findIdx?_cons, e1]
    · simp [List.findIdx?_cons, e1]

theorem pos_get {l : List T31} {e : T31} {n : Nat} (h : pos l e = some n) : ∃ hn : n < l.length, l[n] = e := by
  unfold pos at h
  obtain ⟨h1, h2, _⟩ := List.findIdx?_eq_some_iff_getElem.1 h
  exact ⟨h1, (of_decide_eq_true h2).symm⟩

theorem pos_none {l : List T31} {e : T31} : pos l e = none ↔ e ∉ l := by
  unfold pos
  rw [List.findIdx?_eq_none_iff]
  constructor
  · intro h hm
    have := h e hm
    simp at this
  · intro h x hx
    simp only [decide_eq_false_iff_not]
    intro e'
    subst e'
    exact h hx

def zi : Nat → List T31 → List (T31 × Int)
  | _, [] => []
  | n, e :: l => (e, (n : Int)) :: zi (n + 1) l

theorem zi_app (e : T31) : ∀ (l : List T31) (n : Nat), zi n (l ++ [e]) = zi n l ++ [(e, ((n + l.length : Nat) : Int))]
  | [], n => rfl
  | x :: l, n => by
    simp only [zi, List.cons_append, zi_app e l (n + 1), List.length_cons]
    rw [show n + 1 + l.length = n + (l.length + 1) by omega]

theorem mapAt_zi (x : T31) : ∀ (l : List T31) (n : Nat), mapAt G31 (.int .i64) x (zi n l) = (pos l x).map fun i => ((n + i : Nat) : Int)
  | [], n => rfl
  | e :: l, n => by
    have ih := mapAt_zi x l (n + 1)
    show (bif GT.eqv G31 x e then some (n : Int) else mapAt G31 (.int .i64) x (zi (n + 1) l)) = _
    rw [eqv31, ih]
    unfold pos
    rw [List.findIdx?_cons]
    by_cases h : x = e
    · simp [h]
    · simp only [decide_eq_false h, cond_false, Bool.false_eq_true, if_false, Option.map_map]
      congr 1
      funext i
      show ((n + 1 + i : Nat) : Int) = ((n + (i + 1) : Nat) : Int)
      congr 1
      omega

/-- A signature holds. -/
def hol (l : List T31) (x : T23) : Bool := match pos l (x.1, x.2.1, ()) with
  | some n => (n : Int) == x.2.2.1
  | none => false

theorem hol_eq (l : List T31) (x : T23) : ((Option.isSome (mapAt G31 (.int .i64) (x.1, x.2.1, ()) (zi 0 l))) && ((Option.getD (mapAt G31 (.int .i64) (x.1, x.2.1, ()) (zi 0 l)) 0) == x.2.2.1)) = hol l x := by
  rw [mapAt_zi]
  unfold hol
  cases pos l (x.1, x.2.1, ()) with
  | none => rfl
  | some n => simp

theorem hol_app (l : List T31) (e : T31) (he : pos l e = none) (x : T23) : hol (l ++ [e]) x = true ↔ hol l x = true ∨ x = (e.1, e.2.1, (l.length : Int), ()) := by
  unfold hol
  rw [pos_app]
  cases h : pos l (x.1, x.2.1, ()) with
  | some n =>
    simp only
    constructor
    · exact .inl
    · rintro (q | q)
      · exact q
      · subst q
        have : pos l e = some n := h
        rw [he] at this; cases this
  | none =>
    obtain ⟨a, b, c, _⟩ := x
    obtain ⟨p, q, _⟩ := e
    simp only [Bool.false_eq_true, false_or]
    by_cases h2 : ((a, b, ()) : T31) = (p, q, ())
    · rw [if_pos h2]
      simp only [Prod.mk.injEq, and_true] at h2
      simp only [beq_iff_eq, Prod.mk.injEq, and_true, h2, true_and]
      exact ⟨fun h => h.symm, fun h => h.symm⟩
    · rw [if_neg h2]
      simp only [Bool.false_eq_true, false_iff, Prod.mk.injEq]
      intro h3
      exact h2 (by rw [h3.1, h3.2.1])

theorem hol_new (l : List T31) (e : T31) (n : Nat) (h : pos l e = some n) : hol l (e.1, e.2.1, (n : Int), ()) = true := by
  unfold hol
  have : pos l (e.1, e.2.1, ()) = some n := h
  simp only [this, beq_self_eq_true]

def KeyP (k : Int) : Prop := 0 ≤ k ∧ k < 200
instance (k : Int) : Decidable (KeyP k) := by unfold KeyP; infer_instance

theorem m21_eq (k : Int) : m21 k = some (decide (KeyP k)) := by
  unfold m21 KeyP
  rw [← Bool.decide_and]

theorem l9_eq (l : List T31) : ∀ (n j : Nat), j ≤ l.length → 41 - j < n → j ≤ 41 → ∃ b, l9_1 l 40 (some (decide ((List.length l : Int) ≤ 40))) (some false) n j = some b ∧ (b = true → l.length ≤ 40)
  | 0, j, _, h, _ => by omega
  | n + 1, j, hj, hn, h41 => by
    unfold l9_1 s9_1
    by_cases c : j < l.length ∧ j ≤ 40
    · obtain ⟨c1, c2⟩ := c
      rw [bifT (by rw [decide_eq_true (show (j : Int) < (l.length : Int) by omega), decide_eq_true (show (j : Int) ≤ 40 by omega)]; rfl), idx_nat, List.getElem?_eq_getElem c1]
      simp only [Option.bind_some]
      by_cases h : (l[j].2.1.length : Int) > 500
      · rw [bifT (decide_eq_true h)]; exact ⟨false, rfl, fun h => by cases h⟩
      · rw [bifF (decide_eq_false h), wrapI (x := (j : Int) + 1) (by omega) (by omega)]
        exact l9_eq l n (j + 1) (by omega) (by omega) (by omega)
    · rw [bifF (by rw [← Bool.decide_and]; exact decide_eq_false (by omega))]
      exact ⟨_, rfl, fun h => by have := of_decide_eq_true h; omega⟩

theorem m9_eq (l : List T31) : ∃ b, m9 l 40 = some b ∧ (b = true → l.length ≤ 40) := l9_eq l FUEL 0 (by omega) (fuel_lt (by omega)) (by omega)

theorem lim {n : Nat} (h : n ≤ 10000) : decide (n ≤ LIM) = true := decide_eq_true (Nat.le_trans h (by decide))

theorem pos_mem {l : List T31} {e : T31} : (∃ n, pos l e = some n) ↔ e ∈ l := by
  cases h : pos l e with
  | some n =>
    refine ⟨fun _ => ?_, fun _ => ⟨n, rfl⟩⟩
    obtain ⟨hn, h2⟩ := pos_get h
    rw [← h2]; exact List.getElem_mem hn
  | none =>
    refine ⟨fun ⟨n, hn⟩ => (by cases hn), fun hm => absurd hm (pos_none.1 h)⟩

theorem l12_eq {R : Type} (a b : List T31) (hl : a.length = b.length) (hL : a.length ≤ 100000) (k1 k2 : Option R) : ∀ (m n j : Nat), j + m = a.length → m < n → a.take j = b.take j →
    l12_1 a b k1 k2 n j = if a = b then k1 else k2 := by
  intro m
  induction m with
  | zero =>
    intro n j hj hn ht
    obtain ⟨n, rfl⟩ : ∃ m, n = m + 1 := ⟨n - 1, by omega⟩
    unfold l12_1 s12_1
    rw [bifF (decide_eq_false (by omega)), if_pos]
    rwa [List.take_of_length_le (by omega), List.take_of_length_le (by omega)] at ht
  | succ m ih =>
    intro n j hj hn ht
    obtain ⟨n, rfl⟩ : ∃ m, n = m + 1 := ⟨n - 1, by omega⟩
    have h1 : j < a.length := by omega
    have h2 : j < b.length := by omega
    unfold l12_1 s12_1
    rw [bifT (decide_eq_true (by omega)), idx_nat, List.getElem?_eq_getElem h1, idx_nat, List.getElem?_eq_getElem h2]
    simp only [Option.bind_some]
    rw [eq31]
    by_cases e : a[j] = b[j]
    · rw [decide_eq_true e, wrapI (x := (j : Int) + 1) (by omega) (by omega)]
      simp only [Bool.not_true, cond_false]
      exact ih n (j + 1) (by omega) (by omega) (by rw [List.take_succ_eq_append_getElem h1, List.take_succ_eq_append_getElem h2, ht, e])
    · rw [decide_eq_false e, if_neg (fun h => e (by subst h; rfl))]
      rfl

theorem m12_eq (a b : List T31) (hL : a.length ≤ 100000) : m12 a b = some (decide (a = b)) := by
  unfold m12
  by_cases hl : a.length = b.length
  · rw [bifF (by rw [hl]; exact bne_same _)]
    refine Eq.trans (l12_eq a b hl hL (some true) (some false) a.length FUEL 0 (by omega) (fuel_lt (by omega)) rfl) ?_
    by_cases h : a = b
    · rw [if_pos h, decide_eq_true h]
    · rw [if_neg h, decide_eq_false h]
  · rw [bifT (bne_ne (by omega)), decide_eq_false (fun h => hl (by rw [h]))]


theorem small7 : m7 = some true := rfl

/-- What is known while pairs are signed. -/
structure Opn (o2 : List T23) (q : List T31) (j : Nat) : Prop where
  l2 : o2.length ≤ j
  l3 : q.length ≤ j
  holds : ∀ x ∈ o2, hol q x = true
  once : q.Nodup
  keys : ∀ e ∈ q, KeyP e.1

theorem Opn.add {o2 : List T23} {q : List T31} {j : Nat} (h : Opn o2 q j) {e : T31} (he : pos q e = none) (hk : KeyP e.1) : Opn (o2 ++ [(e.1, e.2.1, (q.length : Int), ())]) (q ++ [e]) (j + 1) where
  l2 := by simp; exact h.l2
  l3 := by simp; exact h.l3
  holds := fun x hx => by
    rw [hol_app _ _ he]
    rcases List.mem_append.1 hx with c | c
    · exact .inl (h.holds x c)
    · exact .inr (by simpa using c)
  once := by
    rw [List.nodup_append]
    refine ⟨h.once, by simp, fun a ha b hb => ?_⟩
    rw [List.mem_singleton] at hb
    subst hb
    intro e2
    subst e2
    exact pos_none.1 he ha
  keys := fun x hx => by
    rcases List.mem_append.1 hx with c | c
    · exact h.keys x c
    · rw [List.mem_singleton] at c; subst c; exact hk

theorem Opn.again {o2 : List T23} {q : List T31} {j : Nat} (h : Opn o2 q j) {e : T31} {n : Nat} (he : pos q e = some n) : Opn (o2 ++ [(e.1, e.2.1, (n : Int), ())]) q (j + 1) where
  l2 := by simp; exact h.l2
  l3 := by have := h.l3; omega
  holds := fun x hx => by
    rcases List.mem_append.1 hx with c | c
    · exact h.holds x c
    · rw [List.mem_singleton] at c; subst c; exact hol_new _ _ _ he
  once := h.once
  keys := h.keys

theorem Opn.skip {o2 : List T23} {q : List T31} {j : Nat} (h : Opn o2 q j) : Opn o2 q (j + 1) where
  l2 := by have := h.l2; omega
  l3 := by have := h.l3; omega
  holds := h.holds
  once := h.once
  keys := h.keys

theorem l6_1_eq {R : Type} (l : List T31) (hl : l.length ≤ 40) (k1 : List T23 → List T31 → List (T31 × Int) → Option R) : ∀ (m n j : Nat) (o2 : List T23) (o3 : List T31), j + m = l.length → m < n → Opn o2 o3 j →
    ∃ p q, Opn p q l.length ∧ l6_1 l k1 n j o2 o3 (zi 0 o3) = k1 p q (zi 0 q) := by
  intro m
  induction m with
  | zero =>
    intro n j o2 o3 hj hn hM
    obtain ⟨n, rfl⟩ : ∃ m, n = m + 1 := ⟨n - 1, by omega⟩
    unfold l6_1 s6_1
    rw [bifF (decide_eq_false (by omega))]
    exact ⟨o2, o3, by rwa [show l.length = j by omega], rfl⟩
  | succ m ih =>
    intro n j o2 o3 hj hn hM
    obtain ⟨n, rfl⟩ : ∃ m, n = m + 1 := ⟨n - 1, by omega⟩
    have hlt : j < l.length := by omega
    have h2 := hM.l2
    have h3 := hM.l3
    have ig : ∀ g : Bool, idxG g (0, ([] : List UInt8), ()) l (j : Int) = some (bif g then l[j] else (0, [], ())) := by
      intro g
      unfold idxG
      rw [idx_nat, List.getElem?_eq_getElem hlt]
      cases g <;> rfl
    unfold l6_1 s6_1
    rw [bifT (decide_eq_true (by omega)), idx_nat, List.getElem?_eq_getElem hlt, wrapI (x := (j : Int) + 1) (by omega) (by omega)]
    simp only [cont, Option.bind_some, m21_eq, ig]
    by_cases hk : KeyP l[j].1
    · have hkp := hk
      obtain ⟨k0, k1'⟩ := hk
      rw [decide_eq_true (show KeyP l[j].1 from ⟨k0, k1'⟩), decide_eq_true (show l[j].1 ≥ 0 from k0)]
      simp only [Bool.not_true, beq_self_eq_true, cond_true, cond_false, Bool.true_and, bne_same, Bool.false_or]
      rw [decide_eq_true (show l[j].1 < 200 from k1')]
      simp only [cond_true, Bool.not_true, cond_false]
      have em : mapAt G31 (.int .i64) (l[j].1, l[j].2.1, ()) (zi 0 o3) = (pos o3 l[j]).map fun i => ((0 + i : Nat) : Int) := mapAt_zi _ o3 0
      rw [em]
      cases hp : pos o3 l[j] with
      | none =>
        have hM2 := hM.add hp hkp
        obtain ⟨p, q, r1, r2⟩ := ih n (j + 1) _ _ (by omega) (by omega) hM2
        refine ⟨p, q, r1, ?_⟩
        rw [← r2]
        simp only [Option.map_none, Option.isSome_none, Option.isNone_none, Bool.not_false, cond_true]
        rw [asrtP (fun _ => lim (by simp; omega)), asrtT, asrtP (fun _ => lim (by simp; omega))]
        have ez : (zi 0 o3 ++ [((l[j].1, l[j].2.1, ()), (List.length o3 : Int))]) = zi 0 (o3 ++ [l[j]]) := by
          rw [zi_app, Nat.zero_add]
        rw [ez]
        rfl
      | some i =>
        have hM2 := hM.again hp
        obtain ⟨p, q, r1, r2⟩ := ih n (j + 1) _ _ (by omega) (by omega) hM2
        refine ⟨p, q, r1, ?_⟩
        rw [← r2]
        simp only [Option.map_some, Option.isSome_some, Bool.not_true, cond_false, Option.getD_some, Nat.zero_add]
        rw [asrtP (fun _ => lim (by simp; omega))]
        rfl
    · rw [decide_eq_false hk]
      simp only [Bool.not_false, cond_true]
      have hc : (decide (l[j].1 ≥ 0) && decide (((bif (decide (l[j].1 ≥ 0) == true) then l[j] else ((0, [], ()) : T31)) : T31).1 < 200)) = false := by
        unfold KeyP at hk
        by_cases h0 : l[j].1 ≥ 0
        · rw [decide_eq_true h0]
          simp only [beq_self_eq_true, cond_true, Bool.true_and]
          exact decide_eq_false (by omega)
        · rw [decide_eq_false h0]; rfl
      rw [hc]
      simp only [cond_false]
      obtain ⟨p, q, r1, r2⟩ := ih n (j + 1) o2 o3 (by omega) (by omega) hM.skip
      refine ⟨p, q, r1, ?_⟩
      rw [← r2]
      rfl

/-- The different ones of a list, after others. -/
def ddF : List T31 → List T31 → List T31
  | q, [] => q
  | q, e :: r => match pos q e with
    | some _ => ddF q r
    | none => ddF (q ++ [e]) r

theorem ddF_app : ∀ (a b q : List T31), ddF q (a ++ b) = ddF (ddF q a) b
  | [], b, q => rfl
  | e :: a, b, q => by
    simp only [List.cons_append, ddF]
    split
    · exact ddF_app a b q
    · exact ddF_app a b _
theorem ddF_once : ∀ (a q : List T31), (q ++ a).Nodup → ddF q a = q ++ a
  | [], q, _ => by simp [ddF]
  | e :: a, q, h => by
    have hp : pos q e = none := by
      rw [pos_none]
      intro hm
      rw [List.nodup_append] at h
      exact h.2.2 e hm e (by simp) rfl
    simp only [ddF, hp]
    rw [ddF_once a (q ++ [e]) (by simpa using h)]
    simp

theorem l6_2_eq {R : Type} (L : List T31) (hl : L.length ≤ 1000) (k1 : List T31 → List (T31 × Int) → Option R) (k2 : Option R) : ∀ (m n j : Nat) (q : List T31), j + m = L.length → m < n → q.length ≤ j → (∀ e ∈ L.drop j, KeyP e.1) →
    l6_2 L (L.length : Int) k1 k2 n (j : Int) q (zi 0 q) = k1 (ddF q (L.drop j)) (zi 0 (ddF q (L.drop j))) := by
  intro m
  induction m with
  | zero =>
    intro n j q hj hn hq hk
    obtain ⟨n, rfl⟩ : ∃ m, n = m + 1 := ⟨n - 1, by omega⟩
    unfold l6_2 s6_2
    rw [bifF (decide_eq_false (by omega)), List.drop_of_length_le (by omega)]
    rfl
  | succ m ih =>
    intro n j q hj hn hq hk
    obtain ⟨n, rfl⟩ : ∃ m, n = m + 1 := ⟨n - 1, by omega⟩
    have hlt : j < L.length := by omega
    rw [List.drop_eq_getElem_cons hlt] at hk ⊢
    have hkj : KeyP L[j].1 := hk _ (List.mem_cons_self ..)
    have hkr : ∀ e ∈ L.drop (j + 1), KeyP e.1 := fun e he => hk e (List.mem_cons_of_mem _ he)
    unfold l6_2 s6_2
    rw [bifT (decide_eq_true (by omega)), idx_nat, List.getElem?_eq_getElem hlt, wrapI (x := (j : Int) + 1) (by omega) (by omega)]
    simp only [Option.bind_some, m21_eq]
    rw [decide_eq_true hkj]
    simp only [Bool.not_true, cond_false, cond_true]
    have em : mapAt G31 (.int .i64) (L[j].1, L[j].2.1, ()) (zi 0 q) = (pos q L[j]).map fun i => ((0 + i : Nat) : Int) := mapAt_zi _ q 0
    rw [em]
    cases hp : pos q L[j] with
    | none =>
      simp only [Option.map_none, Option.isSome_none, Option.isNone_none, Bool.not_false, cond_true, ddF, hp]
      rw [asrtP (fun _ => lim (by simp; omega)), asrtT]
      have ez : (zi 0 q ++ [((L[j].1, L[j].2.1, ()), (List.length q : Int))]) = zi 0 (q ++ [L[j]]) := by
        rw [zi_app, Nat.zero_add]
      rw [ez]
      have := ih n (j + 1) (q ++ [L[j]]) (by omega) (by omega) (by simp; omega) hkr
      rw [Int.natCast_add, Int.natCast_one] at this
      exact this
    | some i =>
      simp only [Option.map_some, Option.isSome_some, Bool.not_true, cond_false, ddF, hp]
      have := ih n (j + 1) q (by omega) (by omega) (by omega) hkr
      rw [Int.natCast_add, Int.natCast_one] at this
      exact this

theorem l6_4_eq {R : Type} (L : List T31) (hl : L.length ≤ 1000) (k1 : List T31 → List (T31 × Int) → Option R) (k2 : Option R) : ∀ (m n j : Nat) (q : List T31), j + m = L.length → m < n → q.length ≤ j → (∀ e ∈ L.drop j, KeyP e.1) →
    l6_4 (L.length : Int) L k1 k2 n (j : Int) q (zi 0 q) = k1 (ddF q (L.drop j)) (zi 0 (ddF q (L.drop j))) := by
  intro m
  induction m with
  | zero =>
    intro n j q hj hn hq hk
    obtain ⟨n, rfl⟩ : ∃ m, n = m + 1 := ⟨n - 1, by omega⟩
    unfold l6_4 s6_4
    rw [bifF (decide_eq_false (by omega)), List.drop_of_length_le (by omega)]
    rfl
  | succ m ih =>
    intro n j q hj hn hq hk
    obtain ⟨n, rfl⟩ : ∃ m, n = m + 1 := ⟨n - 1, by omega⟩
    have hlt : j < L.length := by omega
    rw [List.drop_eq_getElem_cons hlt] at hk ⊢
    have hkj : KeyP L[j].1 := hk _ (List.mem_cons_self ..)
    have hkr : ∀ e ∈ L.drop (j + 1), KeyP e.1 := fun e he => hk e (List.mem_cons_of_mem _ he)
    unfold l6_4 s6_4
    rw [bifT (decide_eq_true (by omega)), show (decide (0 ≤ (j : Int)) && decide ((j : Int) < (List.length L : Int))) = true from by simp; omega, asrtT, Int.toNat_natCast, List.getElem?_eq_getElem hlt, wrapI (x := (j : Int) + 1) (by omega) (by omega)]
    simp only [Option.bind_some, m21_eq]
    rw [decide_eq_true hkj]
    simp only [Bool.not_true, cond_false, cond_true]
    have em : mapAt G31 (.int .i64) (L[j].1, L[j].2.1, ()) (zi 0 q) = (pos q L[j]).map fun i => ((0 + i : Nat) : Int) := mapAt_zi _ q 0
    rw [em]
    cases hp : pos q L[j] with
    | none =>
      simp only [Option.map_none, Option.isSome_none, Option.isNone_none, Bool.not_false, cond_true, ddF, hp]
      rw [asrtP (fun _ => lim (by simp; omega)), asrtT]
      have ez : (zi 0 q ++ [((L[j].1, L[j].2.1, ()), (List.length q : Int))]) = zi 0 (q ++ [L[j]]) := by
        rw [zi_app, Nat.zero_add]
      rw [ez]
      have := ih n (j + 1) (q ++ [L[j]]) (by omega) (by omega) (by simp; omega) hkr
      rw [Int.natCast_add, Int.natCast_one] at this
      exact this
    | some i =>
      simp only [Option.map_some, Option.isSome_some, Bool.not_true, cond_false, ddF, hp]
      have := ih n (j + 1) q (by omega) (by omega) (by omega) hkr
      rw [Int.natCast_add, Int.natCast_one] at this
      exact this

theorem l6_6_bad {R : Type} (L : List T31) (hl : L.length ≤ 1000) (k1 : List T31 → List (T31 × Int) → Option R) (k2 : Option R) : ∀ (m n j : Nat) (q : List T31), j + m = L.length → m < n → q.length ≤ j → (∃ e ∈ L.drop j, ¬ KeyP e.1) →
    l6_6 (L.length : Int) L k1 k2 n (j : Int) q (zi 0 q) = k2 := by
  intro m
  induction m with
  | zero =>
    intro n j q hj hn hq hk
    rw [List.drop_of_length_le (by omega)] at hk
    obtain ⟨e, he, _⟩ := hk
    cases he
  | succ m ih =>
    intro n j q hj hn hq hk
    obtain ⟨n, rfl⟩ : ∃ m, n = m + 1 := ⟨n - 1, by omega⟩
    have hlt : j < L.length := by omega
    rw [List.drop_eq_getElem_cons hlt] at hk
    unfold l6_6 s6_6
    rw [bifT (decide_eq_true (by omega)), show (decide (0 ≤ (j : Int)) && decide ((j : Int) < (List.length L : Int))) = true from by simp; omega, asrtT, Int.toNat_natCast, List.getElem?_eq_getElem hlt, wrapI (x := (j : Int) + 1) (by omega) (by omega)]
    simp only [Option.bind_some, m21_eq]
    by_cases hkj : KeyP L[j].1
    · have hkr : ∃ e ∈ L.drop (j + 1), ¬ KeyP e.1 := by
        obtain ⟨e, he, h2⟩ := hk
        rcases List.mem_cons.1 he with c | c
        · subst c; exact absurd hkj h2
        · exact ⟨e, c, h2⟩
      rw [decide_eq_true hkj]
      simp only [Bool.not_true, cond_false, cond_true]
      have em : mapAt G31 (.int .i64) (L[j].1, L[j].2.1, ()) (zi 0 q) = (pos q L[j]).map fun i => ((0 + i : Nat) : Int) := mapAt_zi _ q 0
      rw [em]
      cases hp : pos q L[j] with
      | none =>
        simp only [Option.map_none, Option.isSome_none, Option.isNone_none, Bool.not_false, cond_true]
        rw [asrtP (fun _ => lim (by simp; omega)), asrtT]
        have ez : (zi 0 q ++ [((L[j].1, L[j].2.1, ()), (List.length q : Int))]) = zi 0 (q ++ [L[j]]) := by
          rw [zi_app, Nat.zero_add]
        rw [ez]
        have := ih n (j + 1) (q ++ [L[j]]) (by omega) (by omega) (by simp; omega) hkr
        rw [Int.natCast_add, Int.natCast_one] at this
        exact this
      | some i =>
        simp only [Option.map_some, Option.isSome_some, Bool.not_true, cond_false]
        have := ih n (j + 1) q (by omega) (by omega) (by omega) hkr
        rw [Int.natCast_add, Int.natCast_one] at this
        exact this
    · rw [decide_eq_false hkj]
      rfl

theorem l6_3_eq {R : Type} (o2 : List T23) (q : List T31) (hL : o2.length ≤ 1000) (hh : ∀ x ∈ o2, hol q x = true) (k1 k2 : Option R) : ∀ (m n j : Nat), j + m = o2.length → m < n → l6_3 o2 (zi 0 q) k1 k2 n (j : Int) = k1 := by
  intro m
  induction m with
  | zero =>
    intro n j hj hn
    obtain ⟨n, rfl⟩ : ∃ m, n = m + 1 := ⟨n - 1, by omega⟩
    unfold l6_3 s6_3
    rw [bifF (decide_eq_false (by omega))]
  | succ m ih =>
    intro n j hj hn
    obtain ⟨n, rfl⟩ : ∃ m, n = m + 1 := ⟨n - 1, by omega⟩
    have hlt : j < o2.length := by omega
    unfold l6_3 s6_3
    rw [bifT (decide_eq_true (by omega)), show (decide (0 ≤ (j : Int)) && decide ((j : Int) < (List.length o2 : Int))) = true from by simp; omega, asrtT, Int.toNat_natCast, List.getElem?_eq_getElem hlt, wrapI (x := (j : Int) + 1) (by omega) (by omega)]
    simp only [Option.bind_some]
    rw [hol_eq, hh _ (List.getElem_mem hlt)]
    have := ih n (j + 1) (by omega) (by omega)
    rw [Int.natCast_add, Int.natCast_one] at this
    exact this

end Go.Proofs.Ytmkhnmkbohckbaa
