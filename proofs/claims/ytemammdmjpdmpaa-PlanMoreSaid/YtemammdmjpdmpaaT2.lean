/- Plan: what a right task is. -/
import Derived.Test.YtemammdmjpdmpaaM
namespace Go.Proofs.Ytemammdmjpdmpaa
open Go Go.Eng
set_option linter.unusedVariables false
set_option linter.unusedSimpArgs false

/-- A loop that passes a list's places with a state. -/
theorem seq_loop {R S : Type} (n : Nat) (F : Nat → S) (f : Nat → Int → S → Option R) (k : S → Option R) (hn : n ≤ 1000000)
    (hs : ∀ m j, j < n → f (m + 1) (j : Int) (F j) = f m ((j : Int) + 1) (F (j + 1))) (he : ∀ m, f (m + 1) (n : Int) (F n) = k (F n)) :
    f FUEL 0 (F 0) = k (F n) := by
  have key : ∀ (i m j : Nat), j + i = n → i < m → f m (j : Int) (F j) = k (F n) := by
    intro i
    induction i with
    | zero =>
      intro m j hj hm
      obtain ⟨m, rfl⟩ : ∃ a, m = a + 1 := ⟨m - 1, by omega⟩
      have : j = n := by omega
      subst this
      exact he m
    | succ i ih =>
      intro m j hj hm
      obtain ⟨m, rfl⟩ : ∃ a, m = a + 1 := ⟨m - 1, by omega⟩
      rw [hs m j (by omega)]
      exact ih m (j + 1) (by omega) (by omega)
  exact key n FUEL 0 (by omega) (fuel_lt (by omega))

/-- A loop that checks something of each place, with a state. -/
theorem chk_loop {R S : Type} (n : Nat) (F : Nat → S) (p : Nat → Bool) (f : Nat → Int → S → Option R) (k1 k2 : Option R) (hn : n ≤ 1000000)
    (hs : ∀ m j, j < n → (∀ i, i < j → p i = true) → f (m + 1) (j : Int) (F j) = bif p j then f m ((j : Int) + 1) (F (j + 1)) else k2) (he : (∀ i, i < n → p i = true) → ∀ m, f (m + 1) (n : Int) (F n) = k1) :
    f FUEL 0 (F 0) = if ∀ i, i < n → p i = true then k1 else k2 := by
  have key : ∀ (i m j : Nat), j + i = n → i < m → (∀ i, i < j → p i = true) → f m (j : Int) (F j) = if ∀ i, i < n → p i = true then k1 else k2 := by
    intro i
    induction i with
    | zero =>
      intro m j hj hm hb
      obtain ⟨m, rfl⟩ : ∃ a, m = a + 1 := ⟨m - 1, by omega⟩
      have : j = n := by omega
      subst this
      rw [he hb m, if_pos hb]
    | succ i ih =>
      intro m j hj hm hb
      obtain ⟨m, rfl⟩ : ∃ a, m = a + 1 := ⟨m - 1, by omega⟩
      rw [hs m j (by omega) hb]
      cases hp : p j with
      | true =>
        refine ih m (j + 1) (by omega) (by omega) (fun i hi => ?_)
        by_cases e : i = j
        · subst e; exact hp
        · exact hb i (by omega)
      | false =>
        rw [if_neg]
        · rfl
        · intro h
          rw [h j (by omega)] at hp; cases hp
  exact key n FUEL 0 (by omega) (fuel_lt (by omega)) (fun i hi => absurd hi (Nat.not_lt_zero i))

theorem lt1 {a b : Nat} (h : a < b) : decide ((a : Int) < (b : Int)) = true := decide_eq_true (by omega)
theorem lt0 (a : Nat) : decide ((a : Int) < (a : Int)) = false := decide_eq_false (by omega)
theorem rng {a b : Nat} (h : a < b) : (decide (0 ≤ (a : Int)) && decide ((a : Int) < (b : Int))) = true := by simp; omega


theorem nn (j : Nat) : decide (0 ≤ (j : Int)) = true := decide_eq_true (by omega)
theorem wr1 {j : Nat} (h : j < 9000000000000000000) : IntKind.i64.wrap ((j : Int) + 1) = (j : Int) + 1 := wrapI (by omega) (by omega)

def atB {α : Type} (q : α → Bool) (l : List α) (i : Nat) : Bool := ((l[i]?).map q).getD true

theorem atB_lt {α : Type} {q : α → Bool} {l : List α} {i : Nat} {x : α} (h : l[i]? = some x) : atB q l i = q x := by simp [atB, h]
theorem all_at {α : Type} (q : α → Bool) (l : List α) : (∀ i, i < l.length → atB q l i = true) ↔ l.all q = true := by
  rw [List.all_eq_true]
  constructor
  · intro h x hx
    obtain ⟨i, hi⟩ := List.getElem?_of_mem hx
    rw [← atB_lt (q := q) hi]
    exact h i (List.getElem?_eq_some_iff.1 hi).1
  · intro h i hi
    rw [atB_lt (List.getElem?_eq_getElem hi)]
    exact h _ (List.getElem_mem hi)

/-- A loop that checks every element of a list. -/
theorem all_loop {α R : Type} (q : α → Bool) (l : List α) (f : Nat → Int → Option R) (k1 k2 : Option R) (hn : l.length ≤ 1000000)
    (hs : ∀ m (j : Nat) (x : α), l[j]? = some x → j < l.length → f (m + 1) (j : Int) = bif q x then f m ((j : Int) + 1) else k2) (he : ∀ m, f (m + 1) (l.length : Int) = k1) :
    f FUEL 0 = bif l.all q then k1 else k2 := by
  have := chk_loop (R := R) (S := Unit) l.length (fun _ => ()) (atB q l) (fun m j _ => f m j) k1 k2 hn
    (fun m j hj _ => by
      have hx := List.getElem?_eq_getElem hj
      rw [hs m j _ hx hj, atB_lt hx])
    (fun _ m => he m)
  refine this.trans ?_
  cases h : l.all q with
  | true => rw [if_pos ((all_at q l).2 h)]; rfl
  | false => rw [if_neg (fun h2 => by rw [(all_at q l).1 h2] at h; cases h)]; rfl

def inB (lo hi n : Int) : Bool := decide (lo ≤ n) && decide (n ≤ hi)

theorem m34_eq (lo hi : Int) (l : List Int) (h : l.length ≤ 1000000) : m34 lo hi l = some (l.all (inB lo hi)) := by
  unfold m34
  rw [all_loop (inB lo hi) l (fun m j => l34_1 l (List.length l : Int) lo hi (some true) (fun y2 => some (!(decide (y2 ≥ 0)))) m j) (some true) (some false) h
    (by
      intro m j x hx hj
      simp only [l34_1, s34_1, lt1 hj, cond_true, idx_nat, hx, Option.bind_some, wr1 (j := j) (by omega)]
      have h0 : decide ((j : Int) ≥ 0) = true := decide_eq_true (by omega)
      have e : (decide (x < lo) || decide (x > hi)) = !inB lo hi x := by
        unfold inB
        rw [Bool.eq_iff_iff]; simp <;> omega
      rw [e, h0]
      cases inB lo hi x <;> rfl)
    (by intro m; simp only [l34_1, s34_1, lt0, cond_false])]
  cases l.all (inB lo hi) <;> rfl

theorem m42_eq (n lo hi : Int) : m42 n lo hi = some (inB lo hi n) := by
  unfold m42 inB
  rfl

/-! ### Right tasks -/

def scen (t : T24) : Nat := match t.1 with
  | (o :: _) :: _ => o.1.length
  | _ => 0
def okO (S Y : Int) (o : T42) : Bool := decide ((o.1.length : Int) = S) && (o.1.all (inB 0 1000000000000000) && (inB (-1) (Y - 1) o.2.1 && inB 0 1000000000000000 o.2.2.1))
def okI (S Y : Int) (l : List T42) : Bool := inB 1 6 (l.length : Int) && l.all (okO S Y)
def rightC (t : T24) : Bool := inB 1 40 (t.1.length : Int) && (inB 1 10 (scen t : Int) && (decide ((t.2.1.length : Int) ≤ 60) && (t.2.1.all (inB 0 1000000000000000) && t.1.all (okI (scen t : Int) (t.2.1.length : Int)))))

theorem m36_eq (t : T24) : m36 t = some (scen t : Int) := by
  unfold m36 scen
  match t with
  | ([], c) => rfl
  | ([] :: l, c) =>
    have e1 : ((List.length (([] : List T42) :: l) : Int) == 0) = false := by simp only [List.length_cons, beq_eq_false_iff_ne]; omega
    have i0 : idx (([] : List T42) :: l) 0 = some [] := rfl
    simp only [e1, beq_self_eq_true, idxG, cond_true, i0, Option.bind_some, Bool.false_or]
    rfl
  | ((o :: r) :: l, c) =>
    have e1 : ((List.length ((o :: r) :: l) : Int) == 0) = false := by simp only [List.length_cons, beq_eq_false_iff_ne]; omega
    have e2 : ((List.length (o :: r) : Int) == 0) = false := by simp only [List.length_cons, beq_eq_false_iff_ne]; omega
    have i0 : idx ((o :: r) :: l) 0 = some (o :: r) := rfl
    have i1 : idx (o :: r) 0 = some o := rfl
    simp only [e1, e2, beq_self_eq_true, idxG, cond_true, i0, i1, Option.bind_some, Bool.or_self, cond_false]
theorem m41_eq (t : T24) : m41 t = some (scen t : Int) := m36_eq t

theorem optA {R : Type} (S Y : Int) (o : T42) (hS : S ≤ 10) (hY0 : 0 ≤ Y) (hY : Y ≤ 60) (kn k2 : Option R) :
    ((bif (((List.length o.1 : Int) != S) == false) then (m34 0 1000000000000000 o.1) else some false).bind fun r10 =>
    bif ((((List.length o.1 : Int) != S) || (!r10)) == false) then
      (bif ((((List.length o.1 : Int) != S) || (!r10)) == false) then (m34 (-1) (IntKind.i64.wrap (Y - 1)) [o.2.1]) else some false).bind fun r11 =>
      bif (((((List.length o.1 : Int) != S) || (!r10)) || (!r11)) == false) then
        (bif (((((List.length o.1 : Int) != S) || (!r10)) || (!r11)) == false) then (m34 0 1000000000000000 [o.2.2.1]) else some false).bind fun r12 =>
        bif (((((List.length o.1 : Int) != S) || (!r10)) || (!r11)) || (!r12)) then
          k2
        else
          kn
      else
        (bif (((((List.length o.1 : Int) != S) || (!r10)) || (!r11)) == false) then (m34 0 1000000000000000 []) else some false).bind fun r13 =>
        bif (((((List.length o.1 : Int) != S) || (!r10)) || (!r11)) || (!r13)) then
          k2
        else
          kn
    else
      (bif ((((List.length o.1 : Int) != S) || (!r10)) == false) then (m34 (-1) (IntKind.i64.wrap (Y - 1)) []) else some false).bind fun r14 =>
      bif (((((List.length o.1 : Int) != S) || (!r10)) || (!r14)) == false) then
        (bif (((((List.length o.1 : Int) != S) || (!r10)) || (!r14)) == false) then (m34 0 1000000000000000 [o.2.2.1]) else some false).bind fun r15 =>
        bif (((((List.length o.1 : Int) != S) || (!r10)) || (!r14)) || (!r15)) then
          k2
        else
          kn
      else
        (bif (((((List.length o.1 : Int) != S) || (!r10)) || (!r14)) == false) then (m34 0 1000000000000000 []) else some false).bind fun r16 =>
        bif (((((List.length o.1 : Int) != S) || (!r10)) || (!r14)) || (!r16)) then
          k2
        else
          kn) = bif okO S Y o then kn else k2 := by
  have hw : IntKind.i64.wrap (Y - 1) = Y - 1 := wrapI (by omega) (by omega)
  rw [hw]
  unfold okO
  by_cases h1 : (o.1.length : Int) = S
  · have e1 : ((List.length o.1 : Int) != S) = false := by simp [h1]
    rw [e1, decide_eq_true h1, m34_eq 0 _ o.1 (by omega), m34_eq (-1) _ [o.2.1] (by simp), m34_eq 0 _ [o.2.2.1] (by simp)]
    simp only [List.all_cons, List.all_nil, Bool.and_true]
    cases o.1.all (inB 0 1000000000000000) <;> cases inB (-1) (Y - 1) o.2.1 <;> cases inB 0 1000000000000000 o.2.2.1 <;> rfl
  · have e1 : ((List.length o.1 : Int) != S) = true := by simp [h1]
    rw [e1, decide_eq_false h1]
    rfl

theorem m16_eq (t : T24) : m16 t = some (rightC t) := by
  unfold m16 rightC
  rw [m36_eq, Option.bind_some, m34_eq 1 40 _ (by simp), Option.bind_some]
  simp only [List.all_cons, List.all_nil, Bool.and_true]
  cases h1 : inB 1 40 (t.1.length : Int) with
  | false => rfl
  | true =>
  rw [m34_eq 1 10 _ (by simp)]
  simp only [Bool.not_true, beq_self_eq_true, cond_true, Option.bind_some, List.all_cons, List.all_nil, Bool.and_true, Bool.false_or, Bool.true_and]
  cases h2 : inB 1 10 (scen t : Int) with
  | false => rfl
  | true =>
  simp only [Bool.not_true, Bool.false_or, Bool.true_and]
  by_cases h3 : (t.2.1.length : Int) ≤ 60
  · rw [decide_eq_true h3, decide_eq_false (p := (List.length t.2.1 : Int) > 60) (by omega), m34_eq 0 _ _ (by omega)]
    simp only [beq_self_eq_true, cond_true, Option.bind_some, Bool.false_or, Bool.true_and]
    cases h4 : t.2.1.all (inB 0 1000000000000000) with
    | false => rfl
    | true =>
    simp only [Bool.not_true, cond_false, Bool.true_and]
    have hn : t.1.length ≤ 40 := by simp [inB] at h1; omega
    have hS : (scen t : Int) ≤ 10 := by simp [inB] at h2; omega
    rw [all_loop (okI (scen t : Int) (t.2.1.length : Int)) t.1 (fun m j => l16_2 t.1 (List.length t.1 : Int) t (scen t : Int) (some true) (fun y18 => some (!(decide (y18 ≥ 0)))) m j) (some true) (some false) (by omega)
      (by
        intro m j x hx hj
        have h0 : decide ((j : Int) ≥ 0) = true := decide_eq_true (by omega)
        simp only [l16_2, s16_2, lt1 hj, cond_true, idx_nat, hx, Option.bind_some, wr1 (j := j) (by omega), m34_eq 1 6 _ (show ([(List.length x : Int)] : List Int).length ≤ 1000000 by simp), List.all_cons, List.all_nil, Bool.and_true, h0, okI]
        cases h5 : inB 1 6 (List.length x : Int) with
        | false => rfl
        | true =>
          have hxl : x.length ≤ 6 := by simp [inB] at h5; omega
          simp only [Bool.not_true, beq_self_eq_true, cond_true, cond_false, Bool.false_or, Bool.true_and]
          exact all_loop (okO (scen t : Int) (t.2.1.length : Int)) x (fun n i => l16_1 x (List.length x : Int) t (scen t : Int) _ _ n i) _ _ (by omega)
            (by
              intro n i o ho hi
              have h0 : decide ((i : Int) ≥ 0) = true := decide_eq_true (by omega)
              simp only [l16_1, s16_1, lt1 hi, cond_true, idx_nat, ho, Option.bind_some, wr1 (j := i) (by omega)]
              rw [optA (scen t : Int) (List.length t.2.1 : Int) o hS (by omega) h3]
              simp only [h0, cond_true])
            (by intro n; simp only [l16_1, s16_1, lt0, cond_false]))
      (by intro m; simp only [l16_2, s16_2, lt0, cond_false])]
    cases t.1.all (okI (scen t : Int) (t.2.1.length : Int)) <;> rfl
  · rw [decide_eq_false h3, decide_eq_true (p := (List.length t.2.1 : Int) > 60) (by omega)]
    rfl

theorem m43_eq (o : T42) (S Y : Int) (hS : S ≤ 10) (hY0 : 0 ≤ Y) (hY : Y ≤ 60) : m43 o S Y = some (okO S Y o) := by
  unfold m43 okO
  rw [wrapI (x := Y - 1) (by omega) (by omega)]
  by_cases h1 : (o.1.length : Int) = S
  · have e1 : ((List.length o.1 : Int) != S) = false := by simp [h1]
    rw [e1, decide_eq_true h1]
    simp only [beq_self_eq_true, cond_true, m42_eq, Option.bind_some, Bool.false_or, Bool.true_and, bind_guard]
    cases h2 : inB (-1) (Y - 1) o.2.1 with
    | false =>
      simp only [Bool.false_and, Bool.and_false]
      rfl
    | true =>
    cases h3 : inB 0 1000000000000000 o.2.2.1 with
    | false =>
      simp only [Bool.and_false]
      rfl
    | true =>
    simp only [Bool.not_true, beq_self_eq_true, cond_true, Bool.or_self, cond_false, Bool.and_self, Bool.and_true]
    subst h1
    rw [all_loop (inB 0 1000000000000000) o.1 (fun m j => l43_1 (List.length o.1 : Int) o (some true) (some false) m j) (some true) (some false) (by omega)
      (by
        intro m j x hx hj
        simp only [l43_1, s43_1, lt1 hj, cond_true, idx_nat, hx, Option.bind_some, m42_eq, wr1 (j := j) (by omega)]
        cases inB 0 1000000000000000 x <;> rfl)
      (by intro m; simp only [l43_1, s43_1, lt0, cond_false])]
    cases o.1.all (inB 0 1000000000000000) <;> rfl
  · have e1 : ((List.length o.1 : Int) != S) = true := by simp [h1]
    rw [e1, decide_eq_false h1]
    rfl

theorem m17_eq (t : T24) : m17 t = some (rightC t) := by
  unfold m17 rightC
  rw [m41_eq, Option.bind_some, m42_eq, Option.bind_some, m42_eq, bind_guard]
  cases h1 : inB 1 40 (t.1.length : Int) with
  | false => rfl
  | true =>
  cases h2 : inB 1 10 (scen t : Int) with
  | false => rfl
  | true =>
  simp only [Bool.not_true, beq_self_eq_true, cond_true, Bool.or_self, Bool.false_or, Bool.true_and]
  by_cases h3 : (t.2.1.length : Int) ≤ 60
  · rw [decide_eq_true h3, decide_eq_false (p := (List.length t.2.1 : Int) > 60) (by omega)]
    simp only [cond_false, Bool.true_and]
    have hn : t.1.length ≤ 40 := by simp [inB] at h1; omega
    have hS : (scen t : Int) ≤ 10 := by simp [inB] at h2; omega
    rw [all_loop (inB 0 1000000000000000) t.2.1 (fun m j => l17_1 t (l17_3 (scen t : Int) t (some true) (some false) FUEL 0) (some false) m j) (l17_3 (scen t : Int) t (some true) (some false) FUEL 0) (some false) (by omega)
      (by
        intro m j x hx hj
        simp only [l17_1, s17_1, lt1 hj, cond_true, idx_nat, hx, Option.bind_some, m42_eq, wr1 (j := j) (by omega)]
        cases inB 0 1000000000000000 x <;> rfl)
      (by intro m; simp only [l17_1, s17_1, lt0, cond_false])]
    cases h4 : t.2.1.all (inB 0 1000000000000000) with
    | false => rfl
    | true =>
    simp only [cond_true, Bool.true_and]
    rw [all_loop (okI (scen t : Int) (t.2.1.length : Int)) t.1 (fun m j => l17_3 (scen t : Int) t (some true) (some false) m j) (some true) (some false) (by omega)
      (by
        intro m j x hx hj
        simp only [l17_3, s17_3, lt1 hj, cond_true, idx_nat, hx, Option.bind_some, wr1 (j := j) (by omega), m42_eq, okI]
        cases h5 : inB 1 6 (List.length x : Int) with
        | false => rfl
        | true =>
          have hxl : x.length ≤ 6 := by simp [inB] at h5; omega
          simp only [Bool.not_true, cond_false, Bool.true_and]
          exact all_loop (okO (scen t : Int) (t.2.1.length : Int)) x (fun n i => l17_2 (scen t : Int) (j : Int) t _ _ n i) _ _ (by omega)
            (by
              intro n i o ho hi
              simp only [l17_2, s17_2, idx_nat, hx, Option.bind_some, lt1 hi, cond_true, ho, wr1 (j := i) (by omega), m43_eq o _ _ hS (by omega) h3]
              cases okO (scen t : Int) (t.2.1.length : Int) o <;> rfl)
            (by intro n; simp only [l17_2, s17_2, idx_nat, hx, Option.bind_some, lt0, cond_false]))
      (by intro m; simp only [l17_3, s17_3, lt0, cond_false])]
    cases t.1.all (okI (scen t : Int) (t.2.1.length : Int)) <;> rfl
  · rw [decide_eq_false h3, decide_eq_true (p := (List.length t.2.1 : Int) > 60) (by omega)]
    rfl

/-! ### Within the bounds of the statements -/

def fewC (t : T24) (p : List T42) : Bool := (decide (t.1.length ≤ 5) && (decide (t.2.1.length ≤ 4) && decide (p.length ≤ 600))) && ((t.1.all fun l => decide (l.length ≤ 4) && l.all fun o => decide (o.1.length ≤ 3)) && p.all fun b => decide (b.1.length ≤ 6))

theorem m9_eq (t : T24) (p : List T42) : m9 t p = some (fewC t p) := by
  unfold m9 fewC
  by_cases h1 : t.1.length ≤ 5
  · by_cases h2 : t.2.1.length ≤ 4
    · by_cases h3 : p.length ≤ 600
      · rw [decide_eq_true h1, decide_eq_true h2, decide_eq_true h3, decide_eq_false (p := (List.length t.1 : Int) > 5) (by omega), decide_eq_false (p := (List.length t.2.1 : Int) > 4) (by omega), decide_eq_false (p := (List.length p : Int) > 600) (by omega)]
        simp only [Bool.or_self, cond_false, Bool.and_self, Bool.true_and]
        rw [all_loop (fun b : T42 => decide (b.1.length ≤ 6)) p (fun m j => l9_3 p (some true) (some false) m j) (some true) (some false) (by omega)
          (by
            intro m j x hx hj
            simp only [l9_3, s9_3, lt1 hj, cond_true, idx_nat, hx, Option.bind_some, wr1 (j := j) (by omega)]
            by_cases c : x.1.length ≤ 6
            · rw [decide_eq_true c, decide_eq_false (p := (List.length x.1 : Int) > 6) (by omega)]; rfl
            · rw [decide_eq_false c, decide_eq_true (p := (List.length x.1 : Int) > 6) (by omega)]; rfl)
          (by intro m; simp only [l9_3, s9_3, lt0, cond_false])]
        rw [all_loop (fun l : List T42 => decide (l.length ≤ 4) && l.all fun o => decide (o.1.length ≤ 3)) t.1 (fun m j => l9_2 t (bif (p.all fun b => decide (b.1.length ≤ 6)) then some true else some false) (some false) m j) (bif (p.all fun b => decide (b.1.length ≤ 6)) then some true else some false) (some false) (by omega)
          (by
            intro m j x hx hj
            simp only [l9_2, s9_2, lt1 hj, cond_true, idx_nat, hx, Option.bind_some, wr1 (j := j) (by omega)]
            by_cases c : x.length ≤ 4
            · rw [decide_eq_true c, decide_eq_false (p := (List.length x : Int) > 4) (by omega), cond_false, Bool.true_and]
              exact all_loop (fun o : T42 => decide (o.1.length ≤ 3)) x (fun n i => l9_1 (j : Int) t _ _ n i) _ _ (by omega)
                (by
                  intro n i o ho hi
                  simp only [l9_1, s9_1, idx_nat, hx, Option.bind_some, lt1 hi, cond_true, ho, wr1 (j := i) (by omega)]
                  by_cases c : o.1.length ≤ 3
                  · rw [decide_eq_true c, decide_eq_false (p := (List.length o.1 : Int) > 3) (by omega)]; rfl
                  · rw [decide_eq_false c, decide_eq_true (p := (List.length o.1 : Int) > 3) (by omega)]; rfl)
                (by intro n; simp only [l9_1, s9_1, idx_nat, hx, Option.bind_some, lt0, cond_false])
            · rw [decide_eq_false c, decide_eq_true (p := (List.length x : Int) > 4) (by omega)]; rfl)
          (by intro m; simp only [l9_2, s9_2, lt0, cond_false])]
        cases (t.1.all fun l => decide (l.length ≤ 4) && l.all fun o => decide (o.1.length ≤ 3)) <;> cases (p.all fun b => decide (b.1.length ≤ 6)) <;> rfl
      · rw [decide_eq_false h3, decide_eq_true (p := (List.length p : Int) > 600) (by omega)]
        simp
    · rw [decide_eq_false h2, decide_eq_true (p := (List.length t.2.1 : Int) > 4) (by omega)]
      simp
  · rw [decide_eq_false h1, decide_eq_true (p := (List.length t.1 : Int) > 5) (by omega)]
    simp

/-! ### Equal lists -/

theorem idxG_same {α : Type} {xs : List α} {i : Nat} {x : α} (gc : Bool) (d : α) (h : xs[i]? = some x) : idxG gc d xs (i : Int) = some (bif gc then x else d) := by
  unfold idxG
  rw [idx_nat, h]
  cases gc <;> rfl

theorem list_eq_at {α : Type} [DecidableEq α] {a b : List α} (hl : a.length = b.length) : (∀ i, i < a.length → decide (a[i]? = b[i]?) = true) ↔ a = b := by
  constructor
  · intro h
    apply List.ext_getElem?
    intro i
    by_cases hi : i < a.length
    · exact of_decide_eq_true (h i hi)
    · rw [List.getElem?_eq_none (by omega), List.getElem?_eq_none (by omega)]
  · rintro rfl i _
    exact decide_eq_true rfl

theorem m14_eq (a b : List Int) (h : a.length ≤ 1000000) : m14 a b = some (decide (a = b)) := by
  unfold m14
  by_cases hl : a.length = b.length
  · have e : ((List.length a : Int) != (List.length b : Int)) = false := by rw [hl]; exact bne_same _
    rw [e, cond_false]
    have := chk_loop (R := Bool) (S := Unit) a.length (fun _ => ()) (fun i => decide (a[i]? = b[i]?)) (fun m j _ => l14_1 a b (some true) (some false) m j) (some true) (some false) h
      (fun m j hj _ => by
        have hx := List.getElem?_eq_getElem hj
        have hy := List.getElem?_eq_getElem (l := b) (i := j) (by omega)
        generalize a[j] = x at hx
        generalize b[j] = y at hy
        simp only [l14_1, s14_1, lt1 hj, cond_true, idx_nat, hx, hy, Option.bind_some, wr1 (j := j) (by omega)]
        by_cases c : x = y
        · subst c; rw [bne_same, decide_eq_true rfl]; rfl
        · rw [bne_ne c, decide_eq_false (fun e => c (Option.some.inj e))]; rfl)
      (fun _ m => by simp only [l14_1, s14_1, lt0, cond_false])
    refine this.trans ?_
    by_cases c : a = b
    · rw [if_pos ((list_eq_at hl).2 c), decide_eq_true c]
    · rw [if_neg (fun e => c ((list_eq_at hl).1 e)), decide_eq_false c]
  · have e : ((List.length a : Int) != (List.length b : Int)) = true := bne_ne (by omega)
    rw [e, decide_eq_false (fun e => hl (by rw [e]))]
    rfl

theorem m51_eq (a b : List Int) (h : a.length ≤ 1000000) : m51 a b = some (decide (a = b)) := by
  unfold m51
  by_cases hl : a.length = b.length
  · have e : ((List.length a : Int) != (List.length b : Int)) = false := by rw [hl]; exact bne_same _
    rw [e, cond_false]
    have := chk_loop (R := Bool) (S := Unit) a.length (fun _ => ()) (fun i => decide (a[i]? = b[i]?)) (fun m j _ => l51_1 a b (List.length a : Int) (some true) (some false) m j) (some true) (some false) h
      (fun m j hj _ => by
        have hx := List.getElem?_eq_getElem hj
        have hy := List.getElem?_eq_getElem (l := b) (i := j) (by omega)
        generalize a[j] = x at hx
        generalize b[j] = y at hy
        simp only [l51_1, s51_1, lt1 hj, cond_true, idx_nat, hx, hy, Option.bind_some, wr1 (j := j) (by omega)]
        by_cases c : x = y
        · subst c; rw [bne_same, decide_eq_true rfl]; rfl
        · rw [bne_ne c, decide_eq_false (fun e => c (Option.some.inj e))]; rfl)
      (fun _ m => by simp only [l51_1, s51_1, lt0, cond_false])
    refine this.trans ?_
    by_cases c : a = b
    · rw [if_pos ((list_eq_at hl).2 c), decide_eq_true c]
    · rw [if_neg (fun e => c ((list_eq_at hl).1 e)), decide_eq_false c]
  · have e : ((List.length a : Int) != (List.length b : Int)) = true := bne_ne (by omega)
    rw [e, decide_eq_false (fun e => hl (by rw [e]))]
    rfl

theorem same_refl {a : List T42} (hl : a.length ≤ 1000000) (hr : ∀ x ∈ a, x.1.length ≤ 1000000) : m15 a a = some true := by
  unfold m15
  rw [bne_same, cond_false]
  exact seq_loop (R := Bool) (S := Unit) a.length (fun _ => ()) (fun m j _ => l15_1 a a (some true) (some false) m j) (fun _ => some true) hl
    (by
      intro m j hj
      have hx := List.getElem?_eq_getElem hj
      generalize a[j] = x at hx
      simp only [l15_1, s15_1, lt1 hj, cond_true, idx_nat, hx, Option.bind_some, idxG_same _ _ hx, bne_same, Bool.or_self, Bool.false_or, beq_self_eq_true, wr1 (j := j) (by omega), m14_eq x.1 x.1 (hr x (List.mem_of_getElem? hx)), decide_true, Bool.not_true, cond_false])
    (by intro m; simp only [l15_1, s15_1, lt0, cond_false])

/-! ### Plan: what a choice costs, and which cap it breaks. -/
def optAt (t : T24) (i : Nat) (k : Int) : T42 := (t.1.getD i []).getD k.toNat ([], 0, 0, ())
def minS (s : Nat) (m : Int) (o : T42) : Int := bif decide (o.1.getD s 0 < m) then o.1.getD s 0 else m
/-- The least costs of the options of an issue in a scenario. -/
def lstL (l : List T42) (s : Nat) : Int := l.foldl (minS s) ((l.getD 0 ([], 0, 0, ())).1.getD s 0)
def partC (t : T24) (c : List Int) (s i : Nat) : Int := match c[i]? with
  | some k => (optAt t i k).1.getD s 0
  | none => lstL (t.1.getD i []) s
def sumC (t : T24) (c : List Int) (s : Nat) : Int := sumN (partC t c s) t.1.length
def maxN (f : Nat → Int) : Nat → Int
  | 0 => 0
  | n + 1 => bif decide (f n > maxN f n) then f n else maxN f n
def floorC (t : T24) (c : List Int) : Int := maxN (sumC t c) (scen t)
def partD (t : T24) (c : List Int) (y : Int) (i : Nat) : Int := match c[i]? with
  | some k => bif (optAt t i k).2.1 == y then (optAt t i k).2.2.1 else 0
  | none => 0
def dueS (t : T24) (c : List Int) (y : Int) : Int := sumN (partD t c y) c.length
def overG (p : Nat → Bool) : Nat → Nat → Int
  | 0, _ => -1
  | n + 1, j => bif p j then (j : Int) else overG p n (j + 1)
def brk (t : T24) (c : List Int) (y : Nat) : Bool := decide (dueS t c (y : Int) > t.2.1.getD y 0)
def overC (t : T24) (c : List Int) : Int := overG (brk t c) t.2.1.length 0

/-- Each number of a choice is an option's. -/
def vC (t : T24) (c : List Int) : Prop := c.length ≤ t.1.length ∧ ∀ (i : Nat) (k : Int), c[i]? = some k → 0 ≤ k ∧ k.toNat < (t.1.getD i []).length

/-! ### What is right -/

structure Good (t : T24) : Prop where
  n1 : 1 ≤ t.1.length
  n2 : t.1.length ≤ 40
  s1 : 1 ≤ scen t
  s2 : scen t ≤ 10
  y : t.2.1.length ≤ 60
  cap : ∀ (y : Nat) (x : Int), t.2.1[y]? = some x → 0 ≤ x ∧ x ≤ 1000000000000000
  opt : ∀ (i : Nat) (l : List T42), t.1[i]? = some l → 1 ≤ l.length ∧ l.length ≤ 6 ∧ ∀ (k : Nat) (o : T42), l[k]? = some o → o.1.length = scen t ∧ (∀ (s : Nat) (x : Int), o.1[s]? = some x → 0 ≤ x ∧ x ≤ 1000000000000000) ∧
    -1 ≤ o.2.1 ∧ o.2.1 < t.2.1.length ∧ 0 ≤ o.2.2.1 ∧ o.2.2.1 ≤ 1000000000000000

theorem good_of {t : T24} (h : rightC t = true) : Good t := by
  simp only [rightC, Bool.and_eq_true, inB, decide_eq_true_eq, List.all_eq_true] at h
  obtain ⟨⟨h1, h2⟩, ⟨h3, h4⟩, h5, h6, h7⟩ := h
  refine ⟨by omega, by omega, by omega, by omega, by omega, fun y x hx => h6 x (List.mem_of_getElem? hx), fun i l hl => ?_⟩
  have hi := h7 l (List.mem_of_getElem? hl)
  simp only [okI, Bool.and_eq_true, inB, decide_eq_true_eq, List.all_eq_true] at hi
  obtain ⟨⟨g1, g2⟩, g3⟩ := hi
  refine ⟨by omega, by omega, fun k o ho => ?_⟩
  have hk := g3 o (List.mem_of_getElem? ho)
  simp only [okO, Bool.and_eq_true, inB, decide_eq_true_eq, List.all_eq_true] at hk
  obtain ⟨q1, q2, ⟨q3, q4⟩, q5, q6⟩ := hk
  exact ⟨by omega, fun s x hx => q2 x (List.mem_of_getElem? hx), q3, by omega, q5, q6⟩

theorem getD_some {α : Type} {l : List α} {i : Nat} {x d : α} (h : l[i]? = some x) : l.getD i d = x := by
  rw [List.getD_eq_getElem?_getD, h]; rfl
theorem get_of_lt {α : Type} {l : List α} {i : Nat} (h : i < l.length) (d : α) : l[i]? = some (l.getD i d) := by
  rw [List.getD_eq_getElem?_getD, List.getElem?_eq_getElem h]; rfl

theorem Good.issue {t : T24} (g : Good t) {i : Nat} (h : i < t.1.length) : t.1[i]? = some (t.1.getD i []) := get_of_lt h _

theorem Good.at' {t : T24} (g : Good t) {i : Nat} (h : i < t.1.length) {k : Int} (h1 : k.toNat < (t.1.getD i []).length) :
    (t.1.getD i [])[k.toNat]? = some (optAt t i k) ∧ (optAt t i k).1.length = scen t ∧ (∀ s, s < scen t → (optAt t i k).1[s]? = some ((optAt t i k).1.getD s 0) ∧ 0 ≤ (optAt t i k).1.getD s 0 ∧ (optAt t i k).1.getD s 0 ≤ 1000000000000000) ∧
      -1 ≤ (optAt t i k).2.1 ∧ (optAt t i k).2.1 < t.2.1.length ∧ 0 ≤ (optAt t i k).2.2.1 ∧ (optAt t i k).2.2.1 ≤ 1000000000000000 := by
  obtain ⟨g1, g2, g3⟩ := g.opt i _ (g.issue h)
  have ho : (t.1.getD i [])[k.toNat]? = some (optAt t i k) := get_of_lt h1 _
  obtain ⟨q1, q2, q3, q4, q5, q6⟩ := g3 _ _ ho
  refine ⟨ho, q1, fun s hs => ?_, q3, q4, q5, q6⟩
  have hs' : (optAt t i k).1[s]? = some ((optAt t i k).1.getD s 0) := get_of_lt (by omega) _
  exact ⟨hs', q2 s _ hs'⟩

theorem lst_bd {t : T24} (g : Good t) {i : Nat} (h : i < t.1.length) {s : Nat} (hs : s < scen t) : 0 ≤ lstL (t.1.getD i []) s ∧ lstL (t.1.getD i []) s ≤ 1000000000000000 ∧ ∀ k : Nat, k < (t.1.getD i []).length → lstL (t.1.getD i []) s ≤ (optAt t i (k : Int)).1.getD s 0 := by
  obtain ⟨g1, g2, g3⟩ := g.opt i _ (g.issue h)
  have key : ∀ (l : List T42) (m : Int), (∀ o ∈ l, 0 ≤ o.1.getD s 0) → 0 ≤ m → 0 ≤ l.foldl (minS s) m ∧ l.foldl (minS s) m ≤ m ∧ ∀ o ∈ l, l.foldl (minS s) m ≤ o.1.getD s 0 := by
    intro l
    induction l with
    | nil => intro m _ hm; exact ⟨hm, Int.le_refl _, fun o ho => by cases ho⟩
    | cons o l ih =>
      intro m ho hm
      have h0 := ho o (by simp)
      have hmm : 0 ≤ minS s m o ∧ minS s m o ≤ m ∧ minS s m o ≤ o.1.getD s 0 := by
        unfold minS
        by_cases c : o.1.getD s 0 < m
        · rw [decide_eq_true c, cond_true]; omega
        · rw [decide_eq_false c, cond_false]; omega
      obtain ⟨a1, a2, a3⟩ := ih (minS s m o) (fun o' h' => ho o' (by simp [h'])) hmm.1
      refine ⟨a1, by simp only [List.foldl_cons]; omega, fun o' h' => ?_⟩
      simp only [List.foldl_cons]
      rcases List.mem_cons.1 h' with rfl | h'
      · omega
      · exact a3 o' h'
  have hall : ∀ o ∈ t.1.getD i [], 0 ≤ o.1.getD s 0 ∧ o.1.getD s 0 ≤ 1000000000000000 := by
    intro o ho
    obtain ⟨k, hk⟩ := List.getElem?_of_mem ho
    obtain ⟨q1, q2, _⟩ := g3 k o hk
    exact q2 s _ (get_of_lt (by omega) 0)
  have h0 : (t.1.getD i [])[0]? = some ((t.1.getD i []).getD 0 ([], 0, 0, ())) := get_of_lt (by omega) _
  have b0 := hall _ (List.mem_of_getElem? h0)
  obtain ⟨a1, a2, a3⟩ := key (t.1.getD i []) _ (fun o ho => (hall o ho).1) b0.1
  refine ⟨a1, Int.le_trans a2 b0.2, fun k hk => ?_⟩
  have hk' : (t.1.getD i [])[((k : Int)).toNat]? = some (optAt t i (k : Int)) := get_of_lt (by simpa using hk) _
  exact a3 _ (List.mem_of_getElem? hk')

theorem part_bd {t : T24} (g : Good t) {c : List Int} (hv : vC t c) {s i : Nat} (hs : s < scen t) (hi : i < t.1.length) : 0 ≤ partC t c s i ∧ partC t c s i ≤ 1000000000000000 := by
  unfold partC
  split
  · rename_i k hk
    obtain ⟨k0, k1⟩ := hv.2 i k hk
    exact ((g.at' hi k1).2.2.1 s hs).2
  · have := lst_bd g hi hs
    omega

theorem sum_le {f : Nat → Int} {M : Int} : ∀ n, (∀ i, i < n → 0 ≤ f i ∧ f i ≤ M) → 0 ≤ sumN f n ∧ sumN f n ≤ M * n
  | 0, _ => by simp [sumN]
  | n + 1, h => by
    have ih := sum_le n (fun i hi => h i (by omega))
    have := h n (by omega)
    simp only [sumN]
    have e : M * ((n + 1 : Nat) : Int) = M * n + M := by rw [Int.natCast_add, Int.mul_add]; simp
    omega

theorem sumC_bd {t : T24} (g : Good t) {c : List Int} (hv : vC t c) {s : Nat} (hs : s < scen t) : ∀ n, n ≤ t.1.length → 0 ≤ sumN (partC t c s) n ∧ sumN (partC t c s) n ≤ 40000000000000000 := by
  intro n hn
  have := sum_le (f := partC t c s) (M := 1000000000000000) n (fun i hi => part_bd g hv hs (by omega))
  have := g.n2
  omega

theorem maxN_bd {f : Nat → Int} {M : Int} (hM : 0 ≤ M) : ∀ n, (∀ i, i < n → 0 ≤ f i ∧ f i ≤ M) → 0 ≤ maxN f n ∧ maxN f n ≤ M ∧ ∀ i, i < n → f i ≤ maxN f n
  | 0, _ => ⟨Int.le_refl 0, hM, fun i hi => absurd hi (Nat.not_lt_zero i)⟩
  | n + 1, h => by
    obtain ⟨a, b, c⟩ := maxN_bd hM n (fun i hi => h i (by omega))
    have hn := h n (by omega)
    unfold maxN
    by_cases d : f n > maxN f n
    · rw [decide_eq_true d, cond_true]
      refine ⟨hn.1, hn.2, fun i hi => ?_⟩
      by_cases e : i = n
      · subst e; omega
      · have := c i (by omega); omega
    · rw [decide_eq_false d, cond_false]
      refine ⟨a, b, fun i hi => ?_⟩
      by_cases e : i = n
      · subst e; omega
      · exact c i (by omega)

theorem dueP_bd {t : T24} (g : Good t) {c : List Int} (hv : vC t c) (y : Int) (i : Nat) : 0 ≤ partD t c y i ∧ partD t c y i ≤ 1000000000000000 := by
  unfold partD
  split
  · rename_i k hk
    obtain ⟨k0, k1⟩ := hv.2 i k hk
    have hi : i < t.1.length := by have := (List.getElem?_eq_some_iff.1 hk).1; have := hv.1; omega
    have := (g.at' hi k1).2.2.2
    cases ((optAt t i k).2.1 == y) <;> simp only [cond_true, cond_false] <;> omega
  · omega

theorem dueS_bd {t : T24} (g : Good t) {c : List Int} (hv : vC t c) (y : Int) : ∀ n, n ≤ c.length → 0 ≤ sumN (partD t c y) n ∧ sumN (partD t c y) n ≤ 40000000000000000 := by
  intro n hn
  have := sum_le (f := partD t c y) (M := 1000000000000000) n (fun i hi => dueP_bd g hv y i)
  have := g.n2
  have := hv.1
  omega

/-- A loop that stops at the first place at which something holds. -/
theorem first_loop {R : Type} (n : Nat) (p : Nat → Bool) (f : Nat → Int → Option R) (k1 : Option R) (k2 : Int → Option R) (hn : n ≤ 1000000)
    (hs : ∀ m j, j < n → f (m + 1) (j : Int) = bif p j then k2 (j : Int) else f m ((j : Int) + 1)) (he : ∀ m, f (m + 1) (n : Int) = k1) :
    f FUEL 0 = bif decide (overG p n 0 ≥ 0) then k2 (overG p n 0) else k1 := by
  have key : ∀ (i m j : Nat), j + i = n → i < m → f m (j : Int) = bif decide (overG p i j ≥ 0) then k2 (overG p i j) else k1 := by
    intro i
    induction i with
    | zero =>
      intro m j hj hm
      obtain ⟨m, rfl⟩ : ∃ a, m = a + 1 := ⟨m - 1, by omega⟩
      have : j = n := by omega
      subst this
      rw [he m]; rfl
    | succ i ih =>
      intro m j hj hm
      obtain ⟨m, rfl⟩ : ∃ a, m = a + 1 := ⟨m - 1, by omega⟩
      rw [hs m j (by omega)]
      unfold overG
      cases p j with
      | true =>
        have : decide ((j : Int) ≥ 0) = true := decide_eq_true (by omega)
        simp only [cond_true, this]
      | false => exact ih m (j + 1) (by omega) (by omega)
  exact key n FUEL 0 (by omega) (fuel_lt (by omega))

theorem overG_bd (p : Nat → Bool) : ∀ n j, overG p n j = -1 ∨ ((j : Int) ≤ overG p n j ∧ overG p n j < (j + n : Nat) ∧ p (overG p n j).toNat = true)
  | 0, j => .inl rfl
  | n + 1, j => by
    unfold overG
    cases h : p j with
    | true =>
      refine .inr ?_
      simp only [cond_true]
      refine ⟨Int.le_refl _, by omega, by simpa using h⟩
    | false =>
      simp only [cond_false]
      rcases overG_bd p n (j + 1) with h1 | ⟨h1, h2, h3⟩
      · exact .inl h1
      · exact .inr ⟨by omega, by omega, h3⟩

theorem overG_none {p : Nat → Bool} : ∀ {n j : Nat}, overG p n j = -1 ↔ ∀ i, j ≤ i → i < j + n → p i = false
  | 0, j => ⟨fun _ i h1 h2 => absurd h2 (by omega), fun _ => rfl⟩
  | n + 1, j => by
    unfold overG
    cases h : p j with
    | true =>
      simp only [cond_true]
      constructor
      · intro h1; omega
      · intro h1
        have := h1 j (Nat.le_refl j) (by omega)
        rw [h] at this; cases this
    | false =>
      simp only [cond_false]
      rw [overG_none (n := n) (j := j + 1)]
      constructor
      · intro h1 i h2 h3
        by_cases e : i = j
        · subst e; exact h
        · exact h1 i (by omega) (by omega)
      · intro h1 i h2 h3
        exact h1 i (by omega) (by omega)

/-! ### The reference -/

theorem m22_eq {t : T24} (g : Good t) {c : List Int} (hv : vC t c) : m22 t c = some (floorC t c) := by
  unfold m22 floorC
  have := g.s2
  have := g.n2
  exact seq_loop (R := Int) (S := Int) (scen t) (maxN (sumC t c)) (fun m j s => l22_3 c t (fun y16 => some y16) m s j) (fun s => some s) (by omega)
    (by
      intro m s hs
      simp only [l22_3, s22_3, m41_eq, Option.bind_some, lt1 hs, cond_true, wr1 (j := s) (by omega)]
      exact seq_loop (R := Int) (S := Int) t.1.length (fun j => sumN (partC t c s) j) (fun m j q => l22_2 c (s : Int) t _ m q j) (fun y15 => l22_3 c t (fun y16 => some y16) m (bif decide (y15 > maxN (sumC t c) s) then y15 else maxN (sumC t c) s) ((s : Int) + 1)) (by omega)
        (by
          intro n i hi
          have hb := sumC_bd g hv hs i (by omega)
          have hp := part_bd g hv hs hi
          simp only [l22_2, s22_2, lt1 hi, cond_true, wr1 (j := i) (by omega)]
          refine (cont_eq (sumN (partC t c s) (i + 1)) fun k => ?_).trans rfl
          simp only [sumN]
          generalize sumN (partC t c s) i = A at hb ⊢
          by_cases hc : i < c.length
          · have hk : c[i]? = some (c.getD i 0) := get_of_lt hc 0
            obtain ⟨k0, k1⟩ := hv.2 i _ hk
            obtain ⟨o1, o2, o3, _⟩ := g.at' hi k1
            have hpc : partC t c s i = (optAt t i (c.getD i 0)).1.getD s 0 := by unfold partC; rw [hk]
            rw [hpc] at hp ⊢
            rw [lt1 hc, cond_true]
            simp only [idx_nat, g.issue hi, hk, Option.bind_some, idx_pos k0, o1, (o3 s hs).1]
            rw [wrapI (by omega) (by omega)]
          · have hk : c[i]? = none := List.getElem?_eq_none (by omega)
            have hpc : partC t c s i = lstL (t.1.getD i []) s := by unfold partC; rw [hk]
            rw [hpc] at hp ⊢
            rw [decide_eq_false (p := (i : Int) < (c.length : Int)) (by omega), cond_false]
            obtain ⟨g1, g2, g3⟩ := g.opt i _ (g.issue hi)
            have i0 : idx (t.1.getD i []) 0 = some ((t.1.getD i []).getD 0 ([], 0, 0, ())) := by
              have := idx_nat (t.1.getD i []) 0
              exact this.trans (get_of_lt (by omega) _)
            have h0 := g3 0 _ (get_of_lt (by omega) ([], 0, 0, ()))
            have i1 : (((t.1.getD i []).getD 0 ([], 0, 0, ()) : T42)).1[s]? = some (((t.1.getD i []).getD 0 ([], 0, 0, ()) : T42).1.getD s 0) := get_of_lt (by omega) _
            simp only [idx_nat, g.issue hi, Option.bind_some, i0, i1]
            have hloop : ∀ (kk : Int → Option Int), l22_1 (s : Int) (i : Int) t kk FUEL (((t.1.getD i []).getD 0 ([], 0, 0, ()) : T42).1.getD s 0) 0 = kk (lstL (t.1.getD i []) s) := by
              intro kk
              have hfold : lstL (t.1.getD i []) s = ((t.1.getD i []).take (t.1.getD i []).length).foldl (minS s) (((t.1.getD i []).getD 0 ([], 0, 0, ()) : T42).1.getD s 0) := by
                rw [List.take_length]; rfl
              rw [hfold]
              exact seq_loop (R := Int) (S := Int) (t.1.getD i []).length (fun j => ((t.1.getD i []).take j).foldl (minS s) (((t.1.getD i []).getD 0 ([], 0, 0, ()) : T42).1.getD s 0)) (fun m j q => l22_1 (s : Int) (i : Int) t kk m q j) kk (by omega)
                (by
                  intro m j hj
                  have hx := get_of_lt (l := t.1.getD i []) (i := j) hj ([], 0, 0, ())
                  have h1 := g3 j _ hx
                  have i2 : (((t.1.getD i []).getD j ([], 0, 0, ()) : T42)).1[s]? = some (((t.1.getD i []).getD j ([], 0, 0, ()) : T42).1.getD s 0) := get_of_lt (by omega) _
                  simp only [l22_1, s22_1, idx_nat, g.issue hi, Option.bind_some, lt1 hj, cond_true, hx, i2, wr1 (j := j) (by omega)]
                  rw [List.take_add_one, hx, List.foldl_append]
                  rfl)
                (by intro m; simp only [l22_1, s22_1, idx_nat, g.issue hi, Option.bind_some, lt0, cond_false])
            rw [hloop, wrapI (by omega) (by omega)])
        (by intro n; simp only [l22_2, s22_2, lt0, cond_false]))
    (by intro m; simp only [l22_3, s22_3, m41_eq, Option.bind_some, lt0, cond_false])

theorem m35_eq {t : T24} (g : Good t) {c : List Int} (hv : vC t c) : m35 t c = some (overC t c) := by
  unfold m35 overC
  have := g.n2
  have := g.y
  have := hv.1
  rw [first_loop (R := Int) t.2.1.length (brk t c) (fun m j => l35_2 c t (some (-1)) (fun y10 => some y10) m j) (some (-1)) (fun y10 => some y10) (by omega)
    (by
      intro m y hy
      have hcap := get_of_lt (l := t.2.1) (i := y) hy 0
      simp only [l35_2, s35_2, lt1 hy, cond_true, wr1 (j := y) (by omega)]
      refine (seq_loop (R := Int) (S := Int) c.length (fun j => sumN (partD t c (y : Int)) j) (fun m j q => l35_1 c (y : Int) t _ m q j) (fun y8 => (idx t.2.1 (y : Int)).bind fun x9 => bif (decide (y8 > x9)) then some (y : Int) else l35_2 c t (some (-1)) (fun y10 => some y10) m ((y : Int) + 1)) (by omega) ?_ ?_).trans ?_
      · intro n i hi
        have hk : c[i]? = some (c.getD i 0) := get_of_lt hi 0
        obtain ⟨k0, k1⟩ := hv.2 i _ hk
        have hi' : i < t.1.length := by omega
        obtain ⟨o1, o2, o3, _⟩ := g.at' hi' k1
        have hb := dueS_bd g hv (y : Int) i (by omega)
        have hp := dueP_bd g hv (y : Int) i
        have hpd : partD t c (y : Int) i = bif (optAt t i (c.getD i 0)).2.1 == (y : Int) then (optAt t i (c.getD i 0)).2.2.1 else 0 := by unfold partD; rw [hk]
        simp only [l35_1, s35_1, lt1 hi, cond_true, wr1 (j := i) (by omega)]
        refine (cont_eq (sumN (partD t c (y : Int)) (i + 1)) fun k => ?_).trans rfl
        simp only [sumN]
        generalize sumN (partD t c (y : Int)) i = A at hb ⊢
        simp only [idx_nat, g.issue hi', hk, Option.bind_some, idx_pos k0, o1]
        rw [hpd] at hp ⊢
        cases hq : ((optAt t i (c.getD i 0)).2.1 == (y : Int)) with
        | false => simp only [cond_false, Int.add_zero]
        | true =>
          rw [hq] at hp
          simp only [cond_true] at hp ⊢
          rw [wrapI (by omega) (by omega)]
      · intro n; simp only [l35_1, s35_1, lt0, cond_false]
      · simp only [idx_nat, hcap, Option.bind_some]
        rfl)
    (by intro m; simp only [l35_2, s35_2, lt0, cond_false])]
  cases h : decide (overG (brk t c) t.2.1.length 0 ≥ 0) with
  | true => rfl
  | false =>
    rcases overG_bd (brk t c) t.2.1.length 0 with h1 | ⟨h1, _, _⟩
    · rw [h1]; rfl
    · rw [decide_eq_true (by omega)] at h; cases h

/-! ### The state of a search -/

def mapR (n : Nat) (f : Nat → Int) : List Int := (List.range n).map f
theorem mapR_len (n : Nat) (f : Nat → Int) : (mapR n f).length = n := by simp [mapR]
theorem mapR_get {n : Nat} {f : Nat → Int} {i : Nat} (h : i < n) : (mapR n f)[i]? = some (f i) := by
  simp [mapR, h]
theorem mapR_set {n : Nat} {f : Nat → Int} {i : Nat} {x : Int} : (mapR n f).set i x = mapR n (fun j => if j = i then x else f j) := by
  apply List.ext_getElem?
  intro j
  rw [List.getElem?_set]
  by_cases hj : j < n
  · by_cases e : i = j
    · subst e
      rw [if_pos rfl, if_pos (by rw [mapR_len]; exact hj), mapR_get hj, if_pos rfl]
    · rw [if_neg e, mapR_get hj, mapR_get hj, if_neg (fun h => e h.symm)]
  · rw [List.getElem?_eq_none (l := mapR n _) (by rw [mapR_len]; omega)]
    by_cases e : i = j
    · subst e; rw [if_pos rfl, if_neg (by rw [mapR_len]; omega)]
      rw [List.getElem?_eq_none (by rw [mapR_len]; omega)]
    · rw [if_neg e, List.getElem?_eq_none (by rw [mapR_len]; omega)]
theorem mapR_congr {n : Nat} {f g : Nat → Int} (h : ∀ i, i < n → f i = g i) : mapR n f = mapR n g := by
  apply List.ext_getElem?
  intro j
  by_cases hj : j < n
  · rw [mapR_get hj, mapR_get hj, h j hj]
  · rw [List.getElem?_eq_none (by rw [mapR_len]; omega), List.getElem?_eq_none (by rw [mapR_len]; omega)]

def leastL (t : T24) : List (List Int) := (List.range t.1.length).map fun i => mapR (scen t) (lstL (t.1.getD i []))
def costsL (t : T24) (c : List Int) : List Int := mapR (scen t) (sumC t c)
def dueL (t : T24) (c : List Int) : List Int := mapR t.2.1.length (fun y => dueS t c (y : Int))

theorem m27_eq {t : T24} (g : Good t) (c : List Int) (L : List (List Int)) (K : List Int) : m27 (t, L, K, dueL t c, ()) = some (overC t c) := by
  unfold m27 overC
  have := g.y
  have hl : (dueL t c).length = t.2.1.length := mapR_len _ _
  simp only [hl]
  rw [first_loop (R := Int) t.2.1.length (brk t c) (fun m j => l27_1 (t, L, K, dueL t c, ()) (dueL t c) (t.2.1.length : Int) (some (-1)) (fun y3 => some y3) m j) (some (-1)) (fun y3 => some y3) (by omega)
    (by
      intro m y hy
      have hcap := get_of_lt (l := t.2.1) (i := y) hy 0
      have hd : (dueL t c)[y]? = some (dueS t c (y : Int)) := mapR_get hy
      simp only [l27_1, s27_1, lt1 hy, cond_true, idx_nat, hcap, hd, Option.bind_some, wr1 (j := y) (by omega)]
      rfl)
    (by intro m; simp only [l27_1, s27_1, lt0, cond_false])]
  cases h : decide (overG (brk t c) t.2.1.length 0 ≥ 0) with
  | true => rfl
  | false =>
    rcases overG_bd (brk t c) t.2.1.length 0 with h1 | ⟨h1, _, _⟩
    · rw [h1]; rfl
    · rw [decide_eq_true (by omega)] at h; cases h

theorem m46_eq {n : Nat} {f : Nat → Int} (h1 : 1 ≤ n) (h2 : n ≤ 1000) (h0 : 0 ≤ f 0) : m46 (mapR n f) = some (maxN f n) := by
  unfold m46
  have hl : (mapR n f).length = n := mapR_len _ _
  simp only [hl]
  rw [decide_eq_false (p := (n : Int) < 1) (by omega), cond_false]
  have i0 : idx (mapR n f) 0 = some (f 0) := (idx_nat (mapR n f) 0).trans (mapR_get (by omega))
  rw [i0, Option.bind_some]
  have e1 : f 0 = maxN f 1 := by
    show f 0 = bif decide (f 0 > 0) then f 0 else 0
    by_cases c : f 0 > 0
    · rw [decide_eq_true c]; rfl
    · rw [decide_eq_false c]; simp only [cond_false]; omega
  have key : ∀ (i m j : Nat), j + i = n → i < m → l46_1 (mapR n f) (fun y3 => some y3) m (maxN f j) (j : Int) = some (maxN f n) := by
    intro i
    induction i with
    | zero =>
      intro m j hj hm
      obtain ⟨m, rfl⟩ : ∃ a, m = a + 1 := ⟨m - 1, by omega⟩
      have : j = n := by omega
      subst this
      simp only [l46_1, s46_1, hl, lt0, cond_false]
    | succ i ih =>
      intro m j hj hm
      obtain ⟨m, rfl⟩ : ∃ a, m = a + 1 := ⟨m - 1, by omega⟩
      have hjn : j < n := by omega
      simp only [l46_1, s46_1, hl, lt1 hjn, cond_true, idx_nat, mapR_get hjn, Option.bind_some, wr1 (j := j) (by omega)]
      exact ih m (j + 1) (by omega) (by omega)
  rw [e1]
  exact key (n - 1) FUEL 1 (by omega) (fuel_lt (by omega))

theorem m28_eq {t : T24} (g : Good t) {c : List Int} (hv : vC t c) (L : List (List Int)) (D : List Int) : m28 (t, L, costsL t c, D, ()) = some (floorC t c) := by
  unfold m28
  have := g.s2
  simp only
  rw [show costsL t c = mapR (scen t) (sumC t c) from rfl, m46_eq g.s1 (by omega) (sumC_bd g hv g.s1 _ (Nat.le_refl _)).1]
  rfl

/-! ### Plan: how a choice's state is made and changed; what a choice costs. -/
theorem vC_nil (t : T24) : vC t [] := ⟨Nat.zero_le _, fun i k h => by simp at h⟩
theorem vC_app {t : T24} {c : List Int} (hv : vC t c) (hc : c.length < t.1.length) {j : Nat} (hj : j < (t.1.getD c.length []).length) : vC t (c ++ [(j : Int)]) := by
  refine ⟨by simp; omega, fun i k h => ?_⟩
  by_cases hi : i < c.length
  · rw [List.getElem?_append_left hi] at h
    exact hv.2 i k h
  · rw [List.getElem?_append_right (by omega)] at h
    have : i - c.length = 0 := by
      have := (List.getElem?_eq_some_iff.1 h).1
      simp at this; omega
    rw [this] at h
    simp at h
    subst h
    have e : i = c.length := by omega
    subst e
    exact ⟨by omega, by simpa using hj⟩

theorem app_at (c : List Int) (j : Int) (i : Nat) : (c ++ [j])[i]? = if i = c.length then some j else c[i]? := by
  by_cases h : i < c.length
  · rw [List.getElem?_append_left h, if_neg (by omega)]
  · rw [List.getElem?_append_right (by omega)]
    by_cases e : i = c.length
    · subst e; simp
    · rw [if_neg e, List.getElem?_eq_none (by simp; omega), List.getElem?_eq_none (by omega)]

theorem part_app (t : T24) (c : List Int) (j : Int) (s i : Nat) : partC t (c ++ [j]) s i = if i = c.length then (optAt t i j).1.getD s 0 else partC t c s i := by
  unfold partC
  rw [app_at]
  by_cases e : i = c.length
  · rw [if_pos e, if_pos e]
  · rw [if_neg e, if_neg e]

theorem part_here (t : T24) (c : List Int) (s : Nat) : partC t c s c.length = lstL (t.1.getD c.length []) s := by
  unfold partC
  rw [List.getElem?_eq_none (Nat.le_refl _)]

theorem sumN_upd {f g : Nat → Int} {n q : Nat} (hq : q < n) (h : ∀ i, i < n → i ≠ q → f i = g i) : sumN f n = sumN g n - g q + f q := by
  have h1 := sumN_sub f g n
  have h2 : sumN (fun i => f i - g i) n = f q - g q := sumN_one (f := fun i => f i - g i) hq (fun i hi hne => by have := h i hi hne; omega)
  omega

theorem sumC_app (t : T24) {c : List Int} (hc : c.length < t.1.length) (j : Int) (s : Nat) : sumC t (c ++ [j]) s = sumC t c s + ((optAt t c.length j).1.getD s 0 - lstL (t.1.getD c.length []) s) := by
  unfold sumC
  rw [sumN_upd (f := partC t (c ++ [j]) s) (g := partC t c s) hc (fun i hi hne => by rw [part_app, if_neg hne]), part_app, if_pos rfl, part_here]
  omega

theorem dueS_app (t : T24) (c : List Int) (j : Int) (y : Int) : dueS t (c ++ [j]) y = dueS t c y + (bif (optAt t c.length j).2.1 == y then (optAt t c.length j).2.2.1 else 0) := by
  unfold dueS
  rw [List.length_append, List.length_singleton]
  simp only [sumN]
  rw [sumN_congr (f := partD t (c ++ [j]) y) (g := partD t c y) (fun i hi => by
    unfold partD
    rw [app_at, if_neg (by omega)])]
  congr 1
  unfold partD
  rw [app_at, if_pos rfl]

/-- A step's loop over the scenarios. -/
theorem step_loop {R : Type} {n i : Nat} {by_ : Int} {costs : List Int} {least : List (List Int)} {f cs g : Nat → Int} (L : Nat → Int → List Int → Option R) (k1 : List Int → Option R) (hn : n ≤ 1000) (hlen : costs.length = n)
    (hcs : ∀ s, s < n → costs[s]? = some (cs s)) (hl : least[i]? = some (mapR n g)) (hby : by_ = 1 ∨ by_ = -1) (hb : ∀ s, s < n → 0 ≤ cs s ∧ cs s ≤ 1000000000000000 ∧ 0 ≤ g s ∧ g s ≤ 1000000000000000 ∧ 0 ≤ f s ∧ f s ≤ 100000000000000000)
    (hL : ∀ (m : Nat) (j : Int) (o : List Int), L (m + 1) j o = bif (decide (j < (List.length costs : Int))) then
        (idx costs j).bind fun x8 => asrt true (decide (0 ≤ j) && decide (j < (List.length o : Int))) (((o)[(j : Int).toNat]?).bind fun x9 => (idx least (i : Int)).bind fun x10 => (idx x10 j).bind fun x11 =>
          asrt true (decide (0 ≤ j) && decide (j < (List.length o : Int))) (((o)[(j : Int).toNat]?).bind fun x12 => L m (IntKind.i64.wrap (j + 1)) (List.set o (j : Int).toNat (IntKind.i64.wrap (x9 + (IntKind.i64.wrap (by_ * (IntKind.i64.wrap (x8 - x11))))))))) else k1 o) :
    L FUEL 0 (mapR n f) = k1 (mapR n fun s => f s + by_ * (cs s - g s)) := by
  have e0 : mapR n f = mapR n (fun s => if s < 0 then f s + by_ * (cs s - g s) else f s) := mapR_congr (fun s _ => by simp)
  have e1 : (mapR n fun s => f s + by_ * (cs s - g s)) = mapR n (fun s => if s < n then f s + by_ * (cs s - g s) else f s) := mapR_congr (fun s hs => by rw [if_pos hs])
  rw [e0, e1]
  exact seq_loop (R := R) (S := List Int) n (fun j => mapR n (fun s => if s < j then f s + by_ * (cs s - g s) else f s)) (fun m j o => L m j o) k1 (by omega)
    (by
      intro m j hj
      have hbj := hb j hj
      have ho : (mapR n (fun s => if s < j then f s + by_ * (cs s - g s) else f s))[j]? = some (f j) := by
        rw [mapR_get hj, if_neg (Nat.lt_irrefl j)]
      have hlen2 : (mapR n (fun s => if s < j then f s + by_ * (cs s - g s) else f s)).length = n := mapR_len _ _
      have w1 : IntKind.i64.wrap (cs j - g j) = cs j - g j := wrapI (by omega) (by omega)
      have w2 : IntKind.i64.wrap (by_ * (cs j - g j)) = by_ * (cs j - g j) := by
        rcases hby with rfl | rfl
        · exact wrapI (by omega) (by omega)
        · exact wrapI (by omega) (by omega)
      have w3 : IntKind.i64.wrap (f j + by_ * (cs j - g j)) = f j + by_ * (cs j - g j) := by
        rcases hby with rfl | rfl
        · exact wrapI (by omega) (by omega)
        · exact wrapI (by omega) (by omega)
      rw [hL]
      simp only [hlen, hlen2, lt1 hj, nn, Bool.and_self, cond_true, idx_nat, hcs j hj, Option.bind_some, asrtT, Int.toNat_natCast, ho, hl, mapR_get hj, w1, w2, w3, wr1 (j := j) (by omega)]
      congr 1
      rw [mapR_set]
      refine mapR_congr (fun s hs => ?_)
      by_cases e : s = j
      · subst e; rw [if_pos rfl, if_pos (by omega)]
      · rw [if_neg e]
        by_cases h2 : s < j
        · rw [if_pos h2, if_pos (by omega)]
        · rw [if_neg h2, if_neg (by omega)])
    (by
      intro m
      have hlen2 : (mapR n (fun s => if s < n then f s + by_ * (cs s - g s) else f s)).length = n := mapR_len _ _
      rw [hL]
      simp only [hlen, lt0, cond_false])

theorem leastL_at {t : T24} {i : Nat} (h : i < t.1.length) : (leastL t)[i]? = some (mapR (scen t) (lstL (t.1.getD i []))) := by
  simp [leastL, h]

/-- An option is chosen. -/
theorem step_up {R : Type} {t : T24} (g : Good t) {c : List Int} (hv : vC t c) (hc : c.length < t.1.length) {j : Nat} (hj : j < (t.1.getD c.length []).length) (L : Nat → Int → List Int → Option R) (k1 : List Int → Option R)
    (hL : ∀ (m : Nat) (i : Int) (o : List Int), L (m + 1) i o = bif (decide (i < (List.length (optAt t c.length (j : Int)).1 : Int))) then
        (idx (optAt t c.length (j : Int)).1 i).bind fun x8 => asrt true (decide (0 ≤ i) && decide (i < (List.length o : Int))) (((o)[(i : Int).toNat]?).bind fun x9 => (idx (leastL t) (c.length : Int)).bind fun x10 => (idx x10 i).bind fun x11 =>
          asrt true (decide (0 ≤ i) && decide (i < (List.length o : Int))) (((o)[(i : Int).toNat]?).bind fun x12 => L m (IntKind.i64.wrap (i + 1)) (List.set o (i : Int).toNat (IntKind.i64.wrap (x9 + (IntKind.i64.wrap (1 * (IntKind.i64.wrap (x8 - x11))))))))) else k1 o) :
    L FUEL 0 (costsL t c) = k1 (costsL t (c ++ [(j : Int)])) := by
  obtain ⟨o1, o2, o3, _⟩ := g.at' hc (k := (j : Int)) (by simpa using hj)
  have := g.s2
  unfold costsL
  rw [step_loop (n := scen t) (i := c.length) (by_ := 1) (f := sumC t c) (cs := fun s => (optAt t c.length (j : Int)).1.getD s 0) (g := lstL (t.1.getD c.length [])) L k1 (by omega) o2 (fun s hs => (o3 s hs).1) (leastL_at hc) (.inl rfl)
    (fun s hs => by
      have h1 := (o3 s hs).2
      have h2 := lst_bd g hc hs
      have h3 := sumC_bd g hv hs t.1.length (Nat.le_refl _)
      have h4 : 0 ≤ sumC t c s ∧ sumC t c s ≤ 40000000000000000 := h3
      omega) hL]
  congr 1
  exact mapR_congr (fun s _ => by rw [sumC_app t hc]; omega)

/-- An option is given back. -/
theorem step_down {R : Type} {t : T24} (g : Good t) {c : List Int} (hv : vC t c) (hc : c.length < t.1.length) {j : Nat} (hj : j < (t.1.getD c.length []).length) (L : Nat → Int → List Int → Option R) (k1 : List Int → Option R)
    (hL : ∀ (m : Nat) (i : Int) (o : List Int), L (m + 1) i o = bif (decide (i < (List.length (optAt t c.length (j : Int)).1 : Int))) then
        (idx (optAt t c.length (j : Int)).1 i).bind fun x8 => asrt true (decide (0 ≤ i) && decide (i < (List.length o : Int))) (((o)[(i : Int).toNat]?).bind fun x9 => (idx (leastL t) (c.length : Int)).bind fun x10 => (idx x10 i).bind fun x11 =>
          asrt true (decide (0 ≤ i) && decide (i < (List.length o : Int))) (((o)[(i : Int).toNat]?).bind fun x12 => L m (IntKind.i64.wrap (i + 1)) (List.set o (i : Int).toNat (IntKind.i64.wrap (x9 + (IntKind.i64.wrap ((-1) * (IntKind.i64.wrap (x8 - x11))))))))) else k1 o) :
    L FUEL 0 (costsL t (c ++ [(j : Int)])) = k1 (costsL t c) := by
  obtain ⟨o1, o2, o3, _⟩ := g.at' hc (k := (j : Int)) (by simpa using hj)
  have := g.s2
  have hv2 := vC_app hv hc hj
  unfold costsL
  rw [step_loop (n := scen t) (i := c.length) (by_ := -1) (f := sumC t (c ++ [(j : Int)])) (cs := fun s => (optAt t c.length (j : Int)).1.getD s 0) (g := lstL (t.1.getD c.length [])) L k1 (by omega) o2 (fun s hs => (o3 s hs).1) (leastL_at hc) (.inr rfl)
    (fun s hs => by
      have h1 := (o3 s hs).2
      have h2 := lst_bd g hc hs
      have h3 := sumC_bd g hv2 hs t.1.length (Nat.le_refl _)
      have h4 : 0 ≤ sumC t (c ++ [(j : Int)]) s ∧ sumC t (c ++ [(j : Int)]) s ≤ 40000000000000000 := h3
      omega) hL]
  congr 1
  exact mapR_congr (fun s _ => by rw [sumC_app t hc]; omega)

/-- What falls due. -/
theorem due_up {t : T24} (g : Good t) {c : List Int} (hv : vC t c) (hc : c.length < t.1.length) {j : Nat} (hj : j < (t.1.getD c.length []).length) (h0 : decide ((optAt t c.length (j : Int)).2.1 ≥ 0) = true) :
    (decide (0 ≤ (optAt t c.length (j : Int)).2.1) && decide ((optAt t c.length (j : Int)).2.1 < (List.length (dueL t c) : Int))) = true ∧
    (dueL t c)[(optAt t c.length (j : Int)).2.1.toNat]? = some (dueS t c (optAt t c.length (j : Int)).2.1) ∧
    List.set (dueL t c) (optAt t c.length (j : Int)).2.1.toNat (IntKind.i64.wrap (dueS t c (optAt t c.length (j : Int)).2.1 + IntKind.i64.wrap (1 * (optAt t c.length (j : Int)).2.2.1))) = dueL t (c ++ [(j : Int)]) := by
  obtain ⟨o1, o2, o3, o4, o5, o6, o7⟩ := g.at' hc (k := (j : Int)) (by simpa using hj)
  simp only [decide_eq_true_eq] at h0
  have hl : (dueL t c).length = t.2.1.length := mapR_len _ _
  have hy : (optAt t c.length (j : Int)).2.1.toNat < t.2.1.length := by omega
  have hyc : (((optAt t c.length (j : Int)).2.1.toNat : Nat) : Int) = (optAt t c.length (j : Int)).2.1 := by omega
  have hb := dueS_bd g hv (optAt t c.length (j : Int)).2.1 c.length (Nat.le_refl _)
  have hb' : 0 ≤ dueS t c (optAt t c.length (j : Int)).2.1 ∧ dueS t c (optAt t c.length (j : Int)).2.1 ≤ 40000000000000000 := hb
  refine ⟨by rw [hl]; simp; omega, ?_, ?_⟩
  · unfold dueL
    rw [mapR_get hy, hyc]
  · rw [wrapI (x := 1 * _) (by omega) (by omega), wrapI (by omega) (by omega)]
    unfold dueL
    rw [mapR_set]
    refine mapR_congr (fun y _ => ?_)
    rw [dueS_app]
    by_cases e : y = (optAt t c.length (j : Int)).2.1.toNat
    · rw [if_pos e]
      have : ((optAt t c.length (j : Int)).2.1 == (y : Int)) = true := by simp; omega
      rw [this, cond_true]
      have e2 : (y : Int) = (optAt t c.length (j : Int)).2.1 := by omega
      rw [e2]; omega
    · rw [if_neg e]
      have : ((optAt t c.length (j : Int)).2.1 == (y : Int)) = false := by simp; omega
      rw [this, cond_false]; omega

theorem due_same {t : T24} {c : List Int} {j : Nat} (h0 : decide ((optAt t c.length (j : Int)).2.1 ≥ 0) = false) : dueL t (c ++ [(j : Int)]) = dueL t c := by
  simp only [decide_eq_false_iff_not] at h0
  unfold dueL
  refine mapR_congr (fun y _ => ?_)
  rw [dueS_app]
  have : ((optAt t c.length (j : Int)).2.1 == (y : Int)) = false := by simp; omega
  rw [this, cond_false]; omega

theorem due_down {t : T24} (g : Good t) {c : List Int} (hv : vC t c) (hc : c.length < t.1.length) {j : Nat} (hj : j < (t.1.getD c.length []).length) (h0 : decide ((optAt t c.length (j : Int)).2.1 ≥ 0) = true) :
    (decide (0 ≤ (optAt t c.length (j : Int)).2.1) && decide ((optAt t c.length (j : Int)).2.1 < (List.length (dueL t (c ++ [(j : Int)])) : Int))) = true ∧
    (dueL t (c ++ [(j : Int)]))[(optAt t c.length (j : Int)).2.1.toNat]? = some (dueS t (c ++ [(j : Int)]) (optAt t c.length (j : Int)).2.1) ∧
    List.set (dueL t (c ++ [(j : Int)])) (optAt t c.length (j : Int)).2.1.toNat (IntKind.i64.wrap (dueS t (c ++ [(j : Int)]) (optAt t c.length (j : Int)).2.1 + IntKind.i64.wrap ((-1) * (optAt t c.length (j : Int)).2.2.1))) = dueL t c := by
  obtain ⟨o1, o2, o3, o4, o5, o6, o7⟩ := g.at' hc (k := (j : Int)) (by simpa using hj)
  simp only [decide_eq_true_eq] at h0
  have hv2 := vC_app hv hc hj
  have hl : (dueL t (c ++ [(j : Int)])).length = t.2.1.length := mapR_len _ _
  have hy : (optAt t c.length (j : Int)).2.1.toNat < t.2.1.length := by omega
  have hyc : (((optAt t c.length (j : Int)).2.1.toNat : Nat) : Int) = (optAt t c.length (j : Int)).2.1 := by omega
  have hb := dueS_bd g hv2 (optAt t c.length (j : Int)).2.1 _ (Nat.le_refl _)
  have hb' : 0 ≤ dueS t (c ++ [(j : Int)]) (optAt t c.length (j : Int)).2.1 ∧ dueS t (c ++ [(j : Int)]) (optAt t c.length (j : Int)).2.1 ≤ 40000000000000000 := hb
  refine ⟨by rw [hl]; simp; omega, ?_, ?_⟩
  · unfold dueL
    rw [mapR_get hy, hyc]
  · rw [wrapI (x := (-1) * _) (by omega) (by omega), wrapI (by omega) (by omega)]
    unfold dueL
    rw [mapR_set]
    refine mapR_congr (fun y _ => ?_)
    by_cases e : y = (optAt t c.length (j : Int)).2.1.toNat
    · rw [if_pos e]
      have e2 : (y : Int) = (optAt t c.length (j : Int)).2.1 := by omega
      rw [e2, dueS_app, beq_self_eq_true, cond_true]; omega
    · rw [if_neg e, dueS_app]
      have : ((optAt t c.length (j : Int)).2.1 == (y : Int)) = false := by simp; omega
      rw [this, cond_false]; omega

/-! ### Plan: how the state of the empty choice is made. -/
theorem op10_1 {R : Type} {t : T24} (g : Good t) {i : Nat} (hi : i < t.1.length) {k : Nat} (hk : k < (t.1.getD i []).length) (k1 : List Int → Option R) (f : Nat → Int) :
    l10_1 (optAt t i (k : Int)).1 (List.length (optAt t i (k : Int)).1 : Int) k1 FUEL 0 (mapR (scen t) f) = k1 (mapR (scen t) fun s => minS s (f s) (optAt t i (k : Int))) := by
  obtain ⟨o1, o2, o3, _⟩ := g.at' hi (k := (k : Int)) (by simpa using hk)
  have := g.s2
  generalize optAt t i (k : Int) = o at *
  have e0 : mapR (scen t) f = mapR (scen t) (fun s => if s < 0 then minS s (f s) o else f s) := mapR_congr (fun s _ => by simp)
  have e1 : (mapR (scen t) fun s => minS s (f s) o) = mapR (scen t) (fun s => if s < scen t then minS s (f s) o else f s) := mapR_congr (fun s hs => by rw [if_pos hs])
  rw [e0, e1]
  exact seq_loop (R := R) (S := List Int) (scen t) (fun j => mapR (scen t) (fun s => if s < j then minS s (f s) o else f s)) (fun m j x => l10_1 o.1 (List.length o.1 : Int) k1 m j x) k1 (by omega)
    (by
      intro m j hj
      have ho : (mapR (scen t) (fun s => if s < j then minS s (f s) o else f s))[j]? = some (f j) := by
        rw [mapR_get hj, if_neg (Nat.lt_irrefl j)]
      have hlen2 : (mapR (scen t) (fun s => if s < j then minS s (f s) o else f s)).length = scen t := mapR_len _ _
      simp only [l10_1, s10_1, o2, hlen2, lt1 hj, nn, Bool.and_self, cond_true, idx_nat, (o3 j hj).1, Option.bind_some, asrtT, Int.toNat_natCast, ho, wr1 (j := j) (by omega)]
      congr 1
      rw [mapR_set]
      refine mapR_congr (fun s hs => ?_)
      by_cases e : s = j
      · subst e; rw [if_pos rfl, if_pos (by omega)]; rfl
      · rw [if_neg e]
        by_cases h2 : s < j
        · rw [if_pos h2, if_pos (by omega)]
        · rw [if_neg h2, if_neg (by omega)])
    (by intro m; simp only [l10_1, s10_1, o2, lt0, cond_false])

theorem op10_2 {R : Type} {t : T24} (g : Good t) {i : Nat} (hi : i < t.1.length) (k1 : List Int → Option R) (f : Nat → Int) :
    l10_2 (t.1.getD i []) (List.length (t.1.getD i []) : Int) k1 FUEL 0 (mapR (scen t) f) = k1 (mapR (scen t) fun s => (t.1.getD i []).foldl (minS s) (f s)) := by
  obtain ⟨g1, g2, g3⟩ := g.opt i _ (g.issue hi)
  have e1 : (mapR (scen t) fun s => (t.1.getD i []).foldl (minS s) (f s)) = mapR (scen t) fun s => ((t.1.getD i []).take (t.1.getD i []).length).foldl (minS s) (f s) := by rw [List.take_length]
  rw [e1]
  exact seq_loop (R := R) (S := List Int) (t.1.getD i []).length (fun j => mapR (scen t) fun s => ((t.1.getD i []).take j).foldl (minS s) (f s)) (fun m j x => l10_2 (t.1.getD i []) (List.length (t.1.getD i []) : Int) k1 m j x) k1 (by omega)
    (by
      intro m j hj
      have hx : (t.1.getD i [])[j]? = some (optAt t i (j : Int)) := get_of_lt hj _
      simp only [l10_2, s10_2, lt1 hj, cond_true, idx_nat, hx, Option.bind_some, op10_1 g hi hj, wr1 (j := j) (by omega)]
      congr 1
      refine mapR_congr (fun s _ => ?_)
      rw [List.take_add_one, hx, List.foldl_append]
      rfl)
    (by intro m; simp only [l10_2, s10_2, lt0, cond_false])

theorem op10_3 {R : Type} (n : Nat) (hn : n ≤ 1000) (k1 : List Int → Option R) (f h : Nat → Int) (hf : ∀ s, s < n → 0 ≤ f s ∧ f s ≤ 100000000000000000) (hh : ∀ s, s < n → 0 ≤ h s ∧ h s ≤ 100000000000000000) :
    l10_3 (mapR n h) (List.length (mapR n h) : Int) k1 FUEL 0 (mapR n f) = k1 (mapR n fun s => f s + h s) := by
  have e0 : mapR n f = mapR n (fun s => if s < 0 then f s + h s else f s) := mapR_congr (fun s _ => by simp)
  have e1 : (mapR n fun s => f s + h s) = mapR n (fun s => if s < n then f s + h s else f s) := mapR_congr (fun s hs => by rw [if_pos hs])
  rw [e0, e1]
  exact seq_loop (R := R) (S := List Int) n (fun j => mapR n (fun s => if s < j then f s + h s else f s)) (fun m j x => l10_3 (mapR n h) (List.length (mapR n h) : Int) k1 m j x) k1 (by omega)
    (by
      intro m j hj
      have ho : (mapR n (fun s => if s < j then f s + h s else f s))[j]? = some (f j) := by
        rw [mapR_get hj, if_neg (Nat.lt_irrefl j)]
      have hlen2 : (mapR n (fun s => if s < j then f s + h s else f s)).length = n := mapR_len _ _
      have hlen1 : (mapR n h).length = n := mapR_len _ _
      have w : IntKind.i64.wrap (f j + h j) = f j + h j := by
        have := hf j hj
        have := hh j hj
        exact wrapI (by omega) (by omega)
      simp only [l10_3, s10_3, hlen1, hlen2, lt1 hj, nn, Bool.and_self, cond_true, idx_nat, mapR_get (f := h) hj, Option.bind_some, asrtT, Int.toNat_natCast, ho, w, wr1 (j := j) (by omega)]
      congr 1
      rw [mapR_set]
      refine mapR_congr (fun s hs => ?_)
      by_cases e : s = j
      · subst e; rw [if_pos rfl, if_pos (by omega)]
      · rw [if_neg e]
        by_cases h2 : s < j
        · rw [if_pos h2, if_pos (by omega)]
        · rw [if_neg h2, if_neg (by omega)])
    (by intro m; have hlen1 : (mapR n h).length = n := mapR_len _ _; simp only [l10_3, s10_3, hlen1, lt0, cond_false])

theorem op10_4 {R : Type} {t : T24} (g : Good t) (k1 : List (List Int) → List Int → Option R) :
    l10_4 t.1 (List.length t.1 : Int) k1 FUEL 0 [] (List.replicate (scen t) 0) = k1 (leastL t) (costsL t []) := by
  have := g.s1
  have := g.s2
  have := g.n2
  have e0 : List.replicate (scen t) (0 : Int) = mapR (scen t) (fun s => sumN (partC t [] s) 0) := by
    apply List.ext_getElem?
    intro j
    by_cases hj : j < scen t
    · rw [mapR_get hj, List.getElem?_replicate, if_pos hj]; rfl
    · rw [List.getElem?_eq_none (by simpa using hj), List.getElem?_eq_none (by rw [mapR_len]; omega)]
  rw [e0]
  exact seq_loop (R := R) (S := List (List Int) × List Int) t.1.length (fun j => ((List.range j).map (fun i => mapR (scen t) (lstL (t.1.getD i []))), mapR (scen t) (fun s => sumN (partC t [] s) j))) (fun m j x => l10_4 t.1 (List.length t.1 : Int) k1 m j x.1 x.2) (fun x => k1 x.1 x.2) (by omega)
    (by
      intro m j hj
      obtain ⟨g1, g2, g3⟩ := g.opt j _ (g.issue hj)
      have h0 : (t.1.getD j [])[0]? = some (optAt t j ((0 : Nat) : Int)) := get_of_lt (by omega) _
      have h0' : idx (t.1.getD j []) 0 = some (optAt t j ((0 : Nat) : Int)) := (idx_nat (t.1.getD j []) 0).trans h0
      obtain ⟨q1, q2, q3⟩ := g3 0 _ h0
      have hx : (optAt t j ((0 : Nat) : Int)).1 = mapR (scen t) (fun s => (optAt t j ((0 : Nat) : Int)).1.getD s 0) := by
        apply List.ext_getElem?
        intro s
        by_cases hs : s < scen t
        · rw [mapR_get hs]; exact get_of_lt (by omega) 0
        · rw [List.getElem?_eq_none (by omega), List.getElem?_eq_none (by rw [mapR_len]; omega)]
      have hcl : cloneM (optAt t j ((0 : Nat) : Int)).1 = some (mapR (scen t) (fun s => (optAt t j ((0 : Nat) : Int)).1.getD s 0)) := by
        rw [cloneM_eq (by omega)]; exact congrArg some hx
      have hL : decide (((List.range j).map (fun i => mapR (scen t) (lstL (t.1.getD i [])))).length + List.length (α := List Int) [mapR (scen t) (lstL (t.1.getD j []))] ≤ LIM) = true := by
        refine decide_eq_true ?_
        have : (4294967296 : Nat) = LIM := rfl
        simp only [List.length_map, List.length_range, List.length_singleton]
        omega
      have hm : (mapR (scen t) fun s => (t.1.getD j []).foldl (minS s) ((optAt t j ((0 : Nat) : Int)).1.getD s 0)) = mapR (scen t) (lstL (t.1.getD j [])) := mapR_congr (fun s _ => rfl)
      simp only [l10_4, s10_4, lt1 hj, cond_true, idx_nat, g.issue hj, Option.bind_some, h0', hcl]
      rw [op10_2 g hj]
      simp only [hm, hL, asrtT]
      rw [op10_3 _ (by omega) _ _ _ (fun s hs => by
          have := sumC_bd g (vC_nil t) hs j (by omega)
          omega) (fun s hs => by
          have := lst_bd g hj hs
          omega)]
      simp only [wr1 (j := j) (by omega), List.range_succ, List.map_append, List.map_cons, List.map_nil]
      rfl)
    (by
      intro m
      simp only [l10_4, s10_4, lt0, cond_false])


theorem op12_1 {R : Type} {t : T24} (g : Good t) {i : Nat} (hi : i < t.1.length) {k : Nat} (hk : k < (t.1.getD i []).length) (k1 : List Int → Option R) (f : Nat → Int) :
    l12_1 (optAt t i (k : Int)).1 (List.length (optAt t i (k : Int)).1 : Int) k1 FUEL 0 (mapR (scen t) f) = k1 (mapR (scen t) fun s => minS s (f s) (optAt t i (k : Int))) := by
  obtain ⟨o1, o2, o3, _⟩ := g.at' hi (k := (k : Int)) (by simpa using hk)
  have := g.s2
  generalize optAt t i (k : Int) = o at *
  have e0 : mapR (scen t) f = mapR (scen t) (fun s => if s < 0 then minS s (f s) o else f s) := mapR_congr (fun s _ => by simp)
  have e1 : (mapR (scen t) fun s => minS s (f s) o) = mapR (scen t) (fun s => if s < scen t then minS s (f s) o else f s) := mapR_congr (fun s hs => by rw [if_pos hs])
  rw [e0, e1]
  exact seq_loop (R := R) (S := List Int) (scen t) (fun j => mapR (scen t) (fun s => if s < j then minS s (f s) o else f s)) (fun m j x => l12_1 o.1 (List.length o.1 : Int) k1 m j x) k1 (by omega)
    (by
      intro m j hj
      have ho : (mapR (scen t) (fun s => if s < j then minS s (f s) o else f s))[j]? = some (f j) := by
        rw [mapR_get hj, if_neg (Nat.lt_irrefl j)]
      have hlen2 : (mapR (scen t) (fun s => if s < j then minS s (f s) o else f s)).length = scen t := mapR_len _ _
      simp only [l12_1, s12_1, o2, hlen2, lt1 hj, nn, Bool.and_self, cond_true, idx_nat, (o3 j hj).1, Option.bind_some, asrtT, Int.toNat_natCast, ho, wr1 (j := j) (by omega)]
      congr 1
      rw [mapR_set]
      refine mapR_congr (fun s hs => ?_)
      by_cases e : s = j
      · subst e; rw [if_pos rfl, if_pos (by omega)]; rfl
      · rw [if_neg e]
        by_cases h2 : s < j
        · rw [if_pos h2, if_pos (by omega)]
        · rw [if_neg h2, if_neg (by omega)])
    (by intro m; simp only [l12_1, s12_1, o2, lt0, cond_false])

theorem op12_2 {R : Type} {t : T24} (g : Good t) {i : Nat} (hi : i < t.1.length) (k1 : List Int → Option R) (f : Nat → Int) :
    l12_2 (t.1.getD i []) (List.length (t.1.getD i []) : Int) k1 FUEL 0 (mapR (scen t) f) = k1 (mapR (scen t) fun s => (t.1.getD i []).foldl (minS s) (f s)) := by
  obtain ⟨g1, g2, g3⟩ := g.opt i _ (g.issue hi)
  have e1 : (mapR (scen t) fun s => (t.1.getD i []).foldl (minS s) (f s)) = mapR (scen t) fun s => ((t.1.getD i []).take (t.1.getD i []).length).foldl (minS s) (f s) := by rw [List.take_length]
  rw [e1]
  exact seq_loop (R := R) (S := List Int) (t.1.getD i []).length (fun j => mapR (scen t) fun s => ((t.1.getD i []).take j).foldl (minS s) (f s)) (fun m j x => l12_2 (t.1.getD i []) (List.length (t.1.getD i []) : Int) k1 m j x) k1 (by omega)
    (by
      intro m j hj
      have hx : (t.1.getD i [])[j]? = some (optAt t i (j : Int)) := get_of_lt hj _
      simp only [l12_2, s12_2, lt1 hj, cond_true, idx_nat, hx, Option.bind_some, op12_1 g hi hj, wr1 (j := j) (by omega)]
      congr 1
      refine mapR_congr (fun s _ => ?_)
      rw [List.take_add_one, hx, List.foldl_append]
      rfl)
    (by intro m; simp only [l12_2, s12_2, lt0, cond_false])

theorem op12_3 {R : Type} (n : Nat) (hn : n ≤ 1000) (k1 : List Int → Option R) (f h : Nat → Int) (hf : ∀ s, s < n → 0 ≤ f s ∧ f s ≤ 100000000000000000) (hh : ∀ s, s < n → 0 ≤ h s ∧ h s ≤ 100000000000000000) :
    l12_3 (mapR n h) (List.length (mapR n h) : Int) k1 FUEL 0 (mapR n f) = k1 (mapR n fun s => f s + h s) := by
  have e0 : mapR n f = mapR n (fun s => if s < 0 then f s + h s else f s) := mapR_congr (fun s _ => by simp)
  have e1 : (mapR n fun s => f s + h s) = mapR n (fun s => if s < n then f s + h s else f s) := mapR_congr (fun s hs => by rw [if_pos hs])
  rw [e0, e1]
  exact seq_loop (R := R) (S := List Int) n (fun j => mapR n (fun s => if s < j then f s + h s else f s)) (fun m j x => l12_3 (mapR n h) (List.length (mapR n h) : Int) k1 m j x) k1 (by omega)
    (by
      intro m j hj
      have ho : (mapR n (fun s => if s < j then f s + h s else f s))[j]? = some (f j) := by
        rw [mapR_get hj, if_neg (Nat.lt_irrefl j)]
      have hlen2 : (mapR n (fun s => if s < j then f s + h s else f s)).length = n := mapR_len _ _
      have hlen1 : (mapR n h).length = n := mapR_len _ _
      have w : IntKind.i64.wrap (f j + h j) = f j + h j := by
        have := hf j hj
        have := hh j hj
        exact wrapI (by omega) (by omega)
      simp only [l12_3, s12_3, hlen1, hlen2, lt1 hj, nn, Bool.and_self, cond_true, idx_nat, mapR_get (f := h) hj, Option.bind_some, asrtT, Int.toNat_natCast, ho, w, wr1 (j := j) (by omega)]
      congr 1
      rw [mapR_set]
      refine mapR_congr (fun s hs => ?_)
      by_cases e : s = j
      · subst e; rw [if_pos rfl, if_pos (by omega)]
      · rw [if_neg e]
        by_cases h2 : s < j
        · rw [if_pos h2, if_pos (by omega)]
        · rw [if_neg h2, if_neg (by omega)])
    (by intro m; have hlen1 : (mapR n h).length = n := mapR_len _ _; simp only [l12_3, s12_3, hlen1, lt0, cond_false])

theorem op12_4 {R : Type} {t : T24} (g : Good t) (k1 : List (List Int) → List Int → Option R) :
    l12_4 t.1 (List.length t.1 : Int) k1 FUEL 0 [] (List.replicate (scen t) 0) = k1 (leastL t) (costsL t []) := by
  have := g.s1
  have := g.s2
  have := g.n2
  have e0 : List.replicate (scen t) (0 : Int) = mapR (scen t) (fun s => sumN (partC t [] s) 0) := by
    apply List.ext_getElem?
    intro j
    by_cases hj : j < scen t
    · rw [mapR_get hj, List.getElem?_replicate, if_pos hj]; rfl
    · rw [List.getElem?_eq_none (by simpa using hj), List.getElem?_eq_none (by rw [mapR_len]; omega)]
  rw [e0]
  exact seq_loop (R := R) (S := List (List Int) × List Int) t.1.length (fun j => ((List.range j).map (fun i => mapR (scen t) (lstL (t.1.getD i []))), mapR (scen t) (fun s => sumN (partC t [] s) j))) (fun m j x => l12_4 t.1 (List.length t.1 : Int) k1 m j x.1 x.2) (fun x => k1 x.1 x.2) (by omega)
    (by
      intro m j hj
      obtain ⟨g1, g2, g3⟩ := g.opt j _ (g.issue hj)
      have h0 : (t.1.getD j [])[0]? = some (optAt t j ((0 : Nat) : Int)) := get_of_lt (by omega) _
      have h0' : idx (t.1.getD j []) 0 = some (optAt t j ((0 : Nat) : Int)) := (idx_nat (t.1.getD j []) 0).trans h0
      obtain ⟨q1, q2, q3⟩ := g3 0 _ h0
      have hx : (optAt t j ((0 : Nat) : Int)).1 = mapR (scen t) (fun s => (optAt t j ((0 : Nat) : Int)).1.getD s 0) := by
        apply List.ext_getElem?
        intro s
        by_cases hs : s < scen t
        · rw [mapR_get hs]; exact get_of_lt (by omega) 0
        · rw [List.getElem?_eq_none (by omega), List.getElem?_eq_none (by rw [mapR_len]; omega)]
      have hcl : cloneM (optAt t j ((0 : Nat) : Int)).1 = some (mapR (scen t) (fun s => (optAt t j ((0 : Nat) : Int)).1.getD s 0)) := by
        rw [cloneM_eq (by omega)]; exact congrArg some hx
      have hL : decide (((List.range j).map (fun i => mapR (scen t) (lstL (t.1.getD i [])))).length + List.length (α := List Int) [mapR (scen t) (lstL (t.1.getD j []))] ≤ LIM) = true := by
        refine decide_eq_true ?_
        have : (4294967296 : Nat) = LIM := rfl
        simp only [List.length_map, List.length_range, List.length_singleton]
        omega
      have hm : (mapR (scen t) fun s => (t.1.getD j []).foldl (minS s) ((optAt t j ((0 : Nat) : Int)).1.getD s 0)) = mapR (scen t) (lstL (t.1.getD j [])) := mapR_congr (fun s _ => rfl)
      simp only [l12_4, s12_4, lt1 hj, cond_true, idx_nat, g.issue hj, Option.bind_some, h0', hcl]
      rw [op12_2 g hj]
      simp only [hm, hL, asrtT]
      rw [op12_3 _ (by omega) _ _ _ (fun s hs => by
          have := sumC_bd g (vC_nil t) hs j (by omega)
          omega) (fun s hs => by
          have := lst_bd g hj hs
          omega)]
      simp only [wr1 (j := j) (by omega), List.range_succ, List.map_append, List.map_cons, List.map_nil]
      rfl)
    (by
      intro m
      simp only [l12_4, s12_4, lt0, cond_false])


theorem op18_1 {R : Type} {t : T24} (g : Good t) {i : Nat} (hi : i < t.1.length) {k : Nat} (hk : k < (t.1.getD i []).length) (k1 : List Int → Option R) (f : Nat → Int) :
    l18_1 (optAt t i (k : Int)).1 (List.length (optAt t i (k : Int)).1 : Int) k1 FUEL 0 (mapR (scen t) f) = k1 (mapR (scen t) fun s => minS s (f s) (optAt t i (k : Int))) := by
  obtain ⟨o1, o2, o3, _⟩ := g.at' hi (k := (k : Int)) (by simpa using hk)
  have := g.s2
  generalize optAt t i (k : Int) = o at *
  have e0 : mapR (scen t) f = mapR (scen t) (fun s => if s < 0 then minS s (f s) o else f s) := mapR_congr (fun s _ => by simp)
  have e1 : (mapR (scen t) fun s => minS s (f s) o) = mapR (scen t) (fun s => if s < scen t then minS s (f s) o else f s) := mapR_congr (fun s hs => by rw [if_pos hs])
  rw [e0, e1]
  exact seq_loop (R := R) (S := List Int) (scen t) (fun j => mapR (scen t) (fun s => if s < j then minS s (f s) o else f s)) (fun m j x => l18_1 o.1 (List.length o.1 : Int) k1 m j x) k1 (by omega)
    (by
      intro m j hj
      have ho : (mapR (scen t) (fun s => if s < j then minS s (f s) o else f s))[j]? = some (f j) := by
        rw [mapR_get hj, if_neg (Nat.lt_irrefl j)]
      have hlen2 : (mapR (scen t) (fun s => if s < j then minS s (f s) o else f s)).length = scen t := mapR_len _ _
      simp only [l18_1, s18_1, o2, hlen2, lt1 hj, nn, Bool.and_self, cond_true, idx_nat, (o3 j hj).1, Option.bind_some, asrtT, Int.toNat_natCast, ho, wr1 (j := j) (by omega)]
      congr 1
      rw [mapR_set]
      refine mapR_congr (fun s hs => ?_)
      by_cases e : s = j
      · subst e; rw [if_pos rfl, if_pos (by omega)]; rfl
      · rw [if_neg e]
        by_cases h2 : s < j
        · rw [if_pos h2, if_pos (by omega)]
        · rw [if_neg h2, if_neg (by omega)])
    (by intro m; simp only [l18_1, s18_1, o2, lt0, cond_false])

theorem op18_2 {R : Type} {t : T24} (g : Good t) {i : Nat} (hi : i < t.1.length) (k1 : List Int → Option R) (f : Nat → Int) :
    l18_2 (t.1.getD i []) (List.length (t.1.getD i []) : Int) k1 FUEL 0 (mapR (scen t) f) = k1 (mapR (scen t) fun s => (t.1.getD i []).foldl (minS s) (f s)) := by
  obtain ⟨g1, g2, g3⟩ := g.opt i _ (g.issue hi)
  have e1 : (mapR (scen t) fun s => (t.1.getD i []).foldl (minS s) (f s)) = mapR (scen t) fun s => ((t.1.getD i []).take (t.1.getD i []).length).foldl (minS s) (f s) := by rw [List.take_length]
  rw [e1]
  exact seq_loop (R := R) (S := List Int) (t.1.getD i []).length (fun j => mapR (scen t) fun s => ((t.1.getD i []).take j).foldl (minS s) (f s)) (fun m j x => l18_2 (t.1.getD i []) (List.length (t.1.getD i []) : Int) k1 m j x) k1 (by omega)
    (by
      intro m j hj
      have hx : (t.1.getD i [])[j]? = some (optAt t i (j : Int)) := get_of_lt hj _
      simp only [l18_2, s18_2, lt1 hj, cond_true, idx_nat, hx, Option.bind_some, op18_1 g hi hj, wr1 (j := j) (by omega)]
      congr 1
      refine mapR_congr (fun s _ => ?_)
      rw [List.take_add_one, hx, List.foldl_append]
      rfl)
    (by intro m; simp only [l18_2, s18_2, lt0, cond_false])

theorem op18_3 {R : Type} (n : Nat) (hn : n ≤ 1000) (k1 : List Int → Option R) (f h : Nat → Int) (hf : ∀ s, s < n → 0 ≤ f s ∧ f s ≤ 100000000000000000) (hh : ∀ s, s < n → 0 ≤ h s ∧ h s ≤ 100000000000000000) :
    l18_3 (mapR n h) (List.length (mapR n h) : Int) k1 FUEL 0 (mapR n f) = k1 (mapR n fun s => f s + h s) := by
  have e0 : mapR n f = mapR n (fun s => if s < 0 then f s + h s else f s) := mapR_congr (fun s _ => by simp)
  have e1 : (mapR n fun s => f s + h s) = mapR n (fun s => if s < n then f s + h s else f s) := mapR_congr (fun s hs => by rw [if_pos hs])
  rw [e0, e1]
  exact seq_loop (R := R) (S := List Int) n (fun j => mapR n (fun s => if s < j then f s + h s else f s)) (fun m j x => l18_3 (mapR n h) (List.length (mapR n h) : Int) k1 m j x) k1 (by omega)
    (by
      intro m j hj
      have ho : (mapR n (fun s => if s < j then f s + h s else f s))[j]? = some (f j) := by
        rw [mapR_get hj, if_neg (Nat.lt_irrefl j)]
      have hlen2 : (mapR n (fun s => if s < j then f s + h s else f s)).length = n := mapR_len _ _
      have hlen1 : (mapR n h).length = n := mapR_len _ _
      have w : IntKind.i64.wrap (f j + h j) = f j + h j := by
        have := hf j hj
        have := hh j hj
        exact wrapI (by omega) (by omega)
      simp only [l18_3, s18_3, hlen1, hlen2, lt1 hj, nn, Bool.and_self, cond_true, idx_nat, mapR_get (f := h) hj, Option.bind_some, asrtT, Int.toNat_natCast, ho, w, wr1 (j := j) (by omega)]
      congr 1
      rw [mapR_set]
      refine mapR_congr (fun s hs => ?_)
      by_cases e : s = j
      · subst e; rw [if_pos rfl, if_pos (by omega)]
      · rw [if_neg e]
        by_cases h2 : s < j
        · rw [if_pos h2, if_pos (by omega)]
        · rw [if_neg h2, if_neg (by omega)])
    (by intro m; have hlen1 : (mapR n h).length = n := mapR_len _ _; simp only [l18_3, s18_3, hlen1, lt0, cond_false])

theorem op18_4 {R : Type} {t : T24} (g : Good t) (k1 : List (List Int) → List Int → Option R) :
    l18_4 t.1 (List.length t.1 : Int) k1 FUEL 0 [] (List.replicate (scen t) 0) = k1 (leastL t) (costsL t []) := by
  have := g.s1
  have := g.s2
  have := g.n2
  have e0 : List.replicate (scen t) (0 : Int) = mapR (scen t) (fun s => sumN (partC t [] s) 0) := by
    apply List.ext_getElem?
    intro j
    by_cases hj : j < scen t
    · rw [mapR_get hj, List.getElem?_replicate, if_pos hj]; rfl
    · rw [List.getElem?_eq_none (by simpa using hj), List.getElem?_eq_none (by rw [mapR_len]; omega)]
  rw [e0]
  exact seq_loop (R := R) (S := List (List Int) × List Int) t.1.length (fun j => ((List.range j).map (fun i => mapR (scen t) (lstL (t.1.getD i []))), mapR (scen t) (fun s => sumN (partC t [] s) j))) (fun m j x => l18_4 t.1 (List.length t.1 : Int) k1 m j x.1 x.2) (fun x => k1 x.1 x.2) (by omega)
    (by
      intro m j hj
      obtain ⟨g1, g2, g3⟩ := g.opt j _ (g.issue hj)
      have h0 : (t.1.getD j [])[0]? = some (optAt t j ((0 : Nat) : Int)) := get_of_lt (by omega) _
      have h0' : idx (t.1.getD j []) 0 = some (optAt t j ((0 : Nat) : Int)) := (idx_nat (t.1.getD j []) 0).trans h0
      obtain ⟨q1, q2, q3⟩ := g3 0 _ h0
      have hx : (optAt t j ((0 : Nat) : Int)).1 = mapR (scen t) (fun s => (optAt t j ((0 : Nat) : Int)).1.getD s 0) := by
        apply List.ext_getElem?
        intro s
        by_cases hs : s < scen t
        · rw [mapR_get hs]; exact get_of_lt (by omega) 0
        · rw [List.getElem?_eq_none (by omega), List.getElem?_eq_none (by rw [mapR_len]; omega)]
      have hcl : cloneM (optAt t j ((0 : Nat) : Int)).1 = some (mapR (scen t) (fun s => (optAt t j ((0 : Nat) : Int)).1.getD s 0)) := by
        rw [cloneM_eq (by omega)]; exact congrArg some hx
      have hL : decide (((List.range j).map (fun i => mapR (scen t) (lstL (t.1.getD i [])))).length + List.length (α := List Int) [mapR (scen t) (lstL (t.1.getD j []))] ≤ LIM) = true := by
        refine decide_eq_true ?_
        have : (4294967296 : Nat) = LIM := rfl
        simp only [List.length_map, List.length_range, List.length_singleton]
        omega
      have hm : (mapR (scen t) fun s => (t.1.getD j []).foldl (minS s) ((optAt t j ((0 : Nat) : Int)).1.getD s 0)) = mapR (scen t) (lstL (t.1.getD j [])) := mapR_congr (fun s _ => rfl)
      simp only [l18_4, s18_4, lt1 hj, cond_true, idx_nat, g.issue hj, Option.bind_some, h0', hcl]
      rw [op18_2 g hj]
      simp only [hm, hL, asrtT]
      rw [op18_3 _ (by omega) _ _ _ (fun s hs => by
          have := sumC_bd g (vC_nil t) hs j (by omega)
          omega) (fun s hs => by
          have := lst_bd g hj hs
          omega)]
      simp only [wr1 (j := j) (by omega), List.range_succ, List.map_append, List.map_cons, List.map_nil]
      rfl)
    (by
      intro m
      simp only [l18_4, s18_4, lt0, cond_false])

/-! ### Plan: what a whole choice costs. -/
def pC (t : T24) (c : List Int) (i : Nat) : Bool := inB 0 (((t.1.getD i []).length : Int) - 1) (c.getD i 0)
def chC (t : T24) (c : List Int) : Bool := (List.range c.length).all (pC t c)
def feasB (t : T24) (c : List Int) : Bool := decide (c.length = t.1.length) && (chC t c && decide (overC t c = -1))
def costC (t : T24) (c : List Int) : Int × (Bool × Unit) := bif rightC t && feasB t c then (floorC t c, true, ()) else (0, false, ())

theorem pC_iff {t : T24} {c : List Int} {i : Nat} (h : i < c.length) : pC t c i = true ↔ ∃ k : Nat, c[i]? = some (k : Int) ∧ k < (t.1.getD i []).length := by
  have hk : c[i]? = some (c.getD i 0) := get_of_lt h 0
  simp only [pC, inB, Bool.and_eq_true, decide_eq_true_eq]
  constructor
  · intro ⟨h1, h2⟩
    exact ⟨(c.getD i 0).toNat, by rw [hk]; congr 1; omega, by omega⟩
  · intro ⟨k, h1, h2⟩
    rw [hk] at h1
    have := Option.some.inj h1
    omega

theorem chC_all {t : T24} {c : List Int} : chC t c = true ↔ ∀ i, i < c.length → pC t c i = true := by
  simp only [chC, List.all_eq_true, List.mem_range]

theorem chC_vC {t : T24} {c : List Int} (hc : c.length ≤ t.1.length) : chC t c = true ↔ vC t c := by
  rw [chC_all]
  constructor
  · intro h
    refine ⟨hc, fun i k hk => ?_⟩
    have hi := (List.getElem?_eq_some_iff.1 hk).1
    obtain ⟨n, h1, h2⟩ := (pC_iff hi).1 (h i hi)
    rw [hk] at h1
    have := Option.some.inj h1
    exact ⟨by omega, by omega⟩
  · intro h i hi
    obtain ⟨k0, k1⟩ := h.2 i _ (get_of_lt hi 0)
    exact (pC_iff hi).2 ⟨(c.getD i 0).toNat, by rw [get_of_lt hi 0]; congr 1; omega, k1⟩

theorem vC_take {t : T24} {c : List Int} (hc : c.length ≤ t.1.length) {j : Nat} (h : ∀ i, i < j → pC t c i = true) (hj : j ≤ c.length) : vC t (c.take j) := by
  refine ⟨by rw [List.length_take]; omega, fun i k hk => ?_⟩
  have hi : i < j := by have := (List.getElem?_eq_some_iff.1 hk).1; rw [List.length_take] at this; omega
  rw [List.getElem?_take_of_lt hi] at hk
  obtain ⟨n, h1, h2⟩ := (pC_iff (by omega)).1 (h i hi)
  rw [hk] at h1
  have := Option.some.inj h1
  exact ⟨by omega, by omega⟩

theorem due_nil (t : T24) : List.replicate t.2.1.length (0 : Int) = dueL t [] := by
  unfold dueL
  apply List.ext_getElem?
  intro j
  by_cases hj : j < t.2.1.length
  · rw [mapR_get hj, List.getElem?_replicate, if_pos hj]; rfl
  · rw [List.getElem?_eq_none (by simpa using hj), List.getElem?_eq_none (by rw [mapR_len]; omega)]

theorem m21_eq {t : T24} (g : Good t) (c : List Int) : m21 t c = some (decide (c.length ≤ t.1.length) && chC t c) := by
  unfold m21
  have := g.n2
  by_cases h : c.length ≤ t.1.length
  · rw [decide_eq_false (p := (c.length : Int) > (t.1.length : Int)) (by omega), cond_false, decide_eq_true h, Bool.true_and]
    refine (chk_loop (R := Bool) (S := Unit) c.length (fun _ => ()) (pC t c) (fun m j _ => l21_1 c t (some true) (some false) m j) (some true) (some false) (by omega) ?_ ?_).trans ?_
    · intro m j hj _
      obtain ⟨g1, g2, g3⟩ := g.opt j _ (g.issue (by omega))
      simp only [l21_1, s21_1, lt1 hj, cond_true, idx_nat, get_of_lt hj 0, g.issue (i := j) (by omega), Option.bind_some, m42_eq, wr1 (j := j) (by omega), wrapI (x := (((t.1.getD j []).length : Nat) : Int) - 1) (by omega) (by omega)]
      show (bif (!pC t c j) then some false else l21_1 c t (some true) (some false) m ((j : Int) + 1)) = bif pC t c j then l21_1 c t (some true) (some false) m ((j : Int) + 1) else some false
      cases pC t c j <;> rfl
    · intro _ m; simp only [l21_1, s21_1, lt0, cond_false]
    · by_cases hh : ∀ i, i < c.length → pC t c i = true
      · rw [if_pos hh, chC_all.2 hh]
      · rw [if_neg hh]
        cases h2 : chC t c with
        | true => exact absurd (chC_all.1 h2) hh
        | false => rfl
  · rw [decide_eq_true (p := (c.length : Int) > (t.1.length : Int)) (by omega), cond_true, decide_eq_false h, Bool.false_and]

theorem m13_eq (t : T24) (c : List Int) : m13 t c = some (costC t c) := by
  unfold m13 costC feasB
  rw [m17_eq, Option.bind_some]
  cases hr : rightC t with
  | false => rfl
  | true =>
  have g := good_of hr
  by_cases hN : c.length = t.1.length
  · have e1 : ((List.length c : Int) != (List.length t.1 : Int)) = false := by simp [hN]
    rw [e1, decide_eq_true hN, m21_eq g, decide_eq_true (show c.length ≤ t.1.length by omega)]
    simp only [Bool.not_true, Bool.or_self, beq_self_eq_true, cond_true, Bool.true_and, Option.bind_some, Bool.false_or]
    cases hc : chC t c with
    | false => rfl
    | true =>
    have hv := (chC_vC (by omega)).1 hc
    rw [m35_eq g hv, m22_eq g hv]
    simp only [Bool.not_true, beq_self_eq_true, cond_true, Option.bind_some, Bool.true_and, Bool.false_or]
    by_cases ho : overC t c = -1
    · have e2 : (overC t c != -1) = false := by simp [ho]
      rw [e2, decide_eq_true ho]; rfl
    · have e2 : (overC t c != -1) = true := by simp [ho]
      rw [e2, decide_eq_false ho]; rfl
  · have e1 : ((List.length c : Int) != (List.length t.1 : Int)) = true := by simp; omega
    rw [e1, decide_eq_false hN]
    rfl

theorem step12 {R : Type} {t : T24} (g : Good t) {c : List Int} (hv : vC t c) (hc : c.length < t.1.length) {j : Nat} (hj : j < (t.1.getD c.length []).length) (k1 : List Int → Option R) :
    l12_5 (c.length : Int) 1 (optAt t c.length (j : Int)).1 (List.length (optAt t c.length (j : Int)).1 : Int) (leastL t) k1 FUEL 0 (costsL t c) = k1 (costsL t (c ++ [(j : Int)])) :=
  step_up g hv hc hj (fun m i o => l12_5 (c.length : Int) 1 (optAt t c.length (j : Int)).1 (List.length (optAt t c.length (j : Int)).1 : Int) (leastL t) k1 m i o) k1 (fun m i o => rfl)

theorem m12_eq (t : T24) (c : List Int) : m12 t c = some (costC t c) := by
  unfold m12 costC feasB
  rw [m16_eq, Option.bind_some]
  cases hr : rightC t with
  | false => rfl
  | true =>
  have g := good_of hr
  have := g.s1
  have := g.s2
  have := g.y
  have := g.n2
  by_cases hN : c.length = t.1.length
  · have e1 : ((List.length c : Int) != (List.length t.1 : Int)) = false := by simp [hN]
    have hl : (4294967296 : Nat) = LIM := rfl
    have a1 : (decide (0 ≤ (scen t : Int)) && decide ((scen t : Int) ≤ (scen t : Int)) && decide ((scen t : Int) ≤ (LIM : Int))) = true := by simp; omega
    have a2 : (decide (0 ≤ (List.length t.2.1 : Int)) && decide ((List.length t.2.1 : Int) ≤ (List.length t.2.1 : Int)) && decide ((List.length t.2.1 : Int) ≤ (LIM : Int))) = true := by simp; omega
    rw [e1, decide_eq_true hN, m36_eq]
    simp only [Bool.not_true, Bool.or_self, cond_false, Option.bind_some, a1, a2, asrtT, Int.toNat_natCast, Bool.true_and]
    rw [op12_4 g, due_nil]
    refine (chk_loop (R := Int × (Bool × Unit)) (S := List Int × List Int) c.length (fun j => (costsL t (c.take j), dueL t (c.take j))) (pC t c)
      (fun m j x => l12_6 c (List.length c : Int) t t (leastL t) (fun y31 y32 =>
                (m27 (t, leastL t, y31, y32, ())).bind fun r33 =>
                bif (decide (r33 ≥ 0)) then
                  some (0, false, ())
                else
                  (m28 (t, leastL t, y31, y32, ())).bind fun r34 =>
                  some (r34, true, ())) (
                some (0, false, ())) m j x.1 x.2) (some (bif decide (overC t c = -1) then (floorC t c, true, ()) else (0, false, ()))) (some (0, false, ())) (by omega) ?_ ?_).trans ?_
    · intro m j hj hp
      have hv := vC_take (t := t) (c := c) (by omega) hp (by omega)
      have hji : j < t.1.length := by omega
      obtain ⟨g1, g2, g3⟩ := g.opt j _ (g.issue hji)
      have hx := get_of_lt hj 0
      have hpj : (m34 0 (((t.1.getD j []).length : Int) - 1) [c.getD j 0]) = some (pC t c j) := by
        rw [m34_eq _ _ _ (by simp)]
        simp only [List.all_cons, List.all_nil, Bool.and_true]; rfl
      simp only [l12_6, s12_6, lt1 hj, cond_true, idx_nat, hx, g.issue hji, Option.bind_some, hpj, wrapI (x := (((t.1.getD j []).length : Nat) : Int) - 1) (by omega) (by omega)]
      cases hq : pC t c j with
      | false => rfl
      | true =>
        obtain ⟨k, h1, h2⟩ := (pC_iff hj).1 hq
        have hck : c.getD j 0 = (k : Int) := by rw [hx] at h1; exact Option.some.inj h1
        rw [hck]
        have ho : (t.1.getD j [])[k]? = some (optAt t j (k : Int)) := get_of_lt h2 _
        have ht : c.take (j + 1) = c.take j ++ [(k : Int)] := by rw [List.take_add_one, h1]; rfl
        have hlen : (c.take j).length = j := by rw [List.length_take]; omega
        simp only [Bool.not_true, cond_false, cond_true, idx_nat, ho, Option.bind_some, wr1 (j := j) (by omega), ht]
        have hst := fun (k1 : List Int → Option (Int × (Bool × Unit))) => step12 g hv (by omega) (j := k) (by rw [hlen]; exact h2) k1
        rw [hlen] at hst
        rw [hst]
        have hd0 : decide ((optAt t (c.take j).length (k : Int)).2.1 ≥ 0) = decide ((optAt t j (k : Int)).2.1 ≥ 0) := by rw [hlen]
        cases hd : decide ((optAt t j (k : Int)).2.1 ≥ 0) with
        | true =>
          have hu := due_up g hv (by omega) (j := k) (by rw [hlen]; exact h2) (by rw [hd0, hd])
          rw [hlen] at hu
          obtain ⟨u1, u2, u3⟩ := hu
          obtain ⟨ua, ub⟩ := Bool.and_eq_true_iff.1 u1
          simp only [cond_true, ua, ub, Bool.and_self, asrtT, u2, Option.bind_some, u3]
        | false =>
          have hu := due_same (t := t) (c := c.take j) (j := k) (by rw [hd0, hd])
          simp only [cond_false, hu]
    · intro hp m
      have hv := (chC_vC (by omega)).1 (chC_all.2 hp)
      simp only [l12_6, s12_6, lt0, cond_false, List.take_length]
      rw [m27_eq g, m28_eq g hv]
      simp only [Option.bind_some]
      rcases overG_bd (brk t c) t.2.1.length 0 with h1 | ⟨h1, _, _⟩
      · have h1' : overC t c = -1 := h1
        rw [h1']; rfl
      · have h1' : (0 : Int) ≤ overC t c := h1
        rw [decide_eq_true (p := overC t c ≥ 0) h1', decide_eq_false (p := overC t c = -1) (by omega)]; rfl
    · by_cases hh : ∀ i, i < c.length → pC t c i = true
      · rw [if_pos hh, chC_all.2 hh]; simp only [Bool.true_and]
      · rw [if_neg hh]
        cases h2 : chC t c with
        | true => exact absurd (chC_all.1 h2) hh
        | false => rfl
  · have e1 : ((List.length c : Int) != (List.length t.1 : Int)) = true := by simp; omega
    rw [e1, decide_eq_false hN]
    rfl

end Go.Proofs.Ytemammdmjpdmpaa
