/- Lemmas over models (carried over from another seat). -/
import Derived.Test.YtadinocaadlgmaaM2
namespace Go.Proofs.Ytadinocaadlgmaa
open Go Go.Eng
set_option linter.unusedVariables false
set_option linter.unusedSimpArgs false

/-- A loop that passes a list's places with a state. -/
theorem seq_loop {R S : Type} (n : Nat) (F : Nat → S) (f : Nat → Int → S → Option R) (k : S → Option R) (hn : n ≤ 1000000)
    (hs : ∀ m j, j < n → f (m + 1) (j : Int) (F j) = f m ((j : Int) + 1) (F (j + 1))) (he : ∀ m, f (m + 1) (n : Int) (F n) = k (F n)) :
    f FUEL 0 (F 0) = k (F n) := by
  have key : ∀ (i m j : Nat), j + i = n → i < m → f m (j : Int) (F j) = k (F n) := by
    intro i
    induction i with
    | zero =>
      intro m j hj hm
      obtain ⟨m, rfl⟩ : ∃ a, m = a + 1 := ⟨m - 1, by omega⟩
      have : j = n := by omega
      subst this
      exact he m
    | succ i ih =>
      intro m j hj hm
      obtain ⟨m, rfl⟩ : ∃ a, m = a + 1 := ⟨m - 1, by omega⟩
      rw [hs m j (by omega)]
      exact ih m (j + 1) (by omega) (by omega)
  exact key n FUEL 0 (by omega) (fuel_lt (by omega))

/-- A loop that checks something of each place, with a state. -/
theorem chk_loop {R S : Type} (n : Nat) (F : Nat → S) (p : Nat → Bool) (f : Nat → Int → S → Option R) (k1 k2 : Option R) (hn : n ≤ 1000000)
    (hs : ∀ m j, j < n → (∀ i, i < j → p i = true) → f (m + 1) (j : Int) (F j) = bif p j then f m ((j : Int) + 1) (F (j + 1)) else k2) (he : (∀ i, i < n → p i = true) → ∀ m, f (m + 1) (n : Int) (F n) = k1) :
    f FUEL 0 (F 0) = if ∀ i, i < n → p i = true then k1 else k2 := by
  have key : ∀ (i m j : Nat), j + i = n → i < m → (∀ i, i < j → p i = true) → f m (j : Int) (F j) = if ∀ i, i < n → p i = true then k1 else k2 := by
    intro i
    induction i with
    | zero =>
      intro m j hj hm hb
      obtain ⟨m, rfl⟩ : ∃ a, m = a + 1 := ⟨m - 1, by omega⟩
      have : j = n := by omega
      subst this
      rw [he hb m, if_pos hb]
    | succ i ih =>
      intro m j hj hm hb
      obtain ⟨m, rfl⟩ : ∃ a, m = a + 1 := ⟨m - 1, by omega⟩
      rw [hs m j (by omega) hb]
      cases hp : p j with
      | true =>
        refine ih m (j + 1) (by omega) (by omega) (fun i hi => ?_)
        by_cases e : i = j
        · subst e; exact hp
        · exact hb i (by omega)
      | false =>
        rw [if_neg]
        · rfl
        · intro h
          rw [h j (by omega)] at hp; cases hp
  exact key n FUEL 0 (by omega) (fuel_lt (by omega)) (fun i hi => absurd hi (Nat.not_lt_zero i))

theorem lt1 {a b : Nat} (h : a < b) : decide ((a : Int) < (b : Int)) = true := decide_eq_true (by omega)

theorem lt0 (a : Nat) : decide ((a : Int) < (a : Int)) = false := decide_eq_false (by omega)

theorem rng {a b : Nat} (h : a < b) : (decide (0 ≤ (a : Int)) && decide ((a : Int) < (b : Int))) = true := by simp; omega

theorem nn (j : Nat) : decide (0 ≤ (j : Int)) = true := decide_eq_true (by omega)

theorem wr1 {j : Nat} (h : j < 9000000000000000000) : IntKind.i64.wrap ((j : Int) + 1) = (j : Int) + 1 := wrapI (by omega) (by omega)

def atB {α : Type} (q : α → Bool) (l : List α) (i : Nat) : Bool := ((l[i]?).map q).getD true

theorem atB_lt {α : Type} {q : α → Bool} {l : List α} {i : Nat} {x : α} (h : l[i]? = some x) : atB q l i = q x := by simp [atB, h]

theorem all_at {α : Type} (q : α → Bool) (l : List α) : (∀ i, i < l.length → atB q l i = true) ↔ l.all q = true := by
  rw [List.all_eq_true]
  constructor
  · intro h x hx
    obtain ⟨i, hi⟩ := List.getElem?_of_mem hx
    rw [← atB_lt (q := q) hi]
    exact h i (List.getElem?_eq_some_iff.1 hi).1
  · intro h i hi
    rw [atB_lt (List.getElem?_eq_getElem hi)]
    exact h _ (List.getElem_mem hi)

/-- A loop that checks every element of a list. -/
theorem all_loop {α R : Type} (q : α → Bool) (l : List α) (f : Nat → Int → Option R) (k1 k2 : Option R) (hn : l.length ≤ 1000000)
    (hs : ∀ m (j : Nat) (x : α), l[j]? = some x → j < l.length → f (m + 1) (j : Int) = bif q x then f m ((j : Int) + 1) else k2) (he : ∀ m, f (m + 1) (l.length : Int) = k1) :
    f FUEL 0 = bif l.all q then k1 else k2 := by
  have := chk_loop (R := R) (S := Unit) l.length (fun _ => ()) (atB q l) (fun m j _ => f m j) k1 k2 hn
    (fun m j hj _ => by
      have hx := List.getElem?_eq_getElem hj
      rw [hs m j _ hx hj, atB_lt hx])
    (fun _ m => he m)
  refine this.trans ?_
  cases h : l.all q with
  | true => rw [if_pos ((all_at q l).2 h)]; rfl
  | false => rw [if_neg (fun h2 => by rw [(all_at q l).1 h2] at h; cases h)]; rfl

def inB (lo hi n : Int) : Bool := decide (lo ≤ n) && decide (n ≤ hi)

theorem m30_eq (lo hi : Int) (l : List Int) (h : l.length ≤ 1000000) : m30 lo hi l = some (l.all (inB lo hi)) := by
  unfold m30
  rw [all_loop (inB lo hi) l (fun m j => l30_1 l (List.length l : Int) lo hi (some true) (fun y2 => some (!(decide (y2 ≥ 0)))) m j) (some true) (some false) h
    (by
      intro m j x hx hj
      simp only [l30_1, s30_1, lt1 hj, cond_true, idx_nat, hx, Option.bind_some, wr1 (j := j) (by omega)]
      have h0 : decide ((j : Int) ≥ 0) = true := decide_eq_true (by omega)
      have e : (decide (x < lo) || decide (x > hi)) = !inB lo hi x := by
        unfold inB
        rw [Bool.eq_iff_iff]; simp <;> omega
      rw [e, h0]
      cases inB lo hi x <;> rfl)
    (by intro m; simp only [l30_1, s30_1, lt0, cond_false])]
  cases l.all (inB lo hi) <;> rfl

theorem m46_eq (n lo hi : Int) : m46 n lo hi = some (inB lo hi n) := by
  unfold m46 inB
  rfl

def scen (t : T24) : Nat := match t.1 with
  | (o :: _) :: _ => o.1.length
  | _ => 0

def okO (S Y : Int) (o : T37) : Bool := decide ((o.1.length : Int) = S) && (o.1.all (inB 0 1000000000000000) && (inB (-1) (Y - 1) o.2.1 && inB 0 1000000000000000 o.2.2.1))

def okI (S Y : Int) (l : List T37) : Bool := inB 1 6 (l.length : Int) && l.all (okO S Y)

def rightC (t : T24) : Bool := inB 1 40 (t.1.length : Int) && (inB 1 10 (scen t : Int) && (decide ((t.2.1.length : Int) ≤ 60) && (t.2.1.all (inB 0 1000000000000000) && t.1.all (okI (scen t : Int) (t.2.1.length : Int)))))

theorem m29_eq (t : T24) : m29 t = some (scen t : Int) := by
  unfold m29 scen
  match t with
  | ([], c) => rfl
  | ([] :: l, c) =>
    have e1 : ((List.length (([] : List T37) :: l) : Int) == 0) = false := by simp only [List.length_cons, beq_eq_false_iff_ne]; omega
    have i0 : idx (([] : List T37) :: l) 0 = some [] := rfl
    simp only [e1, beq_self_eq_true, idxG, cond_true, i0, Option.bind_some, Bool.false_or]
    rfl
  | ((o :: r) :: l, c) =>
    have e1 : ((List.length ((o :: r) :: l) : Int) == 0) = false := by simp only [List.length_cons, beq_eq_false_iff_ne]; omega
    have e2 : ((List.length (o :: r) : Int) == 0) = false := by simp only [List.length_cons, beq_eq_false_iff_ne]; omega
    have i0 : idx ((o :: r) :: l) 0 = some (o :: r) := rfl
    have i1 : idx (o :: r) 0 = some o := rfl
    simp only [e1, e2, beq_self_eq_true, idxG, cond_true, i0, i1, Option.bind_some, Bool.or_self, cond_false]

theorem m45_eq (t : T24) : m45 t = some (scen t : Int) := m29_eq t

theorem optA {R : Type} (S Y : Int) (o : T37) (hS : S ≤ 10) (hY0 : 0 ≤ Y) (hY : Y ≤ 60) (kn k2 : Option R) :
    ((bif (((List.length o.1 : Int) != S) == false) then (m30 0 1000000000000000 o.1) else some false).bind fun r10 =>
    bif ((((List.length o.1 : Int) != S) || (!r10)) == false) then
      (bif ((((List.length o.1 : Int) != S) || (!r10)) == false) then (m30 (-1) (IntKind.i64.wrap (Y - 1)) [o.2.1]) else some false).bind fun r11 =>
      bif (((((List.length o.1 : Int) != S) || (!r10)) || (!r11)) == false) then
        (bif (((((List.length o.1 : Int) != S) || (!r10)) || (!r11)) == false) then (m30 0 1000000000000000 [o.2.2.1]) else some false).bind fun r12 =>
        bif (((((List.length o.1 : Int) != S) || (!r10)) || (!r11)) || (!r12)) then
          k2
        else
          kn
      else
        (bif (((((List.length o.1 : Int) != S) || (!r10)) || (!r11)) == false) then (m30 0 1000000000000000 []) else some false).bind fun r13 =>
        bif (((((List.length o.1 : Int) != S) || (!r10)) || (!r11)) || (!r13)) then
          k2
        else
          kn
    else
      (bif ((((List.length o.1 : Int) != S) || (!r10)) == false) then (m30 (-1) (IntKind.i64.wrap (Y - 1)) []) else some false).bind fun r14 =>
      bif (((((List.length o.1 : Int) != S) || (!r10)) || (!r14)) == false) then
        (bif (((((List.length o.1 : Int) != S) || (!r10)) || (!r14)) == false) then (m30 0 1000000000000000 [o.2.2.1]) else some false).bind fun r15 =>
        bif (((((List.length o.1 : Int) != S) || (!r10)) || (!r14)) || (!r15)) then
          k2
        else
          kn
      else
        (bif (((((List.length o.1 : Int) != S) || (!r10)) || (!r14)) == false) then (m30 0 1000000000000000 []) else some false).bind fun r16 =>
        bif (((((List.length o.1 : Int) != S) || (!r10)) || (!r14)) || (!r16)) then
          k2
        else
          kn) = bif okO S Y o then kn else k2 := by
  have hw : IntKind.i64.wrap (Y - 1) = Y - 1 := wrapI (by omega) (by omega)
  rw [hw]
  unfold okO
  by_cases h1 : (o.1.length : Int) = S
  · have e1 : ((List.length o.1 : Int) != S) = false := by simp [h1]
    rw [e1, decide_eq_true h1, m30_eq 0 _ o.1 (by omega), m30_eq (-1) _ [o.2.1] (by simp), m30_eq 0 _ [o.2.2.1] (by simp)]
    simp only [List.all_cons, List.all_nil, Bool.and_true]
    cases o.1.all (inB 0 1000000000000000) <;> cases inB (-1) (Y - 1) o.2.1 <;> cases inB 0 1000000000000000 o.2.2.1 <;> rfl
  · have e1 : ((List.length o.1 : Int) != S) = true := by simp [h1]
    rw [e1, decide_eq_false h1]
    rfl

theorem m13_eq (t : T24) : m13 t = some (rightC t) := by
  unfold m13 rightC
  rw [m29_eq, Option.bind_some, m30_eq 1 40 _ (by simp), Option.bind_some]
  simp only [List.all_cons, List.all_nil, Bool.and_true]
  cases h1 : inB 1 40 (t.1.length : Int) with
  | false => rfl
  | true =>
  rw [m30_eq 1 10 _ (by simp)]
  simp only [Bool.not_true, beq_self_eq_true, cond_true, Option.bind_some, List.all_cons, List.all_nil, Bool.and_true, Bool.false_or, Bool.true_and]
  cases h2 : inB 1 10 (scen t : Int) with
  | false => rfl
  | true =>
  simp only [Bool.not_true, Bool.false_or, Bool.true_and]
  by_cases h3 : (t.2.1.length : Int) ≤ 60
  · rw [decide_eq_true h3, decide_eq_false (p := (List.length t.2.1 : Int) > 60) (by omega), m30_eq 0 _ _ (by omega)]
    simp only [beq_self_eq_true, cond_true, Option.bind_some, Bool.false_or, Bool.true_and]
    cases h4 : t.2.1.all (inB 0 1000000000000000) with
    | false => rfl
    | true =>
    simp only [Bool.not_true, cond_false, Bool.true_and]
    have hn : t.1.length ≤ 40 := by simp [inB] at h1; omega
    have hS : (scen t : Int) ≤ 10 := by simp [inB] at h2; omega
    rw [all_loop (okI (scen t : Int) (t.2.1.length : Int)) t.1 (fun m j => l13_2 t.1 (List.length t.1 : Int) t (scen t : Int) (some true) (fun y18 => some (!(decide (y18 ≥ 0)))) m j) (some true) (some false) (by omega)
      (by
        intro m j x hx hj
        have h0 : decide ((j : Int) ≥ 0) = true := decide_eq_true (by omega)
        simp only [l13_2, s13_2, lt1 hj, cond_true, idx_nat, hx, Option.bind_some, wr1 (j := j) (by omega), m30_eq 1 6 _ (show ([(List.length x : Int)] : List Int).length ≤ 1000000 by simp), List.all_cons, List.all_nil, Bool.and_true, h0, okI]
        cases h5 : inB 1 6 (List.length x : Int) with
        | false => rfl
        | true =>
          have hxl : x.length ≤ 6 := by simp [inB] at h5; omega
          simp only [Bool.not_true, beq_self_eq_true, cond_true, cond_false, Bool.false_or, Bool.true_and]
          exact all_loop (okO (scen t : Int) (t.2.1.length : Int)) x (fun n i => l13_1 x (List.length x : Int) t (scen t : Int) _ _ n i) _ _ (by omega)
            (by
              intro n i o ho hi
              have h0 : decide ((i : Int) ≥ 0) = true := decide_eq_true (by omega)
              simp only [l13_1, s13_1, lt1 hi, cond_true, idx_nat, ho, Option.bind_some, wr1 (j := i) (by omega)]
              rw [optA (scen t : Int) (List.length t.2.1 : Int) o hS (by omega) h3]
              simp only [h0, cond_true])
            (by intro n; simp only [l13_1, s13_1, lt0, cond_false]))
      (by intro m; simp only [l13_2, s13_2, lt0, cond_false])]
    cases t.1.all (okI (scen t : Int) (t.2.1.length : Int)) <;> rfl
  · rw [decide_eq_false h3, decide_eq_true (p := (List.length t.2.1 : Int) > 60) (by omega)]
    rfl

theorem m47_eq (o : T37) (S Y : Int) (hS : S ≤ 10) (hY0 : 0 ≤ Y) (hY : Y ≤ 60) : m47 o S Y = some (okO S Y o) := by
  unfold m47 okO
  rw [wrapI (x := Y - 1) (by omega) (by omega)]
  by_cases h1 : (o.1.length : Int) = S
  · have e1 : ((List.length o.1 : Int) != S) = false := by simp [h1]
    rw [e1, decide_eq_true h1]
    simp only [beq_self_eq_true, cond_true, m46_eq, Option.bind_some, Bool.false_or, Bool.true_and, bind_guard]
    cases h2 : inB (-1) (Y - 1) o.2.1 with
    | false =>
      simp only [Bool.false_and, Bool.and_false]
      rfl
    | true =>
    cases h3 : inB 0 1000000000000000 o.2.2.1 with
    | false =>
      simp only [Bool.and_false]
      rfl
    | true =>
    simp only [Bool.not_true, beq_self_eq_true, cond_true, Bool.or_self, cond_false, Bool.and_self, Bool.and_true]
    subst h1
    rw [all_loop (inB 0 1000000000000000) o.1 (fun m j => l47_1 (List.length o.1 : Int) o (some true) (some false) m j) (some true) (some false) (by omega)
      (by
        intro m j x hx hj
        simp only [l47_1, s47_1, lt1 hj, cond_true, idx_nat, hx, Option.bind_some, m46_eq, wr1 (j := j) (by omega)]
        cases inB 0 1000000000000000 x <;> rfl)
      (by intro m; simp only [l47_1, s47_1, lt0, cond_false])]
    cases o.1.all (inB 0 1000000000000000) <;> rfl
  · have e1 : ((List.length o.1 : Int) != S) = true := by simp [h1]
    rw [e1, decide_eq_false h1]
    rfl

theorem m25_eq (t : T24) : m25 t = some (rightC t) := by
  unfold m25 rightC
  rw [m45_eq, Option.bind_some, m46_eq, Option.bind_some, m46_eq, bind_guard]
  cases h1 : inB 1 40 (t.1.length : Int) with
  | false => rfl
  | true =>
  cases h2 : inB 1 10 (scen t : Int) with
  | false => rfl
  | true =>
  simp only [Bool.not_true, beq_self_eq_true, cond_true, Bool.or_self, Bool.false_or, Bool.true_and]
  by_cases h3 : (t.2.1.length : Int) ≤ 60
  · rw [decide_eq_true h3, decide_eq_false (p := (List.length t.2.1 : Int) > 60) (by omega)]
    simp only [cond_false, Bool.true_and]
    have hn : t.1.length ≤ 40 := by simp [inB] at h1; omega
    have hS : (scen t : Int) ≤ 10 := by simp [inB] at h2; omega
    rw [all_loop (inB 0 1000000000000000) t.2.1 (fun m j => l25_1 t (l25_3 (scen t : Int) t (some true) (some false) FUEL 0) (some false) m j) (l25_3 (scen t : Int) t (some true) (some false) FUEL 0) (some false) (by omega)
      (by
        intro m j x hx hj
        simp only [l25_1, s25_1, lt1 hj, cond_true, idx_nat, hx, Option.bind_some, m46_eq, wr1 (j := j) (by omega)]
        cases inB 0 1000000000000000 x <;> rfl)
      (by intro m; simp only [l25_1, s25_1, lt0, cond_false])]
    cases h4 : t.2.1.all (inB 0 1000000000000000) with
    | false => rfl
    | true =>
    simp only [cond_true, Bool.true_and]
    rw [all_loop (okI (scen t : Int) (t.2.1.length : Int)) t.1 (fun m j => l25_3 (scen t : Int) t (some true) (some false) m j) (some true) (some false) (by omega)
      (by
        intro m j x hx hj
        simp only [l25_3, s25_3, lt1 hj, cond_true, idx_nat, hx, Option.bind_some, wr1 (j := j) (by omega), m46_eq, okI]
        cases h5 : inB 1 6 (List.length x : Int) with
        | false => rfl
        | true =>
          have hxl : x.length ≤ 6 := by simp [inB] at h5; omega
          simp only [Bool.not_true, cond_false, Bool.true_and]
          exact all_loop (okO (scen t : Int) (t.2.1.length : Int)) x (fun n i => l25_2 (scen t : Int) (j : Int) t _ _ n i) _ _ (by omega)
            (by
              intro n i o ho hi
              simp only [l25_2, s25_2, idx_nat, hx, Option.bind_some, lt1 hi, cond_true, ho, wr1 (j := i) (by omega), m47_eq o _ _ hS (by omega) h3]
              cases okO (scen t : Int) (t.2.1.length : Int) o <;> rfl)
            (by intro n; simp only [l25_2, s25_2, idx_nat, hx, Option.bind_some, lt0, cond_false]))
      (by intro m; simp only [l25_3, s25_3, lt0, cond_false])]
    cases t.1.all (okI (scen t : Int) (t.2.1.length : Int)) <;> rfl
  · rw [decide_eq_false h3, decide_eq_true (p := (List.length t.2.1 : Int) > 60) (by omega)]
    rfl

def fewC (t : T24) (p : List T37) : Bool := (decide (t.1.length ≤ 5) && (decide (t.2.1.length ≤ 4) && decide (p.length ≤ 600))) && ((t.1.all fun l => decide (l.length ≤ 4) && l.all fun o => decide (o.1.length ≤ 3)) && p.all fun b => decide (b.1.length ≤ 6))

theorem idxG_same {α : Type} {xs : List α} {i : Nat} {x : α} (gc : Bool) (d : α) (h : xs[i]? = some x) : idxG gc d xs (i : Int) = some (bif gc then x else d) := by
  unfold idxG
  rw [idx_nat, h]
  cases gc <;> rfl

theorem list_eq_at {α : Type} [DecidableEq α] {a b : List α} (hl : a.length = b.length) : (∀ i, i < a.length → decide (a[i]? = b[i]?) = true) ↔ a = b := by
  constructor
  · intro h
    apply List.ext_getElem?
    intro i
    by_cases hi : i < a.length
    · exact of_decide_eq_true (h i hi)
    · rw [List.getElem?_eq_none (by omega), List.getElem?_eq_none (by omega)]
  · rintro rfl i _
    exact decide_eq_true rfl

theorem m59_eq (a b : List Int) (h : a.length ≤ 1000000) : m59 a b = some (decide (a = b)) := by
  unfold m59
  by_cases hl : a.length = b.length
  · have e : ((List.length a : Int) != (List.length b : Int)) = false := by rw [hl]; exact bne_same _
    rw [e, cond_false]
    have := chk_loop (R := Bool) (S := Unit) a.length (fun _ => ()) (fun i => decide (a[i]? = b[i]?)) (fun m j _ => l59_1 a b (List.length a : Int) (some true) (some false) m j) (some true) (some false) h
      (fun m j hj _ => by
        have hx := List.getElem?_eq_getElem hj
        have hy := List.getElem?_eq_getElem (l := b) (i := j) (by omega)
        generalize a[j] = x at hx
        generalize b[j] = y at hy
        simp only [l59_1, s59_1, lt1 hj, cond_true, idx_nat, hx, hy, Option.bind_some, wr1 (j := j) (by omega)]
        by_cases c : x = y
        · subst c; rw [bne_same, decide_eq_true rfl]; rfl
        · rw [bne_ne c, decide_eq_false (fun e => c (Option.some.inj e))]; rfl)
      (fun _ m => by simp only [l59_1, s59_1, lt0, cond_false])
    refine this.trans ?_
    by_cases c : a = b
    · rw [if_pos ((list_eq_at hl).2 c), decide_eq_true c]
    · rw [if_neg (fun e => c ((list_eq_at hl).1 e)), decide_eq_false c]
  · have e : ((List.length a : Int) != (List.length b : Int)) = true := bne_ne (by omega)
    rw [e, decide_eq_false (fun e => hl (by rw [e]))]
    rfl

def optAt (t : T24) (i : Nat) (k : Int) : T37 := (t.1.getD i []).getD k.toNat ([], 0, 0, ())

def minS (s : Nat) (m : Int) (o : T37) : Int := bif decide (o.1.getD s 0 < m) then o.1.getD s 0 else m

/-- The least costs of the options of an issue in a scenario. -/
def lstL (l : List T37) (s : Nat) : Int := l.foldl (minS s) ((l.getD 0 ([], 0, 0, ())).1.getD s 0)

def partC (t : T24) (c : List Int) (s i : Nat) : Int := match c[i]? with
  | some k => (optAt t i k).1.getD s 0
  | none => lstL (t.1.getD i []) s

def sumC (t : T24) (c : List Int) (s : Nat) : Int := sumN (partC t c s) t.1.length

def maxN (f : Nat → Int) : Nat → Int
  | 0 => 0
  | n + 1 => bif decide (f n > maxN f n) then f n else maxN f n

def floorC (t : T24) (c : List Int) : Int := maxN (sumC t c) (scen t)

def partD (t : T24) (c : List Int) (y : Int) (i : Nat) : Int := match c[i]? with
  | some k => bif (optAt t i k).2.1 == y then (optAt t i k).2.2.1 else 0
  | none => 0

def dueS (t : T24) (c : List Int) (y : Int) : Int := sumN (partD t c y) c.length

def overG (p : Nat → Bool) : Nat → Nat → Int
  | 0, _ => -1
  | n + 1, j => bif p j then (j : Int) else overG p n (j + 1)

def brk (t : T24) (c : List Int) (y : Nat) : Bool := decide (dueS t c (y : Int) > t.2.1.getD y 0)

def overC (t : T24) (c : List Int) : Int := overG (brk t c) t.2.1.length 0

/-- Each number of a choice is an option's. -/
def vC (t : T24) (c : List Int) : Prop := c.length ≤ t.1.length ∧ ∀ (i : Nat) (k : Int), c[i]? = some k → 0 ≤ k ∧ k.toNat < (t.1.getD i []).length

structure Good (t : T24) : Prop where
  n1 : 1 ≤ t.1.length
  n2 : t.1.length ≤ 40
  s1 : 1 ≤ scen t
  s2 : scen t ≤ 10
  y : t.2.1.length ≤ 60
  cap : ∀ (y : Nat) (x : Int), t.2.1[y]? = some x → 0 ≤ x ∧ x ≤ 1000000000000000
  opt : ∀ (i : Nat) (l : List T37), t.1[i]? = some l → 1 ≤ l.length ∧ l.length ≤ 6 ∧ ∀ (k : Nat) (o : T37), l[k]? = some o → o.1.length = scen t ∧ (∀ (s : Nat) (x : Int), o.1[s]? = some x → 0 ≤ x ∧ x ≤ 1000000000000000) ∧
    -1 ≤ o.2.1 ∧ o.2.1 < t.2.1.length ∧ 0 ≤ o.2.2.1 ∧ o.2.2.1 ≤ 1000000000000000

theorem good_of {t : T24} (h : rightC t = true) : Good t := by
  simp only [rightC, Bool.and_eq_true, inB, decide_eq_true_eq, List.all_eq_true] at h
  obtain ⟨⟨h1, h2⟩, ⟨h3, h4⟩, h5, h6, h7⟩ := h
  refine ⟨by omega, by omega, by omega, by omega, by omega, fun y x hx => h6 x (List.mem_of_getElem? hx), fun i l hl => ?_⟩
  have hi := h7 l (List.mem_of_getElem? hl)
  simp only [okI, Bool.and_eq_true, inB, decide_eq_true_eq, List.all_eq_true] at hi
  obtain ⟨⟨g1, g2⟩, g3⟩ := hi
  refine ⟨by omega, by omega, fun k o ho => ?_⟩
  have hk := g3 o (List.mem_of_getElem? ho)
  simp only [okO, Bool.and_eq_true, inB, decide_eq_true_eq, List.all_eq_true] at hk
  obtain ⟨q1, q2, ⟨q3, q4⟩, q5, q6⟩ := hk
  exact ⟨by omega, fun s x hx => q2 x (List.mem_of_getElem? hx), q3, by omega, q5, q6⟩

theorem getD_some {α : Type} {l : List α} {i : Nat} {x d : α} (h : l[i]? = some x) : l.getD i d = x := by
  rw [List.getD_eq_getElem?_getD, h]; rfl

theorem get_of_lt {α : Type} {l : List α} {i : Nat} (h : i < l.length) (d : α) : l[i]? = some (l.getD i d) := by
  rw [List.getD_eq_getElem?_getD, List.getElem?_eq_getElem h]; rfl

theorem Good.issue {t : T24} (g : Good t) {i : Nat} (h : i < t.1.length) : t.1[i]? = some (t.1.getD i []) := get_of_lt h _

theorem Good.at' {t : T24} (g : Good t) {i : Nat} (h : i < t.1.length) {k : Int} (h1 : k.toNat < (t.1.getD i []).length) :
    (t.1.getD i [])[k.toNat]? = some (optAt t i k) ∧ (optAt t i k).1.length = scen t ∧ (∀ s, s < scen t → (optAt t i k).1[s]? = some ((optAt t i k).1.getD s 0) ∧ 0 ≤ (optAt t i k).1.getD s 0 ∧ (optAt t i k).1.getD s 0 ≤ 1000000000000000) ∧
      -1 ≤ (optAt t i k).2.1 ∧ (optAt t i k).2.1 < t.2.1.length ∧ 0 ≤ (optAt t i k).2.2.1 ∧ (optAt t i k).2.2.1 ≤ 1000000000000000 := by
  obtain ⟨g1, g2, g3⟩ := g.opt i _ (g.issue h)
  have ho : (t.1.getD i [])[k.toNat]? = some (optAt t i k) := get_of_lt h1 _
  obtain ⟨q1, q2, q3, q4, q5, q6⟩ := g3 _ _ ho
  refine ⟨ho, q1, fun s hs => ?_, q3, q4, q5, q6⟩
  have hs' : (optAt t i k).1[s]? = some ((optAt t i k).1.getD s 0) := get_of_lt (by omega) _
  exact ⟨hs', q2 s _ hs'⟩

theorem lst_bd {t : T24} (g : Good t) {i : Nat} (h : i < t.1.length) {s : Nat} (hs : s < scen t) : 0 ≤ lstL (t.1.getD i []) s ∧ lstL (t.1.getD i []) s ≤ 1000000000000000 ∧ ∀ k : Nat, k < (t.1.getD i []).length → lstL (t.1.getD i []) s ≤ (optAt t i (k : Int)).1.getD s 0 := by
  obtain ⟨g1, g2, g3⟩ := g.opt i _ (g.issue h)
  have key : ∀ (l : List T37) (m : Int), (∀ o ∈ l, 0 ≤ o.1.getD s 0) → 0 ≤ m → 0 ≤ l.foldl (minS s) m ∧ l.foldl (minS s) m ≤ m ∧ ∀ o ∈ l, l.foldl (minS s) m ≤ o.1.getD s 0 := by
    intro l
    induction l with
    | nil => intro m _ hm; exact ⟨hm, Int.le_refl _, fun o ho => by cases ho⟩
    | cons o l ih =>
      intro m ho hm
      have h0 := ho o (by simp)
      have hmm : 0 ≤ minS s m o ∧ minS s m o ≤ m ∧ minS s m o ≤ o.1.getD s 0 := by
        unfold minS
        by_cases c : o.1.getD s 0 < m
        · rw [decide_eq_true c, cond_true]; omega
        · rw [decide_eq_false c, cond_false]; omega
      obtain ⟨a1, a2, a3⟩ := ih (minS s m o) (fun o' h' => ho o' (by simp [h'])) hmm.1
      refine ⟨a1, by simp only [List.foldl_cons]; omega, fun o' h' => ?_⟩
      simp only [List.foldl_cons]
      rcases List.mem_cons.1 h' with rfl | h'
      · omega
      · exact a3 o' h'
  have hall : ∀ o ∈ t.1.getD i [], 0 ≤ o.1.getD s 0 ∧ o.1.getD s 0 ≤ 1000000000000000 := by
    intro o ho
    obtain ⟨k, hk⟩ := List.getElem?_of_mem ho
    obtain ⟨q1, q2, _⟩ := g3 k o hk
    exact q2 s _ (get_of_lt (by omega) 0)
  have h0 : (t.1.getD i [])[0]? = some ((t.1.getD i []).getD 0 ([], 0, 0, ())) := get_of_lt (by omega) _
  have b0 := hall _ (List.mem_of_getElem? h0)
  obtain ⟨a1, a2, a3⟩ := key (t.1.getD i []) _ (fun o ho => (hall o ho).1) b0.1
  refine ⟨a1, Int.le_trans a2 b0.2, fun k hk => ?_⟩
  have hk' : (t.1.getD i [])[((k : Int)).toNat]? = some (optAt t i (k : Int)) := get_of_lt (by simpa using hk) _
  exact a3 _ (List.mem_of_getElem? hk')

theorem part_bd {t : T24} (g : Good t) {c : List Int} (hv : vC t c) {s i : Nat} (hs : s < scen t) (hi : i < t.1.length) : 0 ≤ partC t c s i ∧ partC t c s i ≤ 1000000000000000 := by
  unfold partC
  split
  · rename_i k hk
    obtain ⟨k0, k1⟩ := hv.2 i k hk
    exact ((g.at' hi k1).2.2.1 s hs).2
  · have := lst_bd g hi hs
    omega

theorem sum_le {f : Nat → Int} {M : Int} : ∀ n, (∀ i, i < n → 0 ≤ f i ∧ f i ≤ M) → 0 ≤ sumN f n ∧ sumN f n ≤ M * n
  | 0, _ => by simp [sumN]
  | n + 1, h => by
    have ih := sum_le n (fun i hi => h i (by omega))
    have := h n (by omega)
    simp only [sumN]
    have e : M * ((n + 1 : Nat) : Int) = M * n + M := by rw [Int.natCast_add, Int.mul_add]; simp
    omega

theorem sumC_bd {t : T24} (g : Good t) {c : List Int} (hv : vC t c) {s : Nat} (hs : s < scen t) : ∀ n, n ≤ t.1.length → 0 ≤ sumN (partC t c s) n ∧ sumN (partC t c s) n ≤ 40000000000000000 := by
  intro n hn
  have := sum_le (f := partC t c s) (M := 1000000000000000) n (fun i hi => part_bd g hv hs (by omega))
  have := g.n2
  omega

theorem maxN_bd {f : Nat → Int} {M : Int} (hM : 0 ≤ M) : ∀ n, (∀ i, i < n → 0 ≤ f i ∧ f i ≤ M) → 0 ≤ maxN f n ∧ maxN f n ≤ M ∧ ∀ i, i < n → f i ≤ maxN f n
  | 0, _ => ⟨Int.le_refl 0, hM, fun i hi => absurd hi (Nat.not_lt_zero i)⟩
  | n + 1, h => by
    obtain ⟨a, b, c⟩ := maxN_bd hM n (fun i hi => h i (by omega))
    have hn := h n (by omega)
    unfold maxN
    by_cases d : f n > maxN f n
    · rw [decide_eq_true d, cond_true]
      refine ⟨hn.1, hn.2, fun i hi => ?_⟩
      by_cases e : i = n
      · subst e; omega
      · have := c i (by omega); omega
    · rw [decide_eq_false d, cond_false]
      refine ⟨a, b, fun i hi => ?_⟩
      by_cases e : i = n
      · subst e; omega
      · exact c i (by omega)

theorem dueP_bd {t : T24} (g : Good t) {c : List Int} (hv : vC t c) (y : Int) (i : Nat) : 0 ≤ partD t c y i ∧ partD t c y i ≤ 1000000000000000 := by
  unfold partD
  split
  · rename_i k hk
    obtain ⟨k0, k1⟩ := hv.2 i k hk
    have hi : i < t.1.length := by have := (List.getElem?_eq_some_iff.1 hk).1; have := hv.1; omega
    have := (g.at' hi k1).2.2.2
    cases ((optAt t i k).2.1 == y) <;> simp only [cond_true, cond_false] <;> omega
  · omega

theorem dueS_bd {t : T24} (g : Good t) {c : List Int} (hv : vC t c) (y : Int) : ∀ n, n ≤ c.length → 0 ≤ sumN (partD t c y) n ∧ sumN (partD t c y) n ≤ 40000000000000000 := by
  intro n hn
  have := sum_le (f := partD t c y) (M := 1000000000000000) n (fun i hi => dueP_bd g hv y i)
  have := g.n2
  have := hv.1
  omega

/-- A loop that stops at the first place at which something holds. -/
theorem first_loop {R : Type} (n : Nat) (p : Nat → Bool) (f : Nat → Int → Option R) (k1 : Option R) (k2 : Int → Option R) (hn : n ≤ 1000000)
    (hs : ∀ m j, j < n → f (m + 1) (j : Int) = bif p j then k2 (j : Int) else f m ((j : Int) + 1)) (he : ∀ m, f (m + 1) (n : Int) = k1) :
    f FUEL 0 = bif decide (overG p n 0 ≥ 0) then k2 (overG p n 0) else k1 := by
  have key : ∀ (i m j : Nat), j + i = n → i < m → f m (j : Int) = bif decide (overG p i j ≥ 0) then k2 (overG p i j) else k1 := by
    intro i
    induction i with
    | zero =>
      intro m j hj hm
      obtain ⟨m, rfl⟩ : ∃ a, m = a + 1 := ⟨m - 1, by omega⟩
      have : j = n := by omega
      subst this
      rw [he m]; rfl
    | succ i ih =>
      intro m j hj hm
      obtain ⟨m, rfl⟩ : ∃ a, m = a + 1 := ⟨m - 1, by omega⟩
      rw [hs m j (by omega)]
      unfold overG
      cases p j with
      | true =>
        have : decide ((j : Int) ≥ 0) = true := decide_eq_true (by omega)
        simp only [cond_true, this]
      | false => exact ih m (j + 1) (by omega) (by omega)
  exact key n FUEL 0 (by omega) (fuel_lt (by omega))

theorem overG_bd (p : Nat → Bool) : ∀ n j, overG p n j = -1 ∨ ((j : Int) ≤ overG p n j ∧ overG p n j < (j + n : Nat) ∧ p (overG p n j).toNat = true)
  | 0, j => .inl rfl
  | n + 1, j => by
    unfold overG
    cases h : p j with
    | true =>
      refine .inr ?_
      simp only [cond_true]
      refine ⟨Int.le_refl _, by omega, by simpa using h⟩
    | false =>
      simp only [cond_false]
      rcases overG_bd p n (j + 1) with h1 | ⟨h1, h2, h3⟩
      · exact .inl h1
      · exact .inr ⟨by omega, by omega, h3⟩

theorem overG_none {p : Nat → Bool} : ∀ {n j : Nat}, overG p n j = -1 ↔ ∀ i, j ≤ i → i < j + n → p i = false
  | 0, j => ⟨fun _ i h1 h2 => absurd h2 (by omega), fun _ => rfl⟩
  | n + 1, j => by
    unfold overG
    cases h : p j with
    | true =>
      simp only [cond_true]
      constructor
      · intro h1; omega
      · intro h1
        have := h1 j (Nat.le_refl j) (by omega)
        rw [h] at this; cases this
    | false =>
      simp only [cond_false]
      rw [overG_none (n := n) (j := j + 1)]
      constructor
      · intro h1 i h2 h3
        by_cases e : i = j
        · subst e; exact h
        · exact h1 i (by omega) (by omega)
      · intro h1 i h2 h3
        exact h1 i (by omega) (by omega)

theorem m53_eq {t : T24} (g : Good t) {c : List Int} (hv : vC t c) : m53 t c = some (floorC t c) := by
  unfold m53 floorC
  have := g.s2
  have := g.n2
  exact seq_loop (R := Int) (S := Int) (scen t) (maxN (sumC t c)) (fun m j s => l53_3 c t (fun y16 => some y16) m s j) (fun s => some s) (by omega)
    (by
      intro m s hs
      simp only [l53_3, s53_3, m45_eq, Option.bind_some, lt1 hs, cond_true, wr1 (j := s) (by omega)]
      exact seq_loop (R := Int) (S := Int) t.1.length (fun j => sumN (partC t c s) j) (fun m j q => l53_2 c (s : Int) t _ m q j) (fun y15 => l53_3 c t (fun y16 => some y16) m (bif decide (y15 > maxN (sumC t c) s) then y15 else maxN (sumC t c) s) ((s : Int) + 1)) (by omega)
        (by
          intro n i hi
          have hb := sumC_bd g hv hs i (by omega)
          have hp := part_bd g hv hs hi
          simp only [l53_2, s53_2, lt1 hi, cond_true, wr1 (j := i) (by omega)]
          refine (cont_eq (sumN (partC t c s) (i + 1)) fun k => ?_).trans rfl
          simp only [sumN]
          generalize sumN (partC t c s) i = A at hb ⊢
          by_cases hc : i < c.length
          · have hk : c[i]? = some (c.getD i 0) := get_of_lt hc 0
            obtain ⟨k0, k1⟩ := hv.2 i _ hk
            obtain ⟨o1, o2, o3, _⟩ := g.at' hi k1
            have hpc : partC t c s i = (optAt t i (c.getD i 0)).1.getD s 0 := by unfold partC; rw [hk]
            rw [hpc] at hp ⊢
            rw [lt1 hc, cond_true]
            simp only [idx_nat, g.issue hi, hk, Option.bind_some, idx_pos k0, o1, (o3 s hs).1]
            rw [wrapI (by omega) (by omega)]
          · have hk : c[i]? = none := List.getElem?_eq_none (by omega)
            have hpc : partC t c s i = lstL (t.1.getD i []) s := by unfold partC; rw [hk]
            rw [hpc] at hp ⊢
            rw [decide_eq_false (p := (i : Int) < (c.length : Int)) (by omega), cond_false]
            obtain ⟨g1, g2, g3⟩ := g.opt i _ (g.issue hi)
            have i0 : idx (t.1.getD i []) 0 = some ((t.1.getD i []).getD 0 ([], 0, 0, ())) := by
              have := idx_nat (t.1.getD i []) 0
              exact this.trans (get_of_lt (by omega) _)
            have h0 := g3 0 _ (get_of_lt (by omega) ([], 0, 0, ()))
            have i1 : (((t.1.getD i []).getD 0 ([], 0, 0, ()) : T37)).1[s]? = some (((t.1.getD i []).getD 0 ([], 0, 0, ()) : T37).1.getD s 0) := get_of_lt (by omega) _
            simp only [idx_nat, g.issue hi, Option.bind_some, i0, i1]
            have hloop : ∀ (kk : Int → Option Int), l53_1 (s : Int) (i : Int) t kk FUEL (((t.1.getD i []).getD 0 ([], 0, 0, ()) : T37).1.getD s 0) 0 = kk (lstL (t.1.getD i []) s) := by
              intro kk
              have hfold : lstL (t.1.getD i []) s = ((t.1.getD i []).take (t.1.getD i []).length).foldl (minS s) (((t.1.getD i []).getD 0 ([], 0, 0, ()) : T37).1.getD s 0) := by
                rw [List.take_length]; rfl
              rw [hfold]
              exact seq_loop (R := Int) (S := Int) (t.1.getD i []).length (fun j => ((t.1.getD i []).take j).foldl (minS s) (((t.1.getD i []).getD 0 ([], 0, 0, ()) : T37).1.getD s 0)) (fun m j q => l53_1 (s : Int) (i : Int) t kk m q j) kk (by omega)
                (by
                  intro m j hj
                  have hx := get_of_lt (l := t.1.getD i []) (i := j) hj ([], 0, 0, ())
                  have h1 := g3 j _ hx
                  have i2 : (((t.1.getD i []).getD j ([], 0, 0, ()) : T37)).1[s]? = some (((t.1.getD i []).getD j ([], 0, 0, ()) : T37).1.getD s 0) := get_of_lt (by omega) _
                  simp only [l53_1, s53_1, idx_nat, g.issue hi, Option.bind_some, lt1 hj, cond_true, hx, i2, wr1 (j := j) (by omega)]
                  rw [List.take_add_one, hx, List.foldl_append]
                  rfl)
                (by intro m; simp only [l53_1, s53_1, idx_nat, g.issue hi, Option.bind_some, lt0, cond_false])
            rw [hloop, wrapI (by omega) (by omega)])
        (by intro n; simp only [l53_2, s53_2, lt0, cond_false]))
    (by intro m; simp only [l53_3, s53_3, m45_eq, Option.bind_some, lt0, cond_false])

theorem m52_eq {t : T24} (g : Good t) {c : List Int} (hv : vC t c) : m52 t c = some (overC t c) := by
  unfold m52 overC
  have := g.n2
  have := g.y
  have := hv.1
  rw [first_loop (R := Int) t.2.1.length (brk t c) (fun m j => l52_2 c t (some (-1)) (fun y10 => some y10) m j) (some (-1)) (fun y10 => some y10) (by omega)
    (by
      intro m y hy
      have hcap := get_of_lt (l := t.2.1) (i := y) hy 0
      simp only [l52_2, s52_2, lt1 hy, cond_true, wr1 (j := y) (by omega)]
      refine (seq_loop (R := Int) (S := Int) c.length (fun j => sumN (partD t c (y : Int)) j) (fun m j q => l52_1 c (y : Int) t _ m q j) (fun y8 => (idx t.2.1 (y : Int)).bind fun x9 => bif (decide (y8 > x9)) then some (y : Int) else l52_2 c t (some (-1)) (fun y10 => some y10) m ((y : Int) + 1)) (by omega) ?_ ?_).trans ?_
      · intro n i hi
        have hk : c[i]? = some (c.getD i 0) := get_of_lt hi 0
        obtain ⟨k0, k1⟩ := hv.2 i _ hk
        have hi' : i < t.1.length := by omega
        obtain ⟨o1, o2, o3, _⟩ := g.at' hi' k1
        have hb := dueS_bd g hv (y : Int) i (by omega)
        have hp := dueP_bd g hv (y : Int) i
        have hpd : partD t c (y : Int) i = bif (optAt t i (c.getD i 0)).2.1 == (y : Int) then (optAt t i (c.getD i 0)).2.2.1 else 0 := by unfold partD; rw [hk]
        simp only [l52_1, s52_1, lt1 hi, cond_true, wr1 (j := i) (by omega)]
        refine (cont_eq (sumN (partD t c (y : Int)) (i + 1)) fun k => ?_).trans rfl
        simp only [sumN]
        generalize sumN (partD t c (y : Int)) i = A at hb ⊢
        simp only [idx_nat, g.issue hi', hk, Option.bind_some, idx_pos k0, o1]
        rw [hpd] at hp ⊢
        cases hq : ((optAt t i (c.getD i 0)).2.1 == (y : Int)) with
        | false => simp only [cond_false, Int.add_zero]
        | true =>
          rw [hq] at hp
          simp only [cond_true] at hp ⊢
          rw [wrapI (by omega) (by omega)]
      · intro n; simp only [l52_1, s52_1, lt0, cond_false]
      · simp only [idx_nat, hcap, Option.bind_some]
        rfl)
    (by intro m; simp only [l52_2, s52_2, lt0, cond_false])]
  cases h : decide (overG (brk t c) t.2.1.length 0 ≥ 0) with
  | true => rfl
  | false =>
    rcases overG_bd (brk t c) t.2.1.length 0 with h1 | ⟨h1, _, _⟩
    · rw [h1]; rfl
    · rw [decide_eq_true (by omega)] at h; cases h

def mapR (n : Nat) (f : Nat → Int) : List Int := (List.range n).map f

theorem mapR_len (n : Nat) (f : Nat → Int) : (mapR n f).length = n := by simp [mapR]

theorem mapR_get {n : Nat} {f : Nat → Int} {i : Nat} (h : i < n) : (mapR n f)[i]? = some (f i) := by
  simp [mapR, h]

theorem mapR_set {n : Nat} {f : Nat → Int} {i : Nat} {x : Int} : (mapR n f).set i x = mapR n (fun j => if j = i then x else f j) := by
  apply List.ext_getElem?
  intro j
  rw [List.getElem?_set]
  by_cases hj : j < n
  · by_cases e : i = j
    · subst e
      rw [if_pos rfl, if_pos (by rw [mapR_len]; exact hj), mapR_get hj, if_pos rfl]
    · rw [if_neg e, mapR_get hj, mapR_get hj, if_neg (fun h => e h.symm)]
  · rw [List.getElem?_eq_none (l := mapR n _) (by rw [mapR_len]; omega)]
    by_cases e : i = j
    · subst e; rw [if_pos rfl, if_neg (by rw [mapR_len]; omega)]
      rw [List.getElem?_eq_none (by rw [mapR_len]; omega)]
    · rw [if_neg e, List.getElem?_eq_none (by rw [mapR_len]; omega)]

theorem mapR_congr {n : Nat} {f g : Nat → Int} (h : ∀ i, i < n → f i = g i) : mapR n f = mapR n g := by
  apply List.ext_getElem?
  intro j
  by_cases hj : j < n
  · rw [mapR_get hj, mapR_get hj, h j hj]
  · rw [List.getElem?_eq_none (by rw [mapR_len]; omega), List.getElem?_eq_none (by rw [mapR_len]; omega)]

def leastL (t : T24) : List (List Int) := (List.range t.1.length).map fun i => mapR (scen t) (lstL (t.1.getD i []))

def costsL (t : T24) (c : List Int) : List Int := mapR (scen t) (sumC t c)

def dueL (t : T24) (c : List Int) : List Int := mapR t.2.1.length (fun y => dueS t c (y : Int))

theorem m37_eq {t : T24} (g : Good t) (c : List Int) (L : List (List Int)) (K : List Int) : m37 (t, L, K, dueL t c, ()) = some (overC t c) := by
  unfold m37 overC
  have := g.y
  have hl : (dueL t c).length = t.2.1.length := mapR_len _ _
  simp only [hl]
  rw [first_loop (R := Int) t.2.1.length (brk t c) (fun m j => l37_1 (t, L, K, dueL t c, ()) (dueL t c) (t.2.1.length : Int) (some (-1)) (fun y3 => some y3) m j) (some (-1)) (fun y3 => some y3) (by omega)
    (by
      intro m y hy
      have hcap := get_of_lt (l := t.2.1) (i := y) hy 0
      have hd : (dueL t c)[y]? = some (dueS t c (y : Int)) := mapR_get hy
      simp only [l37_1, s37_1, lt1 hy, cond_true, idx_nat, hcap, hd, Option.bind_some, wr1 (j := y) (by omega)]
      rfl)
    (by intro m; simp only [l37_1, s37_1, lt0, cond_false])]
  cases h : decide (overG (brk t c) t.2.1.length 0 ≥ 0) with
  | true => rfl
  | false =>
    rcases overG_bd (brk t c) t.2.1.length 0 with h1 | ⟨h1, _, _⟩
    · rw [h1]; rfl
    · rw [decide_eq_true (by omega)] at h; cases h

theorem m58_eq {n : Nat} {f : Nat → Int} (h1 : 1 ≤ n) (h2 : n ≤ 1000) (h0 : 0 ≤ f 0) : m58 (mapR n f) = some (maxN f n) := by
  unfold m58
  have hl : (mapR n f).length = n := mapR_len _ _
  simp only [hl]
  rw [decide_eq_false (p := (n : Int) < 1) (by omega), cond_false]
  have i0 : idx (mapR n f) 0 = some (f 0) := (idx_nat (mapR n f) 0).trans (mapR_get (by omega))
  rw [i0, Option.bind_some]
  have e1 : f 0 = maxN f 1 := by
    show f 0 = bif decide (f 0 > 0) then f 0 else 0
    by_cases c : f 0 > 0
    · rw [decide_eq_true c]; rfl
    · rw [decide_eq_false c]; simp only [cond_false]; omega
  have key : ∀ (i m j : Nat), j + i = n → i < m → l58_1 (mapR n f) (fun y3 => some y3) m (maxN f j) (j : Int) = some (maxN f n) := by
    intro i
    induction i with
    | zero =>
      intro m j hj hm
      obtain ⟨m, rfl⟩ : ∃ a, m = a + 1 := ⟨m - 1, by omega⟩
      have : j = n := by omega
      subst this
      simp only [l58_1, s58_1, hl, lt0, cond_false]
    | succ i ih =>
      intro m j hj hm
      obtain ⟨m, rfl⟩ : ∃ a, m = a + 1 := ⟨m - 1, by omega⟩
      have hjn : j < n := by omega
      simp only [l58_1, s58_1, hl, lt1 hjn, cond_true, idx_nat, mapR_get hjn, Option.bind_some, wr1 (j := j) (by omega)]
      exact ih m (j + 1) (by omega) (by omega)
  rw [e1]
  exact key (n - 1) FUEL 1 (by omega) (fuel_lt (by omega))

theorem m38_eq {t : T24} (g : Good t) {c : List Int} (hv : vC t c) (L : List (List Int)) (D : List Int) : m38 (t, L, costsL t c, D, ()) = some (floorC t c) := by
  unfold m38
  have := g.s2
  simp only
  rw [show costsL t c = mapR (scen t) (sumC t c) from rfl, m58_eq g.s1 (by omega) (sumC_bd g hv g.s1 _ (Nat.le_refl _)).1]
  rfl

theorem vC_nil (t : T24) : vC t [] := ⟨Nat.zero_le _, fun i k h => by simp at h⟩

theorem vC_app {t : T24} {c : List Int} (hv : vC t c) (hc : c.length < t.1.length) {j : Nat} (hj : j < (t.1.getD c.length []).length) : vC t (c ++ [(j : Int)]) := by
  refine ⟨by simp; omega, fun i k h => ?_⟩
  by_cases hi : i < c.length
  · rw [List.getElem?_append_left hi] at h
    exact hv.2 i k h
  · rw [List.getElem?_append_right (by omega)] at h
    have : i - c.length = 0 := by
      have := (List.getElem?_eq_some_iff.1 h).1
      simp at this; omega
    rw [this] at h
    simp at h
    subst h
    have e : i = c.length := by omega
    subst e
    exact ⟨by omega, by simpa using hj⟩

theorem app_at (c : List Int) (j : Int) (i : Nat) : (c ++ [j])[i]? = if i = c.length then some j else c[i]? := by
  by_cases h : i < c.length
  · rw [List.getElem?_append_left h, if_neg (by omega)]
  · rw [List.getElem?_append_right (by omega)]
    by_cases e : i = c.length
    · subst e; simp
    · rw [if_neg e, List.getElem?_eq_none (by simp; omega), List.getElem?_eq_none (by omega)]

theorem part_app (t : T24) (c : List Int) (j : Int) (s i : Nat) : partC t (c ++ [j]) s i = if i = c.length then (optAt t i j).1.getD s 0 else partC t c s i := by
  unfold partC
  rw [app_at]
  by_cases e : i = c.length
  · rw [if_pos e, if_pos e]
  · rw [if_neg e, if_neg e]

theorem part_here (t : T24) (c : List Int) (s : Nat) : partC t c s c.length = lstL (t.1.getD c.length []) s := by
  unfold partC
  rw [List.getElem?_eq_none (Nat.le_refl _)]

theorem sumN_upd {f g : Nat → Int} {n q : Nat} (hq : q < n) (h : ∀ i, i < n → i ≠ q → f i = g i) : sumN f n = sumN g n - g q + f q := by
  have h1 := sumN_sub f g n
  have h2 : sumN (fun i => f i - g i) n = f q - g q := sumN_one (f := fun i => f i - g i) hq (fun i hi hne => by have := h i hi hne; omega)
  omega

theorem sumC_app (t : T24) {c : List Int} (hc : c.length < t.1.length) (j : Int) (s : Nat) : sumC t (c ++ [j]) s = sumC t c s + ((optAt t c.length j).1.getD s 0 - lstL (t.1.getD c.length []) s) := by
  unfold sumC
  rw [sumN_upd (f := partC t (c ++ [j]) s) (g := partC t c s) hc (fun i hi hne => by rw [part_app, if_neg hne]), part_app, if_pos rfl, part_here]
  omega

theorem dueS_app (t : T24) (c : List Int) (j : Int) (y : Int) : dueS t (c ++ [j]) y = dueS t c y + (bif (optAt t c.length j).2.1 == y then (optAt t c.length j).2.2.1 else 0) := by
  unfold dueS
  rw [List.length_append, List.length_singleton]
  simp only [sumN]
  rw [sumN_congr (f := partD t (c ++ [j]) y) (g := partD t c y) (fun i hi => by
    unfold partD
    rw [app_at, if_neg (by omega)])]
  congr 1
  unfold partD
  rw [app_at, if_pos rfl]

/-- A step's loop over the scenarios. -/
theorem step_loop {R : Type} {n i : Nat} {by_ : Int} {costs : List Int} {least : List (List Int)} {f cs g : Nat → Int} (L : Nat → Int → List Int → Option R) (k1 : List Int → Option R) (hn : n ≤ 1000) (hlen : costs.length = n)
    (hcs : ∀ s, s < n → costs[s]? = some (cs s)) (hl : least[i]? = some (mapR n g)) (hby : by_ = 1 ∨ by_ = -1) (hb : ∀ s, s < n → 0 ≤ cs s ∧ cs s ≤ 1000000000000000 ∧ 0 ≤ g s ∧ g s ≤ 1000000000000000 ∧ 0 ≤ f s ∧ f s ≤ 100000000000000000)
    (hL : ∀ (m : Nat) (j : Int) (o : List Int), L (m + 1) j o = bif (decide (j < (List.length costs : Int))) then
        (idx costs j).bind fun x8 => asrt true (decide (0 ≤ j) && decide (j < (List.length o : Int))) (((o)[(j : Int).toNat]?).bind fun x9 => (idx least (i : Int)).bind fun x10 => (idx x10 j).bind fun x11 =>
          asrt true (decide (0 ≤ j) && decide (j < (List.length o : Int))) (((o)[(j : Int).toNat]?).bind fun x12 => L m (IntKind.i64.wrap (j + 1)) (List.set o (j : Int).toNat (IntKind.i64.wrap (x9 + (IntKind.i64.wrap (by_ * (IntKind.i64.wrap (x8 - x11))))))))) else k1 o) :
    L FUEL 0 (mapR n f) = k1 (mapR n fun s => f s + by_ * (cs s - g s)) := by
  have e0 : mapR n f = mapR n (fun s => if s < 0 then f s + by_ * (cs s - g s) else f s) := mapR_congr (fun s _ => by simp)
  have e1 : (mapR n fun s => f s + by_ * (cs s - g s)) = mapR n (fun s => if s < n then f s + by_ * (cs s - g s) else f s) := mapR_congr (fun s hs => by rw [if_pos hs])
  rw [e0, e1]
  exact seq_loop (R := R) (S := List Int) n (fun j => mapR n (fun s => if s < j then f s + by_ * (cs s - g s) else f s)) (fun m j o => L m j o) k1 (by omega)
    (by
      intro m j hj
      have hbj := hb j hj
      have ho : (mapR n (fun s => if s < j then f s + by_ * (cs s - g s) else f s))[j]? = some (f j) := by
        rw [mapR_get hj, if_neg (Nat.lt_irrefl j)]
      have hlen2 : (mapR n (fun s => if s < j then f s + by_ * (cs s - g s) else f s)).length = n := mapR_len _ _
      have w1 : IntKind.i64.wrap (cs j - g j) = cs j - g j := wrapI (by omega) (by omega)
      have w2 : IntKind.i64.wrap (by_ * (cs j - g j)) = by_ * (cs j - g j) := by
        rcases hby with rfl | rfl
        · exact wrapI (by omega) (by omega)
        · exact wrapI (by omega) (by omega)
      have w3 : IntKind.i64.wrap (f j + by_ * (cs j - g j)) = f j + by_ * (cs j - g j) := by
        rcases hby with rfl | rfl
        · exact wrapI (by omega) (by omega)
        · exact wrapI (by omega) (by omega)
      rw [hL]
      simp only [hlen, hlen2, lt1 hj, nn, Bool.and_self, cond_true, idx_nat, hcs j hj, Option.bind_some, asrtT, Int.toNat_natCast, ho, hl, mapR_get hj, w1, w2, w3, wr1 (j := j) (by omega)]
      congr 1
      rw [mapR_set]
      refine mapR_congr (fun s hs => ?_)
      by_cases e : s = j
      · subst e; rw [if_pos rfl, if_pos (by omega)]
      · rw [if_neg e]
        by_cases h2 : s < j
        · rw [if_pos h2, if_pos (by omega)]
        · rw [if_neg h2, if_neg (by omega)])
    (by
      intro m
      have hlen2 : (mapR n (fun s => if s < n then f s + by_ * (cs s - g s) else f s)).length = n := mapR_len _ _
      rw [hL]
      simp only [hlen, lt0, cond_false])

theorem leastL_at {t : T24} {i : Nat} (h : i < t.1.length) : (leastL t)[i]? = some (mapR (scen t) (lstL (t.1.getD i []))) := by
  simp [leastL, h]

/-- An option is chosen. -/
theorem step_up {R : Type} {t : T24} (g : Good t) {c : List Int} (hv : vC t c) (hc : c.length < t.1.length) {j : Nat} (hj : j < (t.1.getD c.length []).length) (L : Nat → Int → List Int → Option R) (k1 : List Int → Option R)
    (hL : ∀ (m : Nat) (i : Int) (o : List Int), L (m + 1) i o = bif (decide (i < (List.length (optAt t c.length (j : Int)).1 : Int))) then
        (idx (optAt t c.length (j : Int)).1 i).bind fun x8 => asrt true (decide (0 ≤ i) && decide (i < (List.length o : Int))) (((o)[(i : Int).toNat]?).bind fun x9 => (idx (leastL t) (c.length : Int)).bind fun x10 => (idx x10 i).bind fun x11 =>
          asrt true (decide (0 ≤ i) && decide (i < (List.length o : Int))) (((o)[(i : Int).toNat]?).bind fun x12 => L m (IntKind.i64.wrap (i + 1)) (List.set o (i : Int).toNat (IntKind.i64.wrap (x9 + (IntKind.i64.wrap (1 * (IntKind.i64.wrap (x8 - x11))))))))) else k1 o) :
    L FUEL 0 (costsL t c) = k1 (costsL t (c ++ [(j : Int)])) := by
  obtain ⟨o1, o2, o3, _⟩ := g.at' hc (k := (j : Int)) (by simpa using hj)
  have := g.s2
  unfold costsL
  rw [step_loop (n := scen t) (i := c.length) (by_ := 1) (f := sumC t c) (cs := fun s => (optAt t c.length (j : Int)).1.getD s 0) (g := lstL (t.1.getD c.length [])) L k1 (by omega) o2 (fun s hs => (o3 s hs).1) (leastL_at hc) (.inl rfl)
    (fun s hs => by
      have h1 := (o3 s hs).2
      have h2 := lst_bd g hc hs
      have h3 := sumC_bd g hv hs t.1.length (Nat.le_refl _)
      have h4 : 0 ≤ sumC t c s ∧ sumC t c s ≤ 40000000000000000 := h3
      omega) hL]
  congr 1
  exact mapR_congr (fun s _ => by rw [sumC_app t hc]; omega)

/-- An option is given back. -/
theorem step_down {R : Type} {t : T24} (g : Good t) {c : List Int} (hv : vC t c) (hc : c.length < t.1.length) {j : Nat} (hj : j < (t.1.getD c.length []).length) (L : Nat → Int → List Int → Option R) (k1 : List Int → Option R)
    (hL : ∀ (m : Nat) (i : Int) (o : List Int), L (m + 1) i o = bif (decide (i < (List.length (optAt t c.length (j : Int)).1 : Int))) then
        (idx (optAt t c.length (j : Int)).1 i).bind fun x8 => asrt true (decide (0 ≤ i) && decide (i < (List.length o : Int))) (((o)[(i : Int).toNat]?).bind fun x9 => (idx (leastL t) (c.length : Int)).bind fun x10 => (idx x10 i).bind fun x11 =>
          asrt true (decide (0 ≤ i) && decide (i < (List.length o : Int))) (((o)[(i : Int).toNat]?).bind fun x12 => L m (IntKind.i64.wrap (i + 1)) (List.set o (i : Int).toNat (IntKind.i64.wrap (x9 + (IntKind.i64.wrap ((-1) * (IntKind.i64.wrap (x8 - x11))))))))) else k1 o) :
    L FUEL 0 (costsL t (c ++ [(j : Int)])) = k1 (costsL t c) := by
  obtain ⟨o1, o2, o3, _⟩ := g.at' hc (k := (j : Int)) (by simpa using hj)
  have := g.s2
  have hv2 := vC_app hv hc hj
  unfold costsL
  rw [step_loop (n := scen t) (i := c.length) (by_ := -1) (f := sumC t (c ++ [(j : Int)])) (cs := fun s => (optAt t c.length (j : Int)).1.getD s 0) (g := lstL (t.1.getD c.length [])) L k1 (by omega) o2 (fun s hs => (o3 s hs).1) (leastL_at hc) (.inr rfl)
    (fun s hs => by
      have h1 := (o3 s hs).2
      have h2 := lst_bd g hc hs
      have h3 := sumC_bd g hv2 hs t.1.length (Nat.le_refl _)
      have h4 : 0 ≤ sumC t (c ++ [(j : Int)]) s ∧ sumC t (c ++ [(j : Int)]) s ≤ 40000000000000000 := h3
      omega) hL]
  congr 1
  exact mapR_congr (fun s _ => by rw [sumC_app t hc]; omega)

/-- What falls due. -/
theorem due_up {t : T24} (g : Good t) {c : List Int} (hv : vC t c) (hc : c.length < t.1.length) {j : Nat} (hj : j < (t.1.getD c.length []).length) (h0 : decide ((optAt t c.length (j : Int)).2.1 ≥ 0) = true) :
    (decide (0 ≤ (optAt t c.length (j : Int)).2.1) && decide ((optAt t c.length (j : Int)).2.1 < (List.length (dueL t c) : Int))) = true ∧
    (dueL t c)[(optAt t c.length (j : Int)).2.1.toNat]? = some (dueS t c (optAt t c.length (j : Int)).2.1) ∧
    List.set (dueL t c) (optAt t c.length (j : Int)).2.1.toNat (IntKind.i64.wrap (dueS t c (optAt t c.length (j : Int)).2.1 + IntKind.i64.wrap (1 * (optAt t c.length (j : Int)).2.2.1))) = dueL t (c ++ [(j : Int)]) := by
  obtain ⟨o1, o2, o3, o4, o5, o6, o7⟩ := g.at' hc (k := (j : Int)) (by simpa using hj)
  simp only [decide_eq_true_eq] at h0
  have hl : (dueL t c).length = t.2.1.length := mapR_len _ _
  have hy : (optAt t c.length (j : Int)).2.1.toNat < t.2.1.length := by omega
  have hyc : (((optAt t c.length (j : Int)).2.1.toNat : Nat) : Int) = (optAt t c.length (j : Int)).2.1 := by omega
  have hb := dueS_bd g hv (optAt t c.length (j : Int)).2.1 c.length (Nat.le_refl _)
  have hb' : 0 ≤ dueS t c (optAt t c.length (j : Int)).2.1 ∧ dueS t c (optAt t c.length (j : Int)).2.1 ≤ 40000000000000000 := hb
  refine ⟨by rw [hl]; simp; omega, ?_, ?_⟩
  · unfold dueL
    rw [mapR_get hy, hyc]
  · rw [wrapI (x := 1 * _) (by omega) (by omega), wrapI (by omega) (by omega)]
    unfold dueL
    rw [mapR_set]
    refine mapR_congr (fun y _ => ?_)
    rw [dueS_app]
    by_cases e : y = (optAt t c.length (j : Int)).2.1.toNat
    · rw [if_pos e]
      have : ((optAt t c.length (j : Int)).2.1 == (y : Int)) = true := by simp; omega
      rw [this, cond_true]
      have e2 : (y : Int) = (optAt t c.length (j : Int)).2.1 := by omega
      rw [e2]; omega
    · rw [if_neg e]
      have : ((optAt t c.length (j : Int)).2.1 == (y : Int)) = false := by simp; omega
      rw [this, cond_false]; omega

theorem due_same {t : T24} {c : List Int} {j : Nat} (h0 : decide ((optAt t c.length (j : Int)).2.1 ≥ 0) = false) : dueL t (c ++ [(j : Int)]) = dueL t c := by
  simp only [decide_eq_false_iff_not] at h0
  unfold dueL
  refine mapR_congr (fun y _ => ?_)
  rw [dueS_app]
  have : ((optAt t c.length (j : Int)).2.1 == (y : Int)) = false := by simp; omega
  rw [this, cond_false]; omega

theorem due_down {t : T24} (g : Good t) {c : List Int} (hv : vC t c) (hc : c.length < t.1.length) {j : Nat} (hj : j < (t.1.getD c.length []).length) (h0 : decide ((optAt t c.length (j : Int)).2.1 ≥ 0) = true) :
    (decide (0 ≤ (optAt t c.length (j : Int)).2.1) && decide ((optAt t c.length (j : Int)).2.1 < (List.length (dueL t (c ++ [(j : Int)])) : Int))) = true ∧
    (dueL t (c ++ [(j : Int)]))[(optAt t c.length (j : Int)).2.1.toNat]? = some (dueS t (c ++ [(j : Int)]) (optAt t c.length (j : Int)).2.1) ∧
    List.set (dueL t (c ++ [(j : Int)])) (optAt t c.length (j : Int)).2.1.toNat (IntKind.i64.wrap (dueS t (c ++ [(j : Int)]) (optAt t c.length (j : Int)).2.1 + IntKind.i64.wrap ((-1) * (optAt t c.length (j : Int)).2.2.1))) = dueL t c := by
  obtain ⟨o1, o2, o3, o4, o5, o6, o7⟩ := g.at' hc (k := (j : Int)) (by simpa using hj)
  simp only [decide_eq_true_eq] at h0
  have hv2 := vC_app hv hc hj
  have hl : (dueL t (c ++ [(j : Int)])).length = t.2.1.length := mapR_len _ _
  have hy : (optAt t c.length (j : Int)).2.1.toNat < t.2.1.length := by omega
  have hyc : (((optAt t c.length (j : Int)).2.1.toNat : Nat) : Int) = (optAt t c.length (j : Int)).2.1 := by omega
  have hb := dueS_bd g hv2 (optAt t c.length (j : Int)).2.1 _ (Nat.le_refl _)
  have hb' : 0 ≤ dueS t (c ++ [(j : Int)]) (optAt t c.length (j : Int)).2.1 ∧ dueS t (c ++ [(j : Int)]) (optAt t c.length (j : Int)).2.1 ≤ 40000000000000000 := hb
  refine ⟨by rw [hl]; simp; omega, ?_, ?_⟩
  · unfold dueL
    rw [mapR_get hy, hyc]
  · rw [wrapI (x := (-1) * _) (by omega) (by omega), wrapI (by omega) (by omega)]
    unfold dueL
    rw [mapR_set]
    refine mapR_congr (fun y _ => ?_)
    by_cases e : y = (optAt t c.length (j : Int)).2.1.toNat
    · rw [if_pos e]
      have e2 : (y : Int) = (optAt t c.length (j : Int)).2.1 := by omega
      rw [e2, dueS_app, beq_self_eq_true, cond_true]; omega
    · rw [if_neg e, dueS_app]
      have : ((optAt t c.length (j : Int)).2.1 == (y : Int)) = false := by simp; omega
      rw [this, cond_false]; omega

theorem op10_1 {R : Type} {t : T24} (g : Good t) {i : Nat} (hi : i < t.1.length) {k : Nat} (hk : k < (t.1.getD i []).length) (k1 : List Int → Option R) (f : Nat → Int) :
    l15_1 (optAt t i (k : Int)).1 (List.length (optAt t i (k : Int)).1 : Int) k1 FUEL 0 (mapR (scen t) f) = k1 (mapR (scen t) fun s => minS s (f s) (optAt t i (k : Int))) := by
  obtain ⟨o1, o2, o3, _⟩ := g.at' hi (k := (k : Int)) (by simpa using hk)
  have := g.s2
  generalize optAt t i (k : Int) = o at *
  have e0 : mapR (scen t) f = mapR (scen t) (fun s => if s < 0 then minS s (f s) o else f s) := mapR_congr (fun s _ => by simp)
  have e1 : (mapR (scen t) fun s => minS s (f s) o) = mapR (scen t) (fun s => if s < scen t then minS s (f s) o else f s) := mapR_congr (fun s hs => by rw [if_pos hs])
  rw [e0, e1]
  exact seq_loop (R := R) (S := List Int) (scen t) (fun j => mapR (scen t) (fun s => if s < j then minS s (f s) o else f s)) (fun m j x => l15_1 o.1 (List.length o.1 : Int) k1 m j x) k1 (by omega)
    (by
      intro m j hj
      have ho : (mapR (scen t) (fun s => if s < j then minS s (f s) o else f s))[j]? = some (f j) := by
        rw [mapR_get hj, if_neg (Nat.lt_irrefl j)]
      have hlen2 : (mapR (scen t) (fun s => if s < j then minS s (f s) o else f s)).length = scen t := mapR_len _ _
      simp only [l15_1, s15_1, o2, hlen2, lt1 hj, nn, Bool.and_self, cond_true, idx_nat, (o3 j hj).1, Option.bind_some, asrtT, Int.toNat_natCast, ho, wr1 (j := j) (by omega)]
      congr 1
      rw [mapR_set]
      refine mapR_congr (fun s hs => ?_)
      by_cases e : s = j
      · subst e; rw [if_pos rfl, if_pos (by omega)]; rfl
      · rw [if_neg e]
        by_cases h2 : s < j
        · rw [if_pos h2, if_pos (by omega)]
        · rw [if_neg h2, if_neg (by omega)])
    (by intro m; simp only [l15_1, s15_1, o2, lt0, cond_false])

theorem op10_2 {R : Type} {t : T24} (g : Good t) {i : Nat} (hi : i < t.1.length) (k1 : List Int → Option R) (f : Nat → Int) :
    l15_2 (t.1.getD i []) (List.length (t.1.getD i []) : Int) k1 FUEL 0 (mapR (scen t) f) = k1 (mapR (scen t) fun s => (t.1.getD i []).foldl (minS s) (f s)) := by
  obtain ⟨g1, g2, g3⟩ := g.opt i _ (g.issue hi)
  have e1 : (mapR (scen t) fun s => (t.1.getD i []).foldl (minS s) (f s)) = mapR (scen t) fun s => ((t.1.getD i []).take (t.1.getD i []).length).foldl (minS s) (f s) := by rw [List.take_length]
  rw [e1]
  exact seq_loop (R := R) (S := List Int) (t.1.getD i []).length (fun j => mapR (scen t) fun s => ((t.1.getD i []).take j).foldl (minS s) (f s)) (fun m j x => l15_2 (t.1.getD i []) (List.length (t.1.getD i []) : Int) k1 m j x) k1 (by omega)
    (by
      intro m j hj
      have hx : (t.1.getD i [])[j]? = some (optAt t i (j : Int)) := get_of_lt hj _
      simp only [l15_2, s15_2, lt1 hj, cond_true, idx_nat, hx, Option.bind_some, op10_1 g hi hj, wr1 (j := j) (by omega)]
      congr 1
      refine mapR_congr (fun s _ => ?_)
      rw [List.take_add_one, hx, List.foldl_append]
      rfl)
    (by intro m; simp only [l15_2, s15_2, lt0, cond_false])

theorem op10_3 {R : Type} (n : Nat) (hn : n ≤ 1000) (k1 : List Int → Option R) (f h : Nat → Int) (hf : ∀ s, s < n → 0 ≤ f s ∧ f s ≤ 100000000000000000) (hh : ∀ s, s < n → 0 ≤ h s ∧ h s ≤ 100000000000000000) :
    l15_3 (mapR n h) (List.length (mapR n h) : Int) k1 FUEL 0 (mapR n f) = k1 (mapR n fun s => f s + h s) := by
  have e0 : mapR n f = mapR n (fun s => if s < 0 then f s + h s else f s) := mapR_congr (fun s _ => by simp)
  have e1 : (mapR n fun s => f s + h s) = mapR n (fun s => if s < n then f s + h s else f s) := mapR_congr (fun s hs => by rw [if_pos hs])
  rw [e0, e1]
  exact seq_loop (R := R) (S := List Int) n (fun j => mapR n (fun s => if s < j then f s + h s else f s)) (fun m j x => l15_3 (mapR n h) (List.length (mapR n h) : Int) k1 m j x) k1 (by omega)
    (by
      intro m j hj
      have ho : (mapR n (fun s => if s < j then f s + h s else f s))[j]? = some (f j) := by
        rw [mapR_get hj, if_neg (Nat.lt_irrefl j)]
      have hlen2 : (mapR n (fun s => if s < j then f s + h s else f s)).length = n := mapR_len _ _
      have hlen1 : (mapR n h).length = n := mapR_len _ _
      have w : IntKind.i64.wrap (f j + h j) = f j + h j := by
        have := hf j hj
        have := hh j hj
        exact wrapI (by omega) (by omega)
      simp only [l15_3, s15_3, hlen1, hlen2, lt1 hj, nn, Bool.and_self, cond_true, idx_nat, mapR_get (f := h) hj, Option.bind_some, asrtT, Int.toNat_natCast, ho, w, wr1 (j := j) (by omega)]
      congr 1
      rw [mapR_set]
      refine mapR_congr (fun s hs => ?_)
      by_cases e : s = j
      · subst e; rw [if_pos rfl, if_pos (by omega)]
      · rw [if_neg e]
        by_cases h2 : s < j
        · rw [if_pos h2, if_pos (by omega)]
        · rw [if_neg h2, if_neg (by omega)])
    (by intro m; have hlen1 : (mapR n h).length = n := mapR_len _ _; simp only [l15_3, s15_3, hlen1, lt0, cond_false])

theorem op10_4 {R : Type} {t : T24} (g : Good t) (k1 : List (List Int) → List Int → Option R) :
    l15_4 t.1 (List.length t.1 : Int) k1 FUEL 0 [] (List.replicate (scen t) 0) = k1 (leastL t) (costsL t []) := by
  have := g.s1
  have := g.s2
  have := g.n2
  have e0 : List.replicate (scen t) (0 : Int) = mapR (scen t) (fun s => sumN (partC t [] s) 0) := by
    apply List.ext_getElem?
    intro j
    by_cases hj : j < scen t
    · rw [mapR_get hj, List.getElem?_replicate, if_pos hj]; rfl
    · rw [List.getElem?_eq_none (by simpa using hj), List.getElem?_eq_none (by rw [mapR_len]; omega)]
  rw [e0]
  exact seq_loop (R := R) (S := List (List Int) × List Int) t.1.length (fun j => ((List.range j).map (fun i => mapR (scen t) (lstL (t.1.getD i []))), mapR (scen t) (fun s => sumN (partC t [] s) j))) (fun m j x => l15_4 t.1 (List.length t.1 : Int) k1 m j x.1 x.2) (fun x => k1 x.1 x.2) (by omega)
    (by
      intro m j hj
      obtain ⟨g1, g2, g3⟩ := g.opt j _ (g.issue hj)
      have h0 : (t.1.getD j [])[0]? = some (optAt t j ((0 : Nat) : Int)) := get_of_lt (by omega) _
      have h0' : idx (t.1.getD j []) 0 = some (optAt t j ((0 : Nat) : Int)) := (idx_nat (t.1.getD j []) 0).trans h0
      obtain ⟨q1, q2, q3⟩ := g3 0 _ h0
      have hx : (optAt t j ((0 : Nat) : Int)).1 = mapR (scen t) (fun s => (optAt t j ((0 : Nat) : Int)).1.getD s 0) := by
        apply List.ext_getElem?
        intro s
        by_cases hs : s < scen t
        · rw [mapR_get hs]; exact get_of_lt (by omega) 0
        · rw [List.getElem?_eq_none (by omega), List.getElem?_eq_none (by rw [mapR_len]; omega)]
      have hcl : cloneM (optAt t j ((0 : Nat) : Int)).1 = some (mapR (scen t) (fun s => (optAt t j ((0 : Nat) : Int)).1.getD s 0)) := by
        rw [cloneM_eq (by omega)]; exact congrArg some hx
      have hL : decide (((List.range j).map (fun i => mapR (scen t) (lstL (t.1.getD i [])))).length + List.length (α := List Int) [mapR (scen t) (lstL (t.1.getD j []))] ≤ LIM) = true := by
        refine decide_eq_true ?_
        have : (4294967296 : Nat) = LIM := rfl
        simp only [List.length_map, List.length_range, List.length_singleton]
        omega
      have hm : (mapR (scen t) fun s => (t.1.getD j []).foldl (minS s) ((optAt t j ((0 : Nat) : Int)).1.getD s 0)) = mapR (scen t) (lstL (t.1.getD j [])) := mapR_congr (fun s _ => rfl)
      simp only [l15_4, s15_4, lt1 hj, cond_true, idx_nat, g.issue hj, Option.bind_some, h0', hcl]
      rw [op10_2 g hj]
      simp only [hm, hL, asrtT]
      rw [op10_3 _ (by omega) _ _ _ (fun s hs => by
          have := sumC_bd g (vC_nil t) hs j (by omega)
          omega) (fun s hs => by
          have := lst_bd g hj hs
          omega)]
      simp only [wr1 (j := j) (by omega), List.range_succ, List.map_append, List.map_cons, List.map_nil]
      rfl)
    (by
      intro m
      simp only [l15_4, s15_4, lt0, cond_false])

theorem op12_1 {R : Type} {t : T24} (g : Good t) {i : Nat} (hi : i < t.1.length) {k : Nat} (hk : k < (t.1.getD i []).length) (k1 : List Int → Option R) (f : Nat → Int) :
    l17_1 (optAt t i (k : Int)).1 (List.length (optAt t i (k : Int)).1 : Int) k1 FUEL 0 (mapR (scen t) f) = k1 (mapR (scen t) fun s => minS s (f s) (optAt t i (k : Int))) := by
  obtain ⟨o1, o2, o3, _⟩ := g.at' hi (k := (k : Int)) (by simpa using hk)
  have := g.s2
  generalize optAt t i (k : Int) = o at *
  have e0 : mapR (scen t) f = mapR (scen t) (fun s => if s < 0 then minS s (f s) o else f s) := mapR_congr (fun s _ => by simp)
  have e1 : (mapR (scen t) fun s => minS s (f s) o) = mapR (scen t) (fun s => if s < scen t then minS s (f s) o else f s) := mapR_congr (fun s hs => by rw [if_pos hs])
  rw [e0, e1]
  exact seq_loop (R := R) (S := List Int) (scen t) (fun j => mapR (scen t) (fun s => if s < j then minS s (f s) o else f s)) (fun m j x => l17_1 o.1 (List.length o.1 : Int) k1 m j x) k1 (by omega)
    (by
      intro m j hj
      have ho : (mapR (scen t) (fun s => if s < j then minS s (f s) o else f s))[j]? = some (f j) := by
        rw [mapR_get hj, if_neg (Nat.lt_irrefl j)]
      have hlen2 : (mapR (scen t) (fun s => if s < j then minS s (f s) o else f s)).length = scen t := mapR_len _ _
      simp only [l17_1, s17_1, o2, hlen2, lt1 hj, nn, Bool.and_self, cond_true, idx_nat, (o3 j hj).1, Option.bind_some, asrtT, Int.toNat_natCast, ho, wr1 (j := j) (by omega)]
      congr 1
      rw [mapR_set]
      refine mapR_congr (fun s hs => ?_)
      by_cases e : s = j
      · subst e; rw [if_pos rfl, if_pos (by omega)]; rfl
      · rw [if_neg e]
        by_cases h2 : s < j
        · rw [if_pos h2, if_pos (by omega)]
        · rw [if_neg h2, if_neg (by omega)])
    (by intro m; simp only [l17_1, s17_1, o2, lt0, cond_false])

theorem op12_2 {R : Type} {t : T24} (g : Good t) {i : Nat} (hi : i < t.1.length) (k1 : List Int → Option R) (f : Nat → Int) :
    l17_2 (t.1.getD i []) (List.length (t.1.getD i []) : Int) k1 FUEL 0 (mapR (scen t) f) = k1 (mapR (scen t) fun s => (t.1.getD i []).foldl (minS s) (f s)) := by
  obtain ⟨g1, g2, g3⟩ := g.opt i _ (g.issue hi)
  have e1 : (mapR (scen t) fun s => (t.1.getD i []).foldl (minS s) (f s)) = mapR (scen t) fun s => ((t.1.getD i []).take (t.1.getD i []).length).foldl (minS s) (f s) := by rw [List.take_length]
  rw [e1]
  exact seq_loop (R := R) (S := List Int) (t.1.getD i []).length (fun j => mapR (scen t) fun s => ((t.1.getD i []).take j).foldl (minS s) (f s)) (fun m j x => l17_2 (t.1.getD i []) (List.length (t.1.getD i []) : Int) k1 m j x) k1 (by omega)
    (by
      intro m j hj
      have hx : (t.1.getD i [])[j]? = some (optAt t i (j : Int)) := get_of_lt hj _
      simp only [l17_2, s17_2, lt1 hj, cond_true, idx_nat, hx, Option.bind_some, op12_1 g hi hj, wr1 (j := j) (by omega)]
      congr 1
      refine mapR_congr (fun s _ => ?_)
      rw [List.take_add_one, hx, List.foldl_append]
      rfl)
    (by intro m; simp only [l17_2, s17_2, lt0, cond_false])

theorem op12_3 {R : Type} (n : Nat) (hn : n ≤ 1000) (k1 : List Int → Option R) (f h : Nat → Int) (hf : ∀ s, s < n → 0 ≤ f s ∧ f s ≤ 100000000000000000) (hh : ∀ s, s < n → 0 ≤ h s ∧ h s ≤ 100000000000000000) :
    l17_3 (mapR n h) (List.length (mapR n h) : Int) k1 FUEL 0 (mapR n f) = k1 (mapR n fun s => f s + h s) := by
  have e0 : mapR n f = mapR n (fun s => if s < 0 then f s + h s else f s) := mapR_congr (fun s _ => by simp)
  have e1 : (mapR n fun s => f s + h s) = mapR n (fun s => if s < n then f s + h s else f s) := mapR_congr (fun s hs => by rw [if_pos hs])
  rw [e0, e1]
  exact seq_loop (R := R) (S := List Int) n (fun j => mapR n (fun s => if s < j then f s + h s else f s)) (fun m j x => l17_3 (mapR n h) (List.length (mapR n h) : Int) k1 m j x) k1 (by omega)
    (by
      intro m j hj
      have ho : (mapR n (fun s => if s < j then f s + h s else f s))[j]? = some (f j) := by
        rw [mapR_get hj, if_neg (Nat.lt_irrefl j)]
      have hlen2 : (mapR n (fun s => if s < j then f s + h s else f s)).length = n := mapR_len _ _
      have hlen1 : (mapR n h).length = n := mapR_len _ _
      have w : IntKind.i64.wrap (f j + h j) = f j + h j := by
        have := hf j hj
        have := hh j hj
        exact wrapI (by omega) (by omega)
      simp only [l17_3, s17_3, hlen1, hlen2, lt1 hj, nn, Bool.and_self, cond_true, idx_nat, mapR_get (f := h) hj, Option.bind_some, asrtT, Int.toNat_natCast, ho, w, wr1 (j := j) (by omega)]
      congr 1
      rw [mapR_set]
      refine mapR_congr (fun s hs => ?_)
      by_cases e : s = j
      · subst e; rw [if_pos rfl, if_pos (by omega)]
      · rw [if_neg e]
        by_cases h2 : s < j
        · rw [if_pos h2, if_pos (by omega)]
        · rw [if_neg h2, if_neg (by omega)])
    (by intro m; have hlen1 : (mapR n h).length = n := mapR_len _ _; simp only [l17_3, s17_3, hlen1, lt0, cond_false])

theorem op12_4 {R : Type} {t : T24} (g : Good t) (k1 : List (List Int) → List Int → Option R) :
    l17_4 t.1 (List.length t.1 : Int) k1 FUEL 0 [] (List.replicate (scen t) 0) = k1 (leastL t) (costsL t []) := by
  have := g.s1
  have := g.s2
  have := g.n2
  have e0 : List.replicate (scen t) (0 : Int) = mapR (scen t) (fun s => sumN (partC t [] s) 0) := by
    apply List.ext_getElem?
    intro j
    by_cases hj : j < scen t
    · rw [mapR_get hj, List.getElem?_replicate, if_pos hj]; rfl
    · rw [List.getElem?_eq_none (by simpa using hj), List.getElem?_eq_none (by rw [mapR_len]; omega)]
  rw [e0]
  exact seq_loop (R := R) (S := List (List Int) × List Int) t.1.length (fun j => ((List.range j).map (fun i => mapR (scen t) (lstL (t.1.getD i []))), mapR (scen t) (fun s => sumN (partC t [] s) j))) (fun m j x => l17_4 t.1 (List.length t.1 : Int) k1 m j x.1 x.2) (fun x => k1 x.1 x.2) (by omega)
    (by
      intro m j hj
      obtain ⟨g1, g2, g3⟩ := g.opt j _ (g.issue hj)
      have h0 : (t.1.getD j [])[0]? = some (optAt t j ((0 : Nat) : Int)) := get_of_lt (by omega) _
      have h0' : idx (t.1.getD j []) 0 = some (optAt t j ((0 : Nat) : Int)) := (idx_nat (t.1.getD j []) 0).trans h0
      obtain ⟨q1, q2, q3⟩ := g3 0 _ h0
      have hx : (optAt t j ((0 : Nat) : Int)).1 = mapR (scen t) (fun s => (optAt t j ((0 : Nat) : Int)).1.getD s 0) := by
        apply List.ext_getElem?
        intro s
        by_cases hs : s < scen t
        · rw [mapR_get hs]; exact get_of_lt (by omega) 0
        · rw [List.getElem?_eq_none (by omega), List.getElem?_eq_none (by rw [mapR_len]; omega)]
      have hcl : cloneM (optAt t j ((0 : Nat) : Int)).1 = some (mapR (scen t) (fun s => (optAt t j ((0 : Nat) : Int)).1.getD s 0)) := by
        rw [cloneM_eq (by omega)]; exact congrArg some hx
      have hL : decide (((List.range j).map (fun i => mapR (scen t) (lstL (t.1.getD i [])))).length + List.length (α := List Int) [mapR (scen t) (lstL (t.1.getD j []))] ≤ LIM) = true := by
        refine decide_eq_true ?_
        have : (4294967296 : Nat) = LIM := rfl
        simp only [List.length_map, List.length_range, List.length_singleton]
        omega
      have hm : (mapR (scen t) fun s => (t.1.getD j []).foldl (minS s) ((optAt t j ((0 : Nat) : Int)).1.getD s 0)) = mapR (scen t) (lstL (t.1.getD j [])) := mapR_congr (fun s _ => rfl)
      simp only [l17_4, s17_4, lt1 hj, cond_true, idx_nat, g.issue hj, Option.bind_some, h0', hcl]
      rw [op12_2 g hj]
      simp only [hm, hL, asrtT]
      rw [op12_3 _ (by omega) _ _ _ (fun s hs => by
          have := sumC_bd g (vC_nil t) hs j (by omega)
          omega) (fun s hs => by
          have := lst_bd g hj hs
          omega)]
      simp only [wr1 (j := j) (by omega), List.range_succ, List.map_append, List.map_cons, List.map_nil]
      rfl)
    (by
      intro m
      simp only [l17_4, s17_4, lt0, cond_false])

theorem op18_1 {R : Type} {t : T24} (g : Good t) {i : Nat} (hi : i < t.1.length) {k : Nat} (hk : k < (t.1.getD i []).length) (k1 : List Int → Option R) (f : Nat → Int) :
    l18_1 (optAt t i (k : Int)).1 (List.length (optAt t i (k : Int)).1 : Int) k1 FUEL 0 (mapR (scen t) f) = k1 (mapR (scen t) fun s => minS s (f s) (optAt t i (k : Int))) := by
  obtain ⟨o1, o2, o3, _⟩ := g.at' hi (k := (k : Int)) (by simpa using hk)
  have := g.s2
  generalize optAt t i (k : Int) = o at *
  have e0 : mapR (scen t) f = mapR (scen t) (fun s => if s < 0 then minS s (f s) o else f s) := mapR_congr (fun s _ => by simp)
  have e1 : (mapR (scen t) fun s => minS s (f s) o) = mapR (scen t) (fun s => if s < scen t then minS s (f s) o else f s) := mapR_congr (fun s hs => by rw [if_pos hs])
  rw [e0, e1]
  exact seq_loop (R := R) (S := List Int) (scen t) (fun j => mapR (scen t) (fun s => if s < j then minS s (f s) o else f s)) (fun m j x => l18_1 o.1 (List.length o.1 : Int) k1 m j x) k1 (by omega)
    (by
      intro m j hj
      have ho : (mapR (scen t) (fun s => if s < j then minS s (f s) o else f s))[j]? = some (f j) := by
        rw [mapR_get hj, if_neg (Nat.lt_irrefl j)]
      have hlen2 : (mapR (scen t) (fun s => if s < j then minS s (f s) o else f s)).length = scen t := mapR_len _ _
      simp only [l18_1, s18_1, o2, hlen2, lt1 hj, nn, Bool.and_self, cond_true, idx_nat, (o3 j hj).1, Option.bind_some, asrtT, Int.toNat_natCast, ho, wr1 (j := j) (by omega)]
      congr 1
      rw [mapR_set]
      refine mapR_congr (fun s hs => ?_)
      by_cases e : s = j
      · subst e; rw [if_pos rfl, if_pos (by omega)]; rfl
      · rw [if_neg e]
        by_cases h2 : s < j
        · rw [if_pos h2, if_pos (by omega)]
        · rw [if_neg h2, if_neg (by omega)])
    (by intro m; simp only [l18_1, s18_1, o2, lt0, cond_false])

theorem op18_2 {R : Type} {t : T24} (g : Good t) {i : Nat} (hi : i < t.1.length) (k1 : List Int → Option R) (f : Nat → Int) :
    l18_2 (t.1.getD i []) (List.length (t.1.getD i []) : Int) k1 FUEL 0 (mapR (scen t) f) = k1 (mapR (scen t) fun s => (t.1.getD i []).foldl (minS s) (f s)) := by
  obtain ⟨g1, g2, g3⟩ := g.opt i _ (g.issue hi)
  have e1 : (mapR (scen t) fun s => (t.1.getD i []).foldl (minS s) (f s)) = mapR (scen t) fun s => ((t.1.getD i []).take (t.1.getD i []).length).foldl (minS s) (f s) := by rw [List.take_length]
  rw [e1]
  exact seq_loop (R := R) (S := List Int) (t.1.getD i []).length (fun j => mapR (scen t) fun s => ((t.1.getD i []).take j).foldl (minS s) (f s)) (fun m j x => l18_2 (t.1.getD i []) (List.length (t.1.getD i []) : Int) k1 m j x) k1 (by omega)
    (by
      intro m j hj
      have hx : (t.1.getD i [])[j]? = some (optAt t i (j : Int)) := get_of_lt hj _
      simp only [l18_2, s18_2, lt1 hj, cond_true, idx_nat, hx, Option.bind_some, op18_1 g hi hj, wr1 (j := j) (by omega)]
      congr 1
      refine mapR_congr (fun s _ => ?_)
      rw [List.take_add_one, hx, List.foldl_append]
      rfl)
    (by intro m; simp only [l18_2, s18_2, lt0, cond_false])

theorem op18_3 {R : Type} (n : Nat) (hn : n ≤ 1000) (k1 : List Int → Option R) (f h : Nat → Int) (hf : ∀ s, s < n → 0 ≤ f s ∧ f s ≤ 100000000000000000) (hh : ∀ s, s < n → 0 ≤ h s ∧ h s ≤ 100000000000000000) :
    l18_3 (mapR n h) (List.length (mapR n h) : Int) k1 FUEL 0 (mapR n f) = k1 (mapR n fun s => f s + h s) := by
  have e0 : mapR n f = mapR n (fun s => if s < 0 then f s + h s else f s) := mapR_congr (fun s _ => by simp)
  have e1 : (mapR n fun s => f s + h s) = mapR n (fun s => if s < n then f s + h s else f s) := mapR_congr (fun s hs => by rw [if_pos hs])
  rw [e0, e1]
  exact seq_loop (R := R) (S := List Int) n (fun j => mapR n (fun s => if s < j then f s + h s else f s)) (fun m j x => l18_3 (mapR n h) (List.length (mapR n h) : Int) k1 m j x) k1 (by omega)
    (by
      intro m j hj
      have ho : (mapR n (fun s => if s < j then f s + h s else f s))[j]? = some (f j) := by
        rw [mapR_get hj, if_neg (Nat.lt_irrefl j)]
      have hlen2 : (mapR n (fun s => if s < j then f s + h s else f s)).length = n := mapR_len _ _
      have hlen1 : (mapR n h).length = n := mapR_len _ _
      have w : IntKind.i64.wrap (f j + h j) = f j + h j := by
        have := hf j hj
        have := hh j hj
        exact wrapI (by omega) (by omega)
      simp only [l18_3, s18_3, hlen1, hlen2, lt1 hj, nn, Bool.and_self, cond_true, idx_nat, mapR_get (f := h) hj, Option.bind_some, asrtT, Int.toNat_natCast, ho, w, wr1 (j := j) (by omega)]
      congr 1
      rw [mapR_set]
      refine mapR_congr (fun s hs => ?_)
      by_cases e : s = j
      · subst e; rw [if_pos rfl, if_pos (by omega)]
      · rw [if_neg e]
        by_cases h2 : s < j
        · rw [if_pos h2, if_pos (by omega)]
        · rw [if_neg h2, if_neg (by omega)])
    (by intro m; have hlen1 : (mapR n h).length = n := mapR_len _ _; simp only [l18_3, s18_3, hlen1, lt0, cond_false])

theorem op18_4 {R : Type} {t : T24} (g : Good t) (k1 : List (List Int) → List Int → Option R) :
    l18_4 t.1 (List.length t.1 : Int) k1 FUEL 0 [] (List.replicate (scen t) 0) = k1 (leastL t) (costsL t []) := by
  have := g.s1
  have := g.s2
  have := g.n2
  have e0 : List.replicate (scen t) (0 : Int) = mapR (scen t) (fun s => sumN (partC t [] s) 0) := by
    apply List.ext_getElem?
    intro j
    by_cases hj : j < scen t
    · rw [mapR_get hj, List.getElem?_replicate, if_pos hj]; rfl
    · rw [List.getElem?_eq_none (by simpa using hj), List.getElem?_eq_none (by rw [mapR_len]; omega)]
  rw [e0]
  exact seq_loop (R := R) (S := List (List Int) × List Int) t.1.length (fun j => ((List.range j).map (fun i => mapR (scen t) (lstL (t.1.getD i []))), mapR (scen t) (fun s => sumN (partC t [] s) j))) (fun m j x => l18_4 t.1 (List.length t.1 : Int) k1 m j x.1 x.2) (fun x => k1 x.1 x.2) (by omega)
    (by
      intro m j hj
      obtain ⟨g1, g2, g3⟩ := g.opt j _ (g.issue hj)
      have h0 : (t.1.getD j [])[0]? = some (optAt t j ((0 : Nat) : Int)) := get_of_lt (by omega) _
      have h0' : idx (t.1.getD j []) 0 = some (optAt t j ((0 : Nat) : Int)) := (idx_nat (t.1.getD j []) 0).trans h0
      obtain ⟨q1, q2, q3⟩ := g3 0 _ h0
      have hx : (optAt t j ((0 : Nat) : Int)).1 = mapR (scen t) (fun s => (optAt t j ((0 : Nat) : Int)).1.getD s 0) := by
        apply List.ext_getElem?
        intro s
        by_cases hs : s < scen t
        · rw [mapR_get hs]; exact get_of_lt (by omega) 0
        · rw [List.getElem?_eq_none (by omega), List.getElem?_eq_none (by rw [mapR_len]; omega)]
      have hcl : cloneM (optAt t j ((0 : Nat) : Int)).1 = some (mapR (scen t) (fun s => (optAt t j ((0 : Nat) : Int)).1.getD s 0)) := by
        rw [cloneM_eq (by omega)]; exact congrArg some hx
      have hL : decide (((List.range j).map (fun i => mapR (scen t) (lstL (t.1.getD i [])))).length + List.length (α := List Int) [mapR (scen t) (lstL (t.1.getD j []))] ≤ LIM) = true := by
        refine decide_eq_true ?_
        have : (4294967296 : Nat) = LIM := rfl
        simp only [List.length_map, List.length_range, List.length_singleton]
        omega
      have hm : (mapR (scen t) fun s => (t.1.getD j []).foldl (minS s) ((optAt t j ((0 : Nat) : Int)).1.getD s 0)) = mapR (scen t) (lstL (t.1.getD j [])) := mapR_congr (fun s _ => rfl)
      simp only [l18_4, s18_4, lt1 hj, cond_true, idx_nat, g.issue hj, Option.bind_some, h0', hcl]
      rw [op18_2 g hj]
      simp only [hm, hL, asrtT]
      rw [op18_3 _ (by omega) _ _ _ (fun s hs => by
          have := sumC_bd g (vC_nil t) hs j (by omega)
          omega) (fun s hs => by
          have := lst_bd g hj hs
          omega)]
      simp only [wr1 (j := j) (by omega), List.range_succ, List.map_append, List.map_cons, List.map_nil]
      rfl)
    (by
      intro m
      simp only [l18_4, s18_4, lt0, cond_false])

def pC (t : T24) (c : List Int) (i : Nat) : Bool := inB 0 (((t.1.getD i []).length : Int) - 1) (c.getD i 0)

def chC (t : T24) (c : List Int) : Bool := (List.range c.length).all (pC t c)

def feasB (t : T24) (c : List Int) : Bool := decide (c.length = t.1.length) && (chC t c && decide (overC t c = -1))

def costC (t : T24) (c : List Int) : Int × (Bool × Unit) := bif rightC t && feasB t c then (floorC t c, true, ()) else (0, false, ())

theorem pC_iff {t : T24} {c : List Int} {i : Nat} (h : i < c.length) : pC t c i = true ↔ ∃ k : Nat, c[i]? = some (k : Int) ∧ k < (t.1.getD i []).length := by
  have hk : c[i]? = some (c.getD i 0) := get_of_lt h 0
  simp only [pC, inB, Bool.and_eq_true, decide_eq_true_eq]
  constructor
  · intro ⟨h1, h2⟩
    exact ⟨(c.getD i 0).toNat, by rw [hk]; congr 1; omega, by omega⟩
  · intro ⟨k, h1, h2⟩
    rw [hk] at h1
    have := Option.some.inj h1
    omega

theorem chC_all {t : T24} {c : List Int} : chC t c = true ↔ ∀ i, i < c.length → pC t c i = true := by
  simp only [chC, List.all_eq_true, List.mem_range]

theorem chC_vC {t : T24} {c : List Int} (hc : c.length ≤ t.1.length) : chC t c = true ↔ vC t c := by
  rw [chC_all]
  constructor
  · intro h
    refine ⟨hc, fun i k hk => ?_⟩
    have hi := (List.getElem?_eq_some_iff.1 hk).1
    obtain ⟨n, h1, h2⟩ := (pC_iff hi).1 (h i hi)
    rw [hk] at h1
    have := Option.some.inj h1
    exact ⟨by omega, by omega⟩
  · intro h i hi
    obtain ⟨k0, k1⟩ := h.2 i _ (get_of_lt hi 0)
    exact (pC_iff hi).2 ⟨(c.getD i 0).toNat, by rw [get_of_lt hi 0]; congr 1; omega, k1⟩

theorem vC_take {t : T24} {c : List Int} (hc : c.length ≤ t.1.length) {j : Nat} (h : ∀ i, i < j → pC t c i = true) (hj : j ≤ c.length) : vC t (c.take j) := by
  refine ⟨by rw [List.length_take]; omega, fun i k hk => ?_⟩
  have hi : i < j := by have := (List.getElem?_eq_some_iff.1 hk).1; rw [List.length_take] at this; omega
  rw [List.getElem?_take_of_lt hi] at hk
  obtain ⟨n, h1, h2⟩ := (pC_iff (by omega)).1 (h i hi)
  rw [hk] at h1
  have := Option.some.inj h1
  exact ⟨by omega, by omega⟩

theorem due_nil (t : T24) : List.replicate t.2.1.length (0 : Int) = dueL t [] := by
  unfold dueL
  apply List.ext_getElem?
  intro j
  by_cases hj : j < t.2.1.length
  · rw [mapR_get hj, List.getElem?_replicate, if_pos hj]; rfl
  · rw [List.getElem?_eq_none (by simpa using hj), List.getElem?_eq_none (by rw [mapR_len]; omega)]

theorem m51_eq {t : T24} (g : Good t) (c : List Int) : m51 t c = some (decide (c.length ≤ t.1.length) && chC t c) := by
  unfold m51
  have := g.n2
  by_cases h : c.length ≤ t.1.length
  · rw [decide_eq_false (p := (c.length : Int) > (t.1.length : Int)) (by omega), cond_false, decide_eq_true h, Bool.true_and]
    refine (chk_loop (R := Bool) (S := Unit) c.length (fun _ => ()) (pC t c) (fun m j _ => l51_1 c t (some true) (some false) m j) (some true) (some false) (by omega) ?_ ?_).trans ?_
    · intro m j hj _
      obtain ⟨g1, g2, g3⟩ := g.opt j _ (g.issue (by omega))
      simp only [l51_1, s51_1, lt1 hj, cond_true, idx_nat, get_of_lt hj 0, g.issue (i := j) (by omega), Option.bind_some, m46_eq, wr1 (j := j) (by omega), wrapI (x := (((t.1.getD j []).length : Nat) : Int) - 1) (by omega) (by omega)]
      show (bif (!pC t c j) then some false else l51_1 c t (some true) (some false) m ((j : Int) + 1)) = bif pC t c j then l51_1 c t (some true) (some false) m ((j : Int) + 1) else some false
      cases pC t c j <;> rfl
    · intro _ m; simp only [l51_1, s51_1, lt0, cond_false]
    · by_cases hh : ∀ i, i < c.length → pC t c i = true
      · rw [if_pos hh, chC_all.2 hh]
      · rw [if_neg hh]
        cases h2 : chC t c with
        | true => exact absurd (chC_all.1 h2) hh
        | false => rfl
  · rw [decide_eq_true (p := (c.length : Int) > (t.1.length : Int)) (by omega), cond_true, decide_eq_false h, Bool.false_and]

theorem m28_eq (t : T24) (c : List Int) : m28 t c = some (costC t c) := by
  unfold m28 costC feasB
  rw [m25_eq, Option.bind_some]
  cases hr : rightC t with
  | false => rfl
  | true =>
  have g := good_of hr
  by_cases hN : c.length = t.1.length
  · have e1 : ((List.length c : Int) != (List.length t.1 : Int)) = false := by simp [hN]
    rw [e1, decide_eq_true hN, m51_eq g, decide_eq_true (show c.length ≤ t.1.length by omega)]
    simp only [Bool.not_true, Bool.or_self, beq_self_eq_true, cond_true, Bool.true_and, Option.bind_some, Bool.false_or]
    cases hc : chC t c with
    | false => rfl
    | true =>
    have hv := (chC_vC (by omega)).1 hc
    rw [m52_eq g hv, m53_eq g hv]
    simp only [Bool.not_true, beq_self_eq_true, cond_true, Option.bind_some, Bool.true_and, Bool.false_or]
    by_cases ho : overC t c = -1
    · have e2 : (overC t c != -1) = false := by simp [ho]
      rw [e2, decide_eq_true ho]; rfl
    · have e2 : (overC t c != -1) = true := by simp [ho]
      rw [e2, decide_eq_false ho]; rfl
  · have e1 : ((List.length c : Int) != (List.length t.1 : Int)) = true := by simp; omega
    rw [e1, decide_eq_false hN]
    rfl

theorem step12 {R : Type} {t : T24} (g : Good t) {c : List Int} (hv : vC t c) (hc : c.length < t.1.length) {j : Nat} (hj : j < (t.1.getD c.length []).length) (k1 : List Int → Option R) :
    l17_5 (c.length : Int) 1 (optAt t c.length (j : Int)).1 (List.length (optAt t c.length (j : Int)).1 : Int) (leastL t) k1 FUEL 0 (costsL t c) = k1 (costsL t (c ++ [(j : Int)])) :=
  step_up g hv hc hj (fun m i o => l17_5 (c.length : Int) 1 (optAt t c.length (j : Int)).1 (List.length (optAt t c.length (j : Int)).1 : Int) (leastL t) k1 m i o) k1 (fun m i o => rfl)

theorem m17_eq (t : T24) (c : List Int) : m17 t c = some (costC t c) := by
  unfold m17 costC feasB
  rw [m13_eq, Option.bind_some]
  cases hr : rightC t with
  | false => rfl
  | true =>
  have g := good_of hr
  have := g.s1
  have := g.s2
  have := g.y
  have := g.n2
  by_cases hN : c.length = t.1.length
  · have e1 : ((List.length c : Int) != (List.length t.1 : Int)) = false := by simp [hN]
    have hl : (4294967296 : Nat) = LIM := rfl
    have a1 : (decide (0 ≤ (scen t : Int)) && decide ((scen t : Int) ≤ (scen t : Int)) && decide ((scen t : Int) ≤ (LIM : Int))) = true := by simp; omega
    have a2 : (decide (0 ≤ (List.length t.2.1 : Int)) && decide ((List.length t.2.1 : Int) ≤ (List.length t.2.1 : Int)) && decide ((List.length t.2.1 : Int) ≤ (LIM : Int))) = true := by simp; omega
    rw [e1, decide_eq_true hN, m29_eq]
    simp only [Bool.not_true, Bool.or_self, cond_false, Option.bind_some, a1, a2, asrtT, Int.toNat_natCast, Bool.true_and]
    rw [op12_4 g, due_nil]
    refine (chk_loop (R := Int × (Bool × Unit)) (S := List Int × List Int) c.length (fun j => (costsL t (c.take j), dueL t (c.take j))) (pC t c)
      (fun m j x => l17_6 c (List.length c : Int) t t (leastL t) (fun y31 y32 =>
                (m37 (t, leastL t, y31, y32, ())).bind fun r33 =>
                bif (decide (r33 ≥ 0)) then
                  some (0, false, ())
                else
                  (m38 (t, leastL t, y31, y32, ())).bind fun r34 =>
                  some (r34, true, ())) (
                some (0, false, ())) m j x.1 x.2) (some (bif decide (overC t c = -1) then (floorC t c, true, ()) else (0, false, ()))) (some (0, false, ())) (by omega) ?_ ?_).trans ?_
    · intro m j hj hp
      have hv := vC_take (t := t) (c := c) (by omega) hp (by omega)
      have hji : j < t.1.length := by omega
      obtain ⟨g1, g2, g3⟩ := g.opt j _ (g.issue hji)
      have hx := get_of_lt hj 0
      have hpj : (m30 0 (((t.1.getD j []).length : Int) - 1) [c.getD j 0]) = some (pC t c j) := by
        rw [m30_eq _ _ _ (by simp)]
        simp only [List.all_cons, List.all_nil, Bool.and_true]; rfl
      simp only [l17_6, s17_6, lt1 hj, cond_true, idx_nat, hx, g.issue hji, Option.bind_some, hpj, wrapI (x := (((t.1.getD j []).length : Nat) : Int) - 1) (by omega) (by omega)]
      cases hq : pC t c j with
      | false => rfl
      | true =>
        obtain ⟨k, h1, h2⟩ := (pC_iff hj).1 hq
        have hck : c.getD j 0 = (k : Int) := by rw [hx] at h1; exact Option.some.inj h1
        rw [hck]
        have ho : (t.1.getD j [])[k]? = some (optAt t j (k : Int)) := get_of_lt h2 _
        have ht : c.take (j + 1) = c.take j ++ [(k : Int)] := by rw [List.take_add_one, h1]; rfl
        have hlen : (c.take j).length = j := by rw [List.length_take]; omega
        simp only [Bool.not_true, cond_false, cond_true, idx_nat, ho, Option.bind_some, wr1 (j := j) (by omega), ht]
        have hst := fun (k1 : List Int → Option (Int × (Bool × Unit))) => step12 g hv (by omega) (j := k) (by rw [hlen]; exact h2) k1
        rw [hlen] at hst
        rw [hst]
        have hd0 : decide ((optAt t (c.take j).length (k : Int)).2.1 ≥ 0) = decide ((optAt t j (k : Int)).2.1 ≥ 0) := by rw [hlen]
        cases hd : decide ((optAt t j (k : Int)).2.1 ≥ 0) with
        | true =>
          have hu := due_up g hv (by omega) (j := k) (by rw [hlen]; exact h2) (by rw [hd0, hd])
          rw [hlen] at hu
          obtain ⟨u1, u2, u3⟩ := hu
          obtain ⟨ua, ub⟩ := Bool.and_eq_true_iff.1 u1
          simp only [cond_true, ua, ub, Bool.and_self, asrtT, u2, Option.bind_some, u3]
        | false =>
          have hu := due_same (t := t) (c := c.take j) (j := k) (by rw [hd0, hd])
          simp only [cond_false, hu]
    · intro hp m
      have hv := (chC_vC (by omega)).1 (chC_all.2 hp)
      simp only [l17_6, s17_6, lt0, cond_false, List.take_length]
      rw [m37_eq g, m38_eq g hv]
      simp only [Option.bind_some]
      rcases overG_bd (brk t c) t.2.1.length 0 with h1 | ⟨h1, _, _⟩
      · have h1' : overC t c = -1 := h1
        rw [h1']; rfl
      · have h1' : (0 : Int) ≤ overC t c := h1
        rw [decide_eq_true (p := overC t c ≥ 0) h1', decide_eq_false (p := overC t c = -1) (by omega)]; rfl
    · by_cases hh : ∀ i, i < c.length → pC t c i = true
      · rw [if_pos hh, chC_all.2 hh]; simp only [Bool.true_and]
      · rw [if_neg hh]
        cases h2 : chC t c with
        | true => exact absurd (chC_all.1 h2) hh
        | false => rfl
  · have e1 : ((List.length c : Int) != (List.length t.1 : Int)) = true := by simp; omega
    rw [e1, decide_eq_false hN]
    rfl

def wid (t : T24) (c : List Int) : Nat := (t.1.getD c.length []).length

def foldN {S : Type} (f : Nat → S → S) : Nat → S → S
  | 0, s => s
  | n + 1, s => f n (foldN f n s)

def nd : Nat → Nat
  | 0 => 1
  | r + 1 => 1 + 6 * nd r
abbrev LS := Int × (List Int × Int)

def stopB (t : T24) (c : List Int) (s : LS) : Bool := decide (overC t c ≥ 0) || ((!s.2.1.isEmpty) && decide (floorC t c ≥ s.2.2))

def lookP (t : T24) : Nat → List Int → LS → LS
  | 0, c, s => bif stopB t c s then (s.1 + 1, s.2) else (s.1 + 1, c, floorC t c)
  | r + 1, c, s => bif stopB t c s then (s.1 + 1, s.2) else foldN (fun j s => lookP t r (c ++ [(j : Int)]) s) (wid t c) (s.1 + 1, s.2)

theorem wid_bd {t : T24} (g : Good t) {c : List Int} (h : c.length < t.1.length) : 1 ≤ wid t c ∧ wid t c ≤ 6 := by
  obtain ⟨g1, g2, _⟩ := g.opt _ _ (g.issue h)
  exact ⟨g1, g2⟩

theorem fold_bd {f : Nat → LS → LS} {d : Nat} {s0 : LS} : ∀ w, (∀ j s, j < w → s.1 ≤ (f j s).1 ∧ (f j s).1 ≤ s.1 + d) → s0.1 ≤ (foldN f w s0).1 ∧ (foldN f w s0).1 ≤ s0.1 + (w * d : Nat)
  | 0, _ => by simp [foldN]
  | w + 1, h => by
    obtain ⟨a, b⟩ := fold_bd (f := f) (d := d) (s0 := s0) w (fun j s hj => h j s (by omega))
    obtain ⟨c, e⟩ := h w (foldN f w s0) (by omega)
    simp only [foldN]
    have : (w + 1) * d = w * d + d := Nat.succ_mul w d
    omega

theorem look_bd {t : T24} (g : Good t) : ∀ r (c : List Int) (s : LS), c.length + r = t.1.length → s.1 + 1 ≤ (lookP t r c s).1 ∧ (lookP t r c s).1 ≤ s.1 + nd r
  | 0, c, s, _ => by unfold lookP; cases stopB t c s <;> simp [nd]
  | r + 1, c, s, h => by
    have hp : 1 ≤ nd r := by cases r <;> simp [nd]
    unfold lookP
    cases stopB t c s with
    | true => simp only [cond_true, nd]; omega
    | false =>
      simp only [cond_false, nd]
      have hw := wid_bd g (c := c) (by omega)
      obtain ⟨a, b⟩ := fold_bd (f := fun j s => lookP t r (c ++ [(j : Int)]) s) (d := nd r) (s0 := (s.1 + 1, s.2)) (wid t c) (fun j s hj => by
        have := look_bd g r (c ++ [(j : Int)]) s (by simp; omega)
        exact ⟨by omega, this.2⟩)
      have : wid t c * nd r ≤ 6 * nd r := Nat.mul_le_mul_right _ hw.2
      simp only at a b
      omega

theorem look_at {t : T24} (g : Good t) {r : Nat} {c : List Int} (h : c.length + (r + 1) = t.1.length) (s0 : LS) {j : Nat} (hj : j < wid t c) :
    s0.1 ≤ (foldN (fun j s => lookP t r (c ++ [(j : Int)]) s) j s0).1 ∧ (foldN (fun j s => lookP t r (c ++ [(j : Int)]) s) j s0).1 + nd r ≤ s0.1 + 6 * nd r := by
  have hw := wid_bd g (c := c) (by omega)
  obtain ⟨a, b⟩ := fold_bd (f := fun j s => lookP t r (c ++ [(j : Int)]) s) (d := nd r) (s0 := s0) j (fun j s hj => by
    have := look_bd g r (c ++ [(j : Int)]) s (by simp; omega)
    exact ⟨by omega, this.2⟩)
  have h1 : (j + 1) * nd r ≤ 6 * nd r := Nat.mul_le_mul_right _ (by omega)
  have h2 : (j + 1) * nd r = j * nd r + nd r := Nat.succ_mul j (nd r)
  omega

theorem over_cases (t : T24) (c : List Int) : overC t c = -1 ∨ 0 ≤ overC t c := by
  rcases overG_bd (brk t c) t.2.1.length 0 with h1 | ⟨h1, _, _⟩
  · exact .inl h1
  · exact .inr h1

theorem lim_eq : (4294967296 : Nat) = LIM := rfl

/-- The reference's search. -/
theorem m48N_eq {t : T24} (g : Good t) : ∀ r n (c : List Int) (s : LS), r < n → vC t c → c.length + r = t.1.length → 0 ≤ s.1 → s.1 + nd r ≤ 100000 →
    m48N n c t s.1 s.2.1 s.2.2 = some (((()), ()), ((t, (lookP t r c s).1, (lookP t r c s).2.1, (lookP t r c s).2.2, ()), ())) := by
  intro r
  induction r with
  | zero =>
    intro n c s hn hv hc h0 h1
    obtain ⟨n, rfl⟩ : ∃ a, n = a + 1 := ⟨n - 1, by omega⟩
    have := g.n1
    have := g.n2
    have := lim_eq
    simp only [nd] at h1
    show M48 (m48N n) c t s.1 s.2.1 s.2.2 = _
    unfold M48 lookP stopB
    have w : IntKind.i64.wrap (s.1 + 1) = s.1 + 1 := wrapI (by omega) (by omega)
    have l1 : ((List.length c : Int) == (List.length t.1 : Int)) = true := by simp; omega
    have l2 : decide (List.length (α := Int) c ≤ LIM) = true := decide_eq_true (by omega)
    have l3 : (!(List.isEmpty (α := Int) c)) = true := by cases c with
      | nil => simp at hc; omega
      | cons => rfl
    rw [w, decide_eq_false (p := s.1 + 1 > 100000) (by omega)]
    simp only [beq_self_eq_true, cond_true, m52_eq g hv, m53_eq g hv, Option.bind_some, Bool.false_or, l1, l2, l3, asrtT]
    rcases over_cases t c with ho | ho
    · rw [ho]
      cases he : (!s.2.1.isEmpty) with
      | false => rfl
      | true =>
        have : decide ((-1 : Int) ≥ 0) = false := rfl
        simp only [this, bne_self_eq_false, beq_self_eq_true, Bool.and_self, cond_true, Option.bind_some, Bool.false_or, Bool.true_and]
        cases decide (floorC t c ≥ s.2.2) <;> rfl
    · have e1 : (overC t c != -1) = true := by simp; omega
      rw [e1, decide_eq_true (p := overC t c ≥ 0) ho]
      rfl
  | succ r ih =>
    intro n c s hn hv hc h0 h1
    obtain ⟨n, rfl⟩ : ∃ a, n = a + 1 := ⟨n - 1, by omega⟩
    have := g.n1
    have := g.n2
    have := lim_eq
    simp only [nd] at h1
    have hp : 1 ≤ nd r := by cases r <;> simp [nd]
    show M48 (m48N n) c t s.1 s.2.1 s.2.2 = _
    unfold M48 lookP
    have w : IntKind.i64.wrap (s.1 + 1) = s.1 + 1 := wrapI (by omega) (by omega)
    have l1 : ((List.length c : Int) == (List.length t.1 : Int)) = false := by simp; omega
    rw [w, decide_eq_false (p := s.1 + 1 > 100000) (by omega)]
    simp only [beq_self_eq_true, cond_true, m52_eq g hv, m53_eq g hv, Option.bind_some, Bool.false_or, l1]
    have hloop : l48_1 (m48N n) c (fun y6 y7 y8 y9 => some (((()), ()), ((y6, y7, y8, y9, ()), ()))) FUEL 0 t (s.1 + 1) s.2.1 s.2.2 =
        some (((()), ()), ((t, (foldN (fun j s => lookP t r (c ++ [(j : Int)]) s) (wid t c) (s.1 + 1, s.2)).1, (foldN (fun j s => lookP t r (c ++ [(j : Int)]) s) (wid t c) (s.1 + 1, s.2)).2.1, (foldN (fun j s => lookP t r (c ++ [(j : Int)]) s) (wid t c) (s.1 + 1, s.2)).2.2, ()), ())) := by
      have hw := wid_bd g (c := c) (by omega)
      exact seq_loop (R := F48o.ty) (S := LS) (wid t c) (fun j => foldN (fun j s => lookP t r (c ++ [(j : Int)]) s) j (s.1 + 1, s.2))
        (fun m j x => l48_1 (m48N n) c (fun y6 y7 y8 y9 => some (((()), ()), ((y6, y7, y8, y9, ()), ()))) m j t x.1 x.2.1 x.2.2) (fun x => some (((()), ()), ((t, x.1, x.2.1, x.2.2, ()), ()))) (by omega)
        (by
          intro m j hj
          obtain ⟨b1, b2⟩ := look_at g hc (s.1 + 1, s.2) hj
          simp only at b1 b2
          have l2 : decide (List.length (α := Int) c ≤ LIM) = true := decide_eq_true (by omega)
          have l3 : decide (List.length (α := Int) c + List.length (α := Int) [(j : Int)] ≤ LIM) = true := decide_eq_true (by simp; omega)
          have hi := ih n (c ++ [(j : Int)]) (foldN (fun j s => lookP t r (c ++ [(j : Int)]) s) j (s.1 + 1, s.2)) (by omega) (vC_app hv (by omega) hj) (by simp; omega) (by omega) (by omega)
          have hwid : (t.1.getD c.length []).length = wid t c := rfl
          simp only [l48_1, s48_1, idx_nat, g.issue (i := c.length) (by omega), Option.bind_some, hwid, lt1 hj, cond_true, l2, l3, asrtT, hi, wr1 (j := j) (by omega)]
          rfl)
        (by
          intro m
          have hwid : (t.1.getD c.length []).length = wid t c := rfl
          simp only [l48_1, s48_1, idx_nat, g.issue (i := c.length) (by omega), Option.bind_some, hwid, lt0, cond_false])
    unfold stopB
    rcases over_cases t c with ho | ho
    · rw [ho]
      cases he : (!s.2.1.isEmpty) with
      | false => exact hloop
      | true =>
        have : decide ((-1 : Int) ≥ 0) = false := rfl
        simp only [this, bne_self_eq_false, beq_self_eq_true, Bool.and_self, cond_true, Option.bind_some, Bool.false_or, Bool.true_and]
        cases decide (floorC t c ≥ s.2.2) with
        | false => exact hloop
        | true => rfl
    · have e1 : (overC t c != -1) = true := by simp; omega
      rw [e1, decide_eq_true (p := overC t c ≥ 0) ho]
      rfl

theorem up26 {R : Type} {t : T24} (g : Good t) {c : List Int} (hv : vC t c) (hc : c.length < t.1.length) {j : Nat} (hj : j < wid t c) (k1 : List Int → Option R) :
    l36_1 (c.length : Int) 1 (optAt t c.length (j : Int)).1 (List.length (optAt t c.length (j : Int)).1 : Int) (leastL t) k1 FUEL 0 (costsL t c) = k1 (costsL t (c ++ [(j : Int)])) :=
  step_up g hv hc hj (fun m i o => l36_1 (c.length : Int) 1 (optAt t c.length (j : Int)).1 (List.length (optAt t c.length (j : Int)).1 : Int) (leastL t) k1 m i o) k1 (fun m i o => rfl)

theorem dn26 {R : Type} {t : T24} (g : Good t) {c : List Int} (hv : vC t c) (hc : c.length < t.1.length) {j : Nat} (hj : j < wid t c) (k1 : List Int → Option R) :
    l36_2 (c.length : Int) (-1) (optAt t c.length (j : Int)).1 (List.length (optAt t c.length (j : Int)).1 : Int) (leastL t) k1 FUEL 0 (costsL t (c ++ [(j : Int)])) = k1 (costsL t c) :=
  step_down g hv hc hj (fun m i o => l36_2 (c.length : Int) (-1) (optAt t c.length (j : Int)).1 (List.length (optAt t c.length (j : Int)).1 : Int) (leastL t) k1 m i o) k1 (fun m i o => rfl)

theorem up31 {R : Type} {t : T24} (g : Good t) {c : List Int} (hv : vC t c) (hc : c.length < t.1.length) {j : Nat} (hj : j < wid t c) (k1 : List Int → Option R) :
    l41_1 (c.length : Int) 1 (optAt t c.length (j : Int)).1 (List.length (optAt t c.length (j : Int)).1 : Int) (leastL t) k1 FUEL 0 (costsL t c) = k1 (costsL t (c ++ [(j : Int)])) :=
  step_up g hv hc hj (fun m i o => l41_1 (c.length : Int) 1 (optAt t c.length (j : Int)).1 (List.length (optAt t c.length (j : Int)).1 : Int) (leastL t) k1 m i o) k1 (fun m i o => rfl)

theorem dn31 {R : Type} {t : T24} (g : Good t) {c : List Int} (hv : vC t c) (hc : c.length < t.1.length) {j : Nat} (hj : j < wid t c) (k1 : List Int → Option R) :
    l41_2 (c.length : Int) (-1) (optAt t c.length (j : Int)).1 (List.length (optAt t c.length (j : Int)).1 : Int) (leastL t) k1 FUEL 0 (costsL t (c ++ [(j : Int)])) = k1 (costsL t c) :=
  step_down g hv hc hj (fun m i o => l41_2 (c.length : Int) (-1) (optAt t c.length (j : Int)).1 (List.length (optAt t c.length (j : Int)).1 : Int) (leastL t) k1 m i o) k1 (fun m i o => rfl)

theorem up44 {R : Type} {t : T24} (g : Good t) {c : List Int} (hv : vC t c) (hc : c.length < t.1.length) {j : Nat} (hj : j < wid t c) (k1 : List Int → Option R) :
    l42_1 (c.length : Int) 1 (optAt t c.length (j : Int)).1 (List.length (optAt t c.length (j : Int)).1 : Int) (leastL t) k1 FUEL 0 (costsL t c) = k1 (costsL t (c ++ [(j : Int)])) :=
  step_up g hv hc hj (fun m i o => l42_1 (c.length : Int) 1 (optAt t c.length (j : Int)).1 (List.length (optAt t c.length (j : Int)).1 : Int) (leastL t) k1 m i o) k1 (fun m i o => rfl)

theorem dn44 {R : Type} {t : T24} (g : Good t) {c : List Int} (hv : vC t c) (hc : c.length < t.1.length) {j : Nat} (hj : j < wid t c) (k1 : List Int → Option R) :
    l42_2 (c.length : Int) (-1) (optAt t c.length (j : Int)).1 (List.length (optAt t c.length (j : Int)).1 : Int) (leastL t) k1 FUEL 0 (costsL t (c ++ [(j : Int)])) = k1 (costsL t c) :=
  step_down g hv hc hj (fun m i o => l42_2 (c.length : Int) (-1) (optAt t c.length (j : Int)).1 (List.length (optAt t c.length (j : Int)).1 : Int) (leastL t) k1 m i o) k1 (fun m i o => rfl)

theorem bnd_take (c : List Int) (j : Int) : bounds true (List.length (c ++ [j])) 0 (c.length : Int) = true := by
  simp [bounds]; omega

theorem asrt_go {R : Type} {b : Bool} {k : Option R} (h : b = true) : asrt true (true && b) k = k := by
  subst h; exact asrtT _ _

theorem subl_take (c : List Int) (j : Int) : subl (c ++ [j]) 0 (c.length : Int) = c := by
  simp [subl]

def st26 (t : T24) (c : List Int) (s : LS) : F36o.ty := (((()), ()), (s.1, (), s.2.1, s.2.2, (), t, ((), (), (), (), (), (), (), ()), (t, leastL t, (), (), ()), (), costsL t c, dueL t c, c, ()))

theorem m36N_eq {t : T24} (g : Good t) : ∀ r n (c : List Int) (s : LS), r < n → vC t c → c.length + r = t.1.length → 0 ≤ s.1 → s.1 + nd r ≤ 100000 →
    m36N n s.1 s.2.1 s.2.2 t t (leastL t) c (costsL t c) (dueL t c) = some (st26 t c (lookP t r c s)) := by
  intro r
  induction r with
  | zero =>
    intro n c s hn hv hc h0 h1
    obtain ⟨n, rfl⟩ : ∃ a, n = a + 1 := ⟨n - 1, by omega⟩
    have := g.n1
    have := g.n2
    have := lim_eq
    simp only [nd] at h1
    show M36 (m36N n) s.1 s.2.1 s.2.2 t t (leastL t) c (costsL t c) (dueL t c) = _
    unfold M36 lookP stopB
    have w : IntKind.i64.wrap (s.1 + 1) = s.1 + 1 := wrapI (by omega) (by omega)
    have l1 : ((List.length c : Int) == (List.length t.1 : Int)) = true := by simp; omega
    have l3 : (!(List.isEmpty (α := Int) c)) = true := by cases c with
      | nil => simp at hc; omega
      | cons => rfl
    rw [w, decide_eq_false (p := s.1 + 1 > 100000) (by omega), m37_eq g, m38_eq g hv, cloneM_eq (by omega)]
    simp only [beq_self_eq_true, cond_true, Option.bind_some, Bool.false_or, l1, l3, asrtT]
    rcases over_cases t c with ho | ho
    · rw [ho]
      have : decide ((-1 : Int) ≥ 0) = false := rfl
      simp only [this, beq_self_eq_true, Bool.false_or, Bool.true_and]
      cases he : (!s.2.1.isEmpty) with
      | false => rfl
      | true =>
        simp only [beq_self_eq_true, cond_true, Option.bind_some, Bool.true_and]
        cases decide (floorC t c ≥ s.2.2) <;> rfl
    · rw [decide_eq_true (p := overC t c ≥ 0) ho]
      rfl
  | succ r ih =>
    intro n c s hn hv hc h0 h1
    obtain ⟨n, rfl⟩ : ∃ a, n = a + 1 := ⟨n - 1, by omega⟩
    have := g.n1
    have := g.n2
    have := lim_eq
    simp only [nd] at h1
    have hp : 1 ≤ nd r := by cases r <;> simp [nd]
    have hc' : c.length < t.1.length := by omega
    show M36 (m36N n) s.1 s.2.1 s.2.2 t t (leastL t) c (costsL t c) (dueL t c) = _
    unfold M36 lookP
    have w : IntKind.i64.wrap (s.1 + 1) = s.1 + 1 := wrapI (by omega) (by omega)
    have l1 : ((List.length c : Int) == (List.length t.1 : Int)) = false := by simp; omega
    have hwid : (t.1.getD c.length []).length = wid t c := rfl
    rw [w, decide_eq_false (p := s.1 + 1 > 100000) (by omega), m37_eq g, m38_eq g hv]
    simp only [beq_self_eq_true, cond_true, Option.bind_some, Bool.false_or, l1, idx_nat, g.issue hc', hwid]
    have hloop : l36_3 (m36N n) (c.length : Int) (wid t c : Int) (fun y33 y34 y35 y36 y37 y38 y39 y40 y41 =>
          some (((()), ()), (y33, (), y34, y35, (), y36, ((), (), (), (), (), (), (), ()), (y37, y38, (), (), ()), (), y39, y40, y41, ()))) FUEL 0 (s.1 + 1) s.2.1 s.2.2 t t (leastL t) (costsL t c) (dueL t c) c =
        some (st26 t c (foldN (fun j s => lookP t r (c ++ [(j : Int)]) s) (wid t c) (s.1 + 1, s.2))) := by
      have hw := wid_bd g (c := c) (by omega)
      exact seq_loop (R := F36o.ty) (S := LS) (wid t c) (fun j => foldN (fun j s => lookP t r (c ++ [(j : Int)]) s) j (s.1 + 1, s.2))
        (fun m j x => l36_3 (m36N n) (c.length : Int) (wid t c : Int) (fun y33 y34 y35 y36 y37 y38 y39 y40 y41 =>
          some (((()), ()), (y33, (), y34, y35, (), y36, ((), (), (), (), (), (), (), ()), (y37, y38, (), (), ()), (), y39, y40, y41, ()))) m j x.1 x.2.1 x.2.2 t t (leastL t) (costsL t c) (dueL t c) c) (fun x => some (st26 t c x)) (by omega)
        (by
          intro m j hj
          obtain ⟨b1, b2⟩ := look_at g hc (s.1 + 1, s.2) hj
          simp only at b1 b2
          have l3 : decide (List.length (α := Int) c + List.length (α := Int) [(j : Int)] ≤ LIM) = true := decide_eq_true (by simp; omega)
          have hi := ih n (c ++ [(j : Int)]) (foldN (fun j s => lookP t r (c ++ [(j : Int)]) s) j (s.1 + 1, s.2)) (by omega) (vC_app hv (by omega) hj) (by simp; omega) (by omega) (by omega)
          have ho : (t.1.getD c.length [])[j]? = some (optAt t c.length (j : Int)) := get_of_lt hj _
          simp only [l36_3, s36_3, lt1 hj, cond_true, l3, asrtT, idx_nat, g.issue hc', Option.bind_some, ho, wr1 (j := j) (by omega)]
          rw [up26 g hv hc' hj]
          have hst : ∀ x : LS, (st26 t (c ++ [(j : Int)]) x).2.2.2.2.2.2.2.2.1.1 = t := fun _ => rfl
          cases hd : decide ((optAt t c.length (j : Int)).2.1 ≥ 0) with
          | true =>
            obtain ⟨u1, u2, u3⟩ := due_up g hv hc' hj hd
            obtain ⟨ua, ub⟩ := Bool.and_eq_true_iff.1 u1
            obtain ⟨d1, d2, d3⟩ := due_down g hv hc' hj hd
            obtain ⟨da, db⟩ := Bool.and_eq_true_iff.1 d1
            simp only [cond_true, ua, ub, Bool.and_self, asrtT, u2, Option.bind_some, u3, hi]
            simp only [st26, idx_nat, g.issue hc', Option.bind_some, ho]
            rw [dn26 g hv hc' hj]
            simp only [hd, cond_true, da, db, Bool.and_self, asrtT, d2, Option.bind_some, d3, bnd_take, subl_take]
            exact (asrt_go db).trans ((asrt_go db).trans rfl)
          | false =>
            have u := due_same hd
            simp only [cond_false]
            rw [← u, hi]
            simp only [st26, idx_nat, g.issue hc', Option.bind_some, ho]
            rw [dn26 g hv hc' hj]
            simp only [hd, cond_false, u, bnd_take, subl_take, asrtT]
            rfl)
        (by
          intro m
          simp only [l36_3, s36_3, lt0, cond_false]
          rfl)
    unfold stopB
    rcases over_cases t c with ho | ho
    · rw [ho]
      have : decide ((-1 : Int) ≥ 0) = false := rfl
      simp only [this, beq_self_eq_true, Bool.false_or, Bool.true_and]
      cases he : (!s.2.1.isEmpty) with
      | false => exact hloop
      | true =>
        simp only [beq_self_eq_true, cond_true, Option.bind_some, Bool.true_and]
        cases decide (floorC t c ≥ s.2.2) with
        | false => exact hloop
        | true => rfl
    · rw [decide_eq_true (p := overC t c ≥ 0) ho]
      rfl

def catN {α : Type} (f : Nat → List α) : Nat → List α
  | 0 => []
  | n + 1 => catN f n ++ f n

def bnd (t : T24) (k : Int) : Nat → List Int → List T37
  | 0, c => bif decide (overC t c ≥ 0) then [(c, 0, overC t c, ())] else [(c, floorC t c, -1, ())]
  | r + 1, c => bif decide (overC t c ≥ 0) then [(c, 0, overC t c, ())] else bif decide (floorC t c ≥ k) then [(c, floorC t c, -1, ())] else catN (fun j => bnd t k r (c ++ [(j : Int)])) (wid t c)

theorem cat_len {α : Type} {f : Nat → List α} {d : Nat} : ∀ w, (∀ j, j < w → (f j).length ≤ d) → (catN f w).length ≤ w * d
  | 0, _ => by simp [catN]
  | w + 1, h => by
    have a := cat_len (f := f) (d := d) w (fun j hj => h j (by omega))
    have b := h w (by omega)
    simp only [catN, List.length_append]
    have : (w + 1) * d = w * d + d := Nat.succ_mul w d
    omega

theorem nd_pos (r : Nat) : 1 ≤ nd r := by cases r <;> simp [nd]

theorem bnd_len {t : T24} (g : Good t) (k : Int) : ∀ r (c : List Int), c.length + r = t.1.length → (bnd t k r c).length ≤ nd r
  | 0, c, _ => by unfold bnd; cases decide (overC t c ≥ 0) <;> simp [nd]
  | r + 1, c, h => by
    have hp := nd_pos r
    unfold bnd
    cases decide (overC t c ≥ 0) with
    | true => simp only [cond_true, nd, List.length_singleton]; omega
    | false =>
      cases decide (floorC t c ≥ k) with
      | true => simp only [cond_true, cond_false, nd, List.length_singleton]; omega
      | false =>
        simp only [cond_false, nd]
        have hw := wid_bd g (c := c) (by omega)
        have a := cat_len (f := fun j => bnd t k r (c ++ [(j : Int)])) (d := nd r) (wid t c) (fun j hj => bnd_len g k r (c ++ [(j : Int)]) (by simp; omega))
        have : wid t c * nd r ≤ 6 * nd r := Nat.mul_le_mul_right _ hw.2
        omega

theorem bnd_at {t : T24} (g : Good t) (k : Int) {r : Nat} {c : List Int} (h : c.length + (r + 1) = t.1.length) {j : Nat} (hj : j < wid t c) :
    (catN (fun j => bnd t k r (c ++ [(j : Int)])) j).length + nd r ≤ 6 * nd r := by
  have hw := wid_bd g (c := c) (by omega)
  have a := cat_len (f := fun j => bnd t k r (c ++ [(j : Int)])) (d := nd r) j (fun j hj => bnd_len g k r (c ++ [(j : Int)]) (by simp; omega))
  have h1 : (j + 1) * nd r ≤ 6 * nd r := Nat.mul_le_mul_right _ (by omega)
  have h2 : (j + 1) * nd r = j * nd r + nd r := Nat.succ_mul j (nd r)
  omega

def minK (t : T24) (k : Int) : Prop := ∀ l, vC t l → l.length = t.1.length → overC t l = -1 → k ≤ floorC t l

def st31 (t : T24) (c : List Int) (out : List T37) : F41o.ty := (((), ()), ((t, leastL t, (), (), ()), c, (), costsL t c, dueL t c, out, ()))

theorem m41N_eq {t : T24} (g : Good t) {k : Int} (hk : minK t k) : ∀ r n (c : List Int) (out : List T37), r < n → vC t c → c.length + r = t.1.length → out.length + nd r ≤ 100000 →
    m41N n k t (leastL t) c out (costsL t c) (dueL t c) = some (st31 t c (out ++ bnd t k r c)) := by
  intro r
  induction r with
  | zero =>
    intro n c out hn hv hc h1
    obtain ⟨n, rfl⟩ : ∃ a, n = a + 1 := ⟨n - 1, by omega⟩
    have := g.n1
    have := g.n2
    have := lim_eq
    simp only [nd] at h1
    show M41 (m41N n) k t (leastL t) c out (costsL t c) (dueL t c) = _
    unfold M41 bnd
    have l2 : ∀ x : T37, decide (List.length (α := T37) out + List.length (α := T37) [x] ≤ LIM) = true := fun x => decide_eq_true (by simp; omega)
    rw [m37_eq g, m38_eq g hv, cloneM_eq (by omega)]
    simp only [Option.bind_some, l2, asrtT]
    rcases over_cases t c with ho | ho
    · have hf : decide (floorC t c ≥ k) = true := decide_eq_true (hk c hv (by omega) ho)
      rw [ho, hf]
      rfl
    · rw [decide_eq_true (p := overC t c ≥ 0) ho]
      rfl
  | succ r ih =>
    intro n c out hn hv hc h1
    obtain ⟨n, rfl⟩ : ∃ a, n = a + 1 := ⟨n - 1, by omega⟩
    have := g.n1
    have := g.n2
    have := lim_eq
    simp only [nd] at h1
    have hp := nd_pos r
    have hc' : c.length < t.1.length := by omega
    show M41 (m41N n) k t (leastL t) c out (costsL t c) (dueL t c) = _
    unfold M41 bnd
    have l2 : ∀ x : T37, decide (List.length (α := T37) out + List.length (α := T37) [x] ≤ LIM) = true := fun x => decide_eq_true (by simp; omega)
    have hwid : (t.1.getD c.length []).length = wid t c := rfl
    rw [m37_eq g, m38_eq g hv, cloneM_eq (by omega)]
    simp only [Option.bind_some, l2, asrtT, idx_nat, g.issue hc', hwid]
    have hloop : l41_3 (m41N n) k (c.length : Int) (wid t c : Int) c (fun y33 y34 y35 y36 y37 =>
          some (((), ()), ((y33, y34, (), (), ()), c, (), y35, y36, y37, ()))) FUEL 0 t (leastL t) (costsL t c) (dueL t c) out =
        some (st31 t c (out ++ catN (fun j => bnd t k r (c ++ [(j : Int)])) (wid t c))) := by
      have hw := wid_bd g (c := c) (by omega)
      have h00 : out = out ++ catN (fun j => bnd t k r (c ++ [(j : Int)])) 0 := by simp [catN]
      refine Eq.trans (congrArg (fun o => l41_3 (m41N n) k (c.length : Int) (wid t c : Int) c (fun y33 y34 y35 y36 y37 =>
          some (((), ()), ((y33, y34, (), (), ()), c, (), y35, y36, y37, ()))) FUEL 0 t (leastL t) (costsL t c) (dueL t c) o) h00) ?_
      exact seq_loop (R := F41o.ty) (S := List T37) (wid t c) (fun j => out ++ catN (fun j => bnd t k r (c ++ [(j : Int)])) j)
        (fun m j x => l41_3 (m41N n) k (c.length : Int) (wid t c : Int) c (fun y33 y34 y35 y36 y37 =>
          some (((), ()), ((y33, y34, (), (), ()), c, (), y35, y36, y37, ()))) m j t (leastL t) (costsL t c) (dueL t c) x) (fun x => some (st31 t c x)) (by omega)
        (by
          intro m j hj
          have b1 := bnd_at g k hc hj
          have l3 : decide (List.length (α := Int) c + 1 ≤ LIM) = true := decide_eq_true (by omega)
          have l4 : decide ((List.length (out ++ catN (fun j => bnd t k r (c ++ [(j : Int)])) j) : Int) > 100000) = false := decide_eq_false (by rw [List.length_append]; omega)
          have hi := ih n (c ++ [(j : Int)]) (out ++ catN (fun j => bnd t k r (c ++ [(j : Int)])) j) (by omega) (vC_app hv (by omega) hj) (by simp; omega) (by rw [List.length_append]; omega)
          have ho : (t.1.getD c.length [])[j]? = some (optAt t c.length (j : Int)) := get_of_lt hj _
          have hcat : out ++ catN (fun j => bnd t k r (c ++ [(j : Int)])) (j + 1) = (out ++ catN (fun j => bnd t k r (c ++ [(j : Int)])) j) ++ bnd t k r (c ++ [(j : Int)]) := by simp only [catN, List.append_assoc]
          simp only [l41_3, s41_3, lt1 hj, cond_true, cond_false, l3, l4, asrtT, idx_nat, g.issue hc', Option.bind_some, ho, wr1 (j := j) (by omega)]
          rw [up31 g hv hc' hj, hcat]
          cases hd : decide ((optAt t c.length (j : Int)).2.1 ≥ 0) with
          | true =>
            obtain ⟨u1, u2, u3⟩ := due_up g hv hc' hj hd
            obtain ⟨ua, ub⟩ := Bool.and_eq_true_iff.1 u1
            obtain ⟨d1, d2, d3⟩ := due_down g hv hc' hj hd
            obtain ⟨da, db⟩ := Bool.and_eq_true_iff.1 d1
            simp only [cond_true, ua, ub, Bool.and_self, asrtT, u2, Option.bind_some, u3, hi]
            simp only [st31, idx_nat, g.issue hc', Option.bind_some, ho, decide_true, asrtT]
            rw [dn31 g hv hc' hj]
            simp only [hd, cond_true, da, db, Bool.and_self, asrtT, d2, Option.bind_some, d3]
            exact (asrt_go db).trans ((asrt_go db).trans rfl)
          | false =>
            have u := due_same hd
            simp only [cond_false]
            rw [← u, hi]
            simp only [st31, idx_nat, g.issue hc', Option.bind_some, ho, decide_true, asrtT]
            rw [dn31 g hv hc' hj]
            simp only [hd, cond_false, u])
        (by
          intro m
          simp only [l41_3, s41_3, lt0, cond_false]
          rfl)
    rcases over_cases t c with ho | ho
    · rw [ho]
      have : decide ((-1 : Int) ≥ 0) = false := rfl
      simp only [this, cond_false]
      cases decide (floorC t c ≥ k) with
      | true => rfl
      | false => exact hloop
    · rw [decide_eq_true (p := overC t c ≥ 0) ho]
      rfl

def st33 (out : List T37) : F49o.ty := (((), ()), ((), out, ()))

theorem m49N_eq {t : T24} (g : Good t) {k : Int} : ∀ r n (c : List Int) (out : List T37), r < n → vC t c → c.length + r = t.1.length → out.length + nd r ≤ 100000 →
    m49N n t c k out = some (st33 (out ++ bnd t k r c)) := by
  intro r
  induction r with
  | zero =>
    intro n c out hn hv hc h1
    obtain ⟨n, rfl⟩ : ∃ a, n = a + 1 := ⟨n - 1, by omega⟩
    have := g.n1
    have := g.n2
    have := lim_eq
    simp only [nd] at h1
    show M49 (m49N n) t c k out = _
    unfold M49 bnd
    have l1 : ((List.length c : Int) == (List.length t.1 : Int)) = true := by simp; omega
    have l2 : ∀ x : T37, decide (List.length (α := T37) out + List.length (α := T37) [x] ≤ LIM) = true := fun x => decide_eq_true (by simp; omega)
    have l3 : decide (List.length (α := Int) c ≤ LIM) = true := decide_eq_true (by omega)
    rw [m52_eq g hv, m53_eq g hv]
    simp only [Option.bind_some, l1, l2, l3, asrtT, Bool.or_true, cond_true]
    rcases over_cases t c with ho | ho
    · rw [ho]
      rfl
    · have e1 : (overC t c != -1) = true := by simp; omega
      rw [e1, decide_eq_true (p := overC t c ≥ 0) ho]
      rfl
  | succ r ih =>
    intro n c out hn hv hc h1
    obtain ⟨n, rfl⟩ : ∃ a, n = a + 1 := ⟨n - 1, by omega⟩
    have := g.n1
    have := g.n2
    have := lim_eq
    simp only [nd] at h1
    have hp := nd_pos r
    have hc' : c.length < t.1.length := by omega
    show M49 (m49N n) t c k out = _
    unfold M49 bnd
    have l1 : ((List.length c : Int) == (List.length t.1 : Int)) = false := by simp; omega
    have l2 : ∀ x : T37, decide (List.length (α := T37) out + List.length (α := T37) [x] ≤ LIM) = true := fun x => decide_eq_true (by simp; omega)
    have l3 : decide (List.length (α := Int) c ≤ LIM) = true := decide_eq_true (by omega)
    have hwid : (t.1.getD c.length []).length = wid t c := rfl
    rw [m52_eq g hv, m53_eq g hv]
    simp only [Option.bind_some, l1, l2, l3, asrtT, Bool.or_false]
    have hloop : l49_1 (m49N n) c k t (fun y0 => some (((), ()), ((), y0, ()))) FUEL 0 out =
        some (st33 (out ++ catN (fun j => bnd t k r (c ++ [(j : Int)])) (wid t c))) := by
      have hw := wid_bd g (c := c) (by omega)
      have h00 : out = out ++ catN (fun j => bnd t k r (c ++ [(j : Int)])) 0 := by simp [catN]
      refine Eq.trans (congrArg (fun o => l49_1 (m49N n) c k t (fun y0 => some (((), ()), ((), y0, ()))) FUEL 0 o) h00) ?_
      exact seq_loop (R := F49o.ty) (S := List T37) (wid t c) (fun j => out ++ catN (fun j => bnd t k r (c ++ [(j : Int)])) j)
        (fun m j x => l49_1 (m49N n) c k t (fun y0 => some (((), ()), ((), y0, ()))) m j x) (fun x => some (st33 x)) (by omega)
        (by
          intro m j hj
          have b1 := bnd_at g k hc hj
          have l4 : decide ((List.length (out ++ catN (fun j => bnd t k r (c ++ [(j : Int)])) j) : Int) ≤ 100000) = true := decide_eq_true (by rw [List.length_append]; omega)
          have l5 : decide (List.length (α := Int) c + List.length (α := Int) [(j : Int)] ≤ LIM) = true := decide_eq_true (by simp; omega)
          have hi := ih n (c ++ [(j : Int)]) (out ++ catN (fun j => bnd t k r (c ++ [(j : Int)])) j) (by omega) (vC_app hv (by omega) hj) (by simp; omega) (by rw [List.length_append]; omega)
          have hcat : out ++ catN (fun j => bnd t k r (c ++ [(j : Int)])) (j + 1) = (out ++ catN (fun j => bnd t k r (c ++ [(j : Int)])) j) ++ bnd t k r (c ++ [(j : Int)]) := by simp only [catN, List.append_assoc]
          simp only [l49_1, s49_1, hwid, lt1 hj, cond_true, l3, l4, l5, Bool.and_self, asrtT, idx_nat, g.issue hc', Option.bind_some, wr1 (j := j) (by omega), hi]
          rw [hcat]
          rfl)
        (by
          intro m
          simp only [l49_1, s49_1, hwid, idx_nat, g.issue hc', Option.bind_some, lt0, cond_false, Bool.false_and]
          rfl)
    rcases over_cases t c with ho | ho
    · rw [ho]
      have : decide ((-1 : Int) ≥ 0) = false := rfl
      simp only [this, cond_false, bne_self_eq_false]
      cases decide (floorC t c ≥ k) with
      | true => rfl
      | false => exact hloop
    · have e1 : (overC t c != -1) = true := by simp; omega
      rw [e1, decide_eq_true (p := overC t c ≥ 0) ho]
      rfl

def foldO {S : Type} (f : Nat → S → Option S) : Nat → S → Option S
  | 0, s => some s
  | n + 1, s => (foldO f n s).bind (f n)

def hitB (t : T24) (k : Int) (c : List Int) (b : T37) : Bool :=
  bif b.2.2.1 == -1 then decide (b.2.1 ≤ floorC t c) && decide (b.2.1 ≥ k)
  else inB 0 ((t.2.1.length : Int) - 1) b.2.2.1 && decide (dueS t c b.2.2.1 > t.2.1.getD b.2.2.1.toNat 0)

def cov1 (t : T24) (k : Int) (c : List Int) (next : List T37 → Option (List T37)) : List T37 → Option (List T37)
  | [] => none
  | b :: p => bif decide (b.1 = c) then (bif hitB t k c b then some p else none) else next (b :: p)

def covC (t : T24) (k : Int) : Nat → List Int → List T37 → Option (List T37)
  | 0, c => cov1 t k c fun _ => none
  | r + 1, c => cov1 t k c fun p => foldO (fun j => covC t k r (c ++ [(j : Int)])) (wid t c) p

/-- A loop that may end early, with a state. -/
theorem opt_loop {R S : Type} (n : Nat) (s0 : S) (F : Nat → S → Option S) (f : Nat → Int → S → Option R) (k : S → Option R) (k2 : Option R) (hn : n ≤ 1000000)
    (hs : ∀ m j s, j < n → foldO F j s0 = some s → f (m + 1) (j : Int) s = (match F j s with | some s' => f m ((j : Int) + 1) s' | none => k2))
    (he : ∀ m s, foldO F n s0 = some s → f (m + 1) (n : Int) s = k s) :
    f FUEL 0 s0 = (match foldO F n s0 with | some s => k s | none => k2) := by
  have stop : ∀ i j, foldO F j s0 = none → foldO F (j + i) s0 = none := by
    intro i
    induction i with
    | zero => intro j h; exact h
    | succ i ih => intro j h; show (foldO F (j + i) s0).bind _ = none; rw [ih j h]; rfl
  have key : ∀ (i m j : Nat) (s : S), j + i = n → i < m → foldO F j s0 = some s → f m (j : Int) s = (match foldO F n s0 with | some s => k s | none => k2) := by
    intro i
    induction i with
    | zero =>
      intro m j s hj hm hf
      obtain ⟨m, rfl⟩ : ∃ a, m = a + 1 := ⟨m - 1, by omega⟩
      have : j = n := by omega
      subst this
      rw [he m s hf, hf]
    | succ i ih =>
      intro m j s hj hm hf
      obtain ⟨m, rfl⟩ : ∃ a, m = a + 1 := ⟨m - 1, by omega⟩
      rw [hs m j s (by omega) hf]
      have h1 : foldO F (j + 1) s0 = F j s := by show (foldO F j s0).bind (F j) = _; rw [hf]; rfl
      cases hF : F j s with
      | some s' => exact ih m (j + 1) s' (by omega) (by omega) (h1.trans hF)
      | none =>
        have := stop i (j + 1) (h1.trans hF)
        rw [show j + 1 + i = n by omega] at this
        rw [this]
  exact key n FUEL 0 s0 (by omega) (fuel_lt (by omega)) rfl

/-- What is left is an end of what there was. -/
theorem foldO_suf {f : Nat → List T37 → Option (List T37)} (h : ∀ j p q, f j p = some q → q <:+ p) : ∀ n p q, foldO f n p = some q → q <:+ p
  | 0, p, q, e => by simp only [foldO, Option.some.injEq] at e; subst e; exact List.suffix_refl _
  | n + 1, p, q, e => by
    simp only [foldO] at e
    cases h1 : foldO f n p with
    | none => rw [h1] at e; cases e
    | some x =>
      rw [h1] at e
      exact (h n x q e).trans (foldO_suf h n p x h1)

theorem cov1_suf {t : T24} {k : Int} {c : List Int} {next : List T37 → Option (List T37)} (h : ∀ p q, next p = some q → q <:+ p) {p q : List T37} (e : cov1 t k c next p = some q) : q <:+ p := by
  cases p with
  | nil => cases e
  | cons b p =>
    simp only [cov1] at e
    cases h1 : decide (b.1 = c) with
    | true =>
      rw [h1] at e
      cases h2 : hitB t k c b with
      | true => rw [h2] at e; simp only [cond_true, Option.some.injEq] at e; subst e; exact List.suffix_cons _ _
      | false => rw [h2] at e; cases e
    | false => rw [h1] at e; exact h _ _ e

theorem cov_suf (t : T24) (k : Int) : ∀ r c p q, covC t k r c p = some q → q <:+ p
  | 0, c, p, q, e => cov1_suf (fun _ _ e => by cases e) e
  | r + 1, c, p, q, e => cov1_suf (fun p q e => foldO_suf (fun j p q e => cov_suf t k r _ p q e) _ p q e) e

def st44 (t : T24) (c : List Int) (r : List T37) (b : Bool) : F42o.ty := (((r, b, ()), ()), ((t, leastL t, (), (), ()), costsL t c, dueL t c, ()))

/-- What m42 returns: what is left, if it is covered. -/
def cov44 (t : T24) (c : List Int) (x : Option F42o.ty) (o : Option (List T37)) : Prop :=
  match o with
  | some r => x = some (st44 t c r true)
  | none => ∃ r, x = some (st44 t c r false)

theorem head44 {t : T24} (g : Good t) {k : Int} (mr : (List Int) → Int → (List T37) → T24 → (List (List Int)) → (List Int) → (List Int) → Option F42o.ty) {c : List Int} (hv : vC t c) (next : List T37 → Option (List T37)) (p : List T37)
    (hp : p.length ≤ 1000000) (hc : ∀ b ∈ p, b.1.length ≤ 1000000)
    (hn : p ≠ [] → cov44 t c (bif ((List.length c : Int) == (List.length t.1 : Int)) then some (st44 t c [] false) else (idx t.1 (List.length c : Int)).bind fun x7 =>
        l42_3 mr c k (List.length c : Int) (List.length x7 : Int) (fun y37 y38 y39 y40 y41 =>
            some (((y37, true, ()), ()), ((y38, y39, (), (), ()), y40, y41, ()))) (fun y42 y43 y44 y45 =>
            some ((([], false, ()), ()), ((y42, y43, (), (), ()), y44, y45, ()))) FUEL p 0 t (leastL t) (costsL t c) (dueL t c)) (next p)) :
    cov44 t c (M42 mr c k p t (leastL t) (costsL t c) (dueL t c)) (cov1 t k c next p) := by
  have := g.y
  unfold M42
  cases p with
  | nil => exact ⟨[], rfl⟩
  | cons b p =>
    have e1 : ((List.length (b :: p) : Int) == 0) = false := by simp; omega
    have e2 : idx (b :: p) 0 = some b := by simp [idx]
    have hb := hc b (by simp)
    rw [e1, e2]
    simp only [cond_false, Option.bind_some, m59_eq b.1 c hb, cov1]
    cases h1 : decide (b.1 = c) with
    | false => exact hn (by simp)
    | true =>
      simp only [cond_true]
      have e3 : bounds true (List.length (b :: p)) 1 (List.length (b :: p) : Int) = true := by simp [bounds]; omega
      have e4 : subl (b :: p) 1 (List.length (b :: p) : Int) = p := by simp [subl]
      have e5 : (List.length (dueL t c) : Int) = (t.2.1.length : Int) := by rw [dueL, mapR_len]
      unfold hitB
      rw [e3, e4, e5, m38_eq g hv]
      cases h2 : (b.2.2.1 == -1) with
      | true =>
        simp only [cond_true, asrtT, Option.bind_some]
        cases (decide (b.2.1 ≤ floorC t c) && decide (b.2.1 ≥ k)) with
        | true => rfl
        | false => exact ⟨p, rfl⟩
      | false =>
        have w : IntKind.i64.wrap ((t.2.1.length : Int) - 1) = (t.2.1.length : Int) - 1 := wrapI (by omega) (by omega)
        have e6 : ∀ x, List.all [x] (inB 0 ((t.2.1.length : Int) - 1)) = inB 0 ((t.2.1.length : Int) - 1) x := fun x => by simp
        rw [w, m30_eq _ _ _ (by simp)]
        simp only [cond_false, asrtT, Option.bind_some, e6]
        cases h3 : inB 0 ((t.2.1.length : Int) - 1) b.2.2.1 with
        | false => exact ⟨p, rfl⟩
        | true =>
          simp only [inB, Bool.and_eq_true, decide_eq_true_eq] at h3
          obtain ⟨y, hy⟩ := Int.eq_ofNat_of_zero_le h3.1
          have hy2 : y < t.2.1.length := by omega
          rw [hy]
          have e7 : (decide (0 ≤ (y : Int)) && decide ((y : Int) < (t.2.1.length : Int))) = true := rng hy2
          simp only [beq_self_eq_true, e7, asrtT, cond_true, Int.toNat_natCast, dueL, mapR_get hy2, Option.bind_some, idxG_same true 0 (get_of_lt hy2 0), Bool.true_and]
          cases decide (dueS t c (y : Int) > t.2.1.getD y 0) with
          | true => rfl
          | false => exact ⟨p, rfl⟩

theorem m42N_eq {t : T24} (g : Good t) {k : Int} : ∀ r n (c : List Int) (p : List T37), r < n → vC t c → c.length + r = t.1.length → p.length ≤ 1000000 → (∀ b ∈ p, b.1.length ≤ 1000000) →
    cov44 t c (m42N n c k p t (leastL t) (costsL t c) (dueL t c)) (covC t k r c p) := by
  intro r
  induction r with
  | zero =>
    intro n c p hn hv hc h1 h2
    obtain ⟨n, rfl⟩ : ∃ a, n = a + 1 := ⟨n - 1, by omega⟩
    refine head44 g (m42N n) hv _ p h1 h2 (fun _ => ?_)
    have l1 : ((List.length c : Int) == (List.length t.1 : Int)) = true := by simp; omega
    rw [l1]
    exact ⟨[], rfl⟩
  | succ r ih =>
    intro n c p hn hv hc h1 h2
    obtain ⟨n, rfl⟩ : ∃ a, n = a + 1 := ⟨n - 1, by omega⟩
    have := g.n1
    have := g.n2
    have := lim_eq
    have hc' : c.length < t.1.length := by omega
    refine head44 g (m42N n) hv _ p h1 h2 (fun _ => ?_)
    have l1 : ((List.length c : Int) == (List.length t.1 : Int)) = false := by simp; omega
    have hwid : (t.1.getD c.length []).length = wid t c := rfl
    rw [l1]
    simp only [cond_false, idx_nat, g.issue hc', Option.bind_some, hwid]
    have hw := wid_bd g (c := c) (by omega)
    have hloop := opt_loop (R := F42o.ty) (S := List T37) (wid t c) p (fun j => covC t k r (c ++ [(j : Int)]))
      (fun m j x => l42_3 (m42N n) c k (c.length : Int) (wid t c : Int) (fun y37 y38 y39 y40 y41 =>
            some (((y37, true, ()), ()), ((y38, y39, (), (), ()), y40, y41, ()))) (fun y42 y43 y44 y45 =>
            some ((([], false, ()), ()), ((y42, y43, (), (), ()), y44, y45, ()))) m x j t (leastL t) (costsL t c) (dueL t c)) (fun x => some (st44 t c x true)) (some (st44 t c [] false)) (by omega)
      (by
        intro m j s hj hf
        have hsuf := foldO_suf (fun j p q e => cov_suf t k r _ p q e) _ p s hf
        have l3 : decide (List.length (α := Int) c + List.length (α := Int) [(j : Int)] ≤ LIM) = true := decide_eq_true (by simp; omega)
        have hi := ih n (c ++ [(j : Int)]) s (by omega) (vC_app hv (by omega) hj) (by simp; omega) (by have := hsuf.length_le; omega) (fun b hb => h2 b (hsuf.subset hb))
        have ho : (t.1.getD c.length [])[j]? = some (optAt t c.length (j : Int)) := get_of_lt hj _
        have hcl : cloneM c = some c := cloneM_eq (by omega)
        simp only [l42_3, s42_3, lt1 hj, cond_true, cond_false, idx_nat, g.issue hc', Option.bind_some, ho, wr1 (j := j) (by omega)]
        rw [up44 g hv hc' hj, hcl]
        have fin : ∀ (x : Option F42o.ty) (hx : cov44 t (c ++ [(j : Int)]) x (covC t k r (c ++ [(j : Int)]) s)), ∃ q b, x = some (st44 t (c ++ [(j : Int)]) q b) ∧ covC t k r (c ++ [(j : Int)]) s = (bif b then some q else none) := by
          intro x hx
          unfold cov44 at hx
          cases h : covC t k r (c ++ [(j : Int)]) s with
          | some q => rw [h] at hx; exact ⟨q, true, hx, rfl⟩
          | none => rw [h] at hx; obtain ⟨q, hq⟩ := hx; exact ⟨q, false, hq, rfl⟩
        obtain ⟨q, b, e1, e2⟩ := fin _ hi
        rw [e2]
        cases hd : decide ((optAt t c.length (j : Int)).2.1 ≥ 0) with
        | true =>
          obtain ⟨u1, u2, u3⟩ := due_up g hv hc' hj hd
          obtain ⟨ua, ub⟩ := Bool.and_eq_true_iff.1 u1
          obtain ⟨d1, d2, d3⟩ := due_down g hv hc' hj hd
          obtain ⟨da, db⟩ := Bool.and_eq_true_iff.1 d1
          simp only [cond_true, ua, ub, Bool.and_self, asrtT, u2, Option.bind_some, u3, l3, e1]
          simp only [st44, idx_nat, g.issue hc', Option.bind_some, ho, decide_true, asrtT]
          rw [dn44 g hv hc' hj]
          simp only [hd, cond_true, da, db, Bool.and_self, asrtT, d2, Option.bind_some, d3]
          exact (asrt_go db).trans ((asrt_go db).trans (by cases b <;> rfl))
        | false =>
          have u := due_same hd
          simp only [cond_false, Option.bind_some, l3, asrtT]
          rw [← u, e1]
          simp only [st44, idx_nat, g.issue hc', Option.bind_some, ho, decide_true, asrtT]
          rw [dn44 g hv hc' hj]
          simp only [hd, cond_false, u]
          cases b <;> rfl)
      (by
        intro m s _
        simp only [l42_3, s42_3, lt0, cond_false]
        rfl)
    refine hloop.symm ▸ ?_
    unfold cov44
    cases foldO (fun j => covC t k r (c ++ [(j : Int)])) (wid t c) p with
    | some q => rfl
    | none => exact ⟨[], rfl⟩

/-- The sum of what falls due in a year. -/
theorem due_loop {R : Type} {t : T24} (g : Good t) {c : List Int} (hv : vC t c) (y : Int) (f : Nat → Int → Int → Option R) (k1 : Int → Option R)
    (hf : ∀ m q i, f (m + 1) q i = bif (decide (i < (List.length c : Int))) then
      cont (fun (k11 : Int → Option R) =>
        (idx t.1 i).bind fun x5 =>
        (idx c i).bind fun x6 =>
        (idx x5 x6).bind fun x7 =>
        bif (x7.2.1 == y) then
          (idx t.1 i).bind fun x8 =>
          (idx c i).bind fun x9 =>
          (idx x8 x9).bind fun x10 =>
          k11 (IntKind.i64.wrap (q + x10.2.2.1))
        else
          k11 q) (fun y11 => f m y11 (IntKind.i64.wrap (i + 1)))
      else k1 q) :
    f FUEL 0 0 = k1 (dueS t c y) := by
  have := g.n2
  have := hv.1
  exact seq_loop (R := R) (S := Int) c.length (fun j => sumN (partD t c y) j) (fun m j q => f m q j) k1 (by omega)
    (by
      intro n i hi
      have hk : c[i]? = some (c.getD i 0) := get_of_lt hi 0
      obtain ⟨k0, k1⟩ := hv.2 i _ hk
      have hi' : i < t.1.length := by omega
      obtain ⟨o1, o2, o3, _⟩ := g.at' hi' k1
      have hb := dueS_bd g hv y i (by omega)
      have hp := dueP_bd g hv y i
      have hpd : partD t c y i = bif (optAt t i (c.getD i 0)).2.1 == y then (optAt t i (c.getD i 0)).2.2.1 else 0 := by unfold partD; rw [hk]
      simp only [hf, lt1 hi, cond_true, wr1 (j := i) (by omega)]
      refine (cont_eq (sumN (partD t c y) (i + 1)) fun k => ?_).trans rfl
      simp only [sumN]
      generalize sumN (partD t c y) i = A at hb ⊢
      simp only [idx_nat, g.issue hi', hk, Option.bind_some, idx_pos k0, o1]
      rw [hpd] at hp ⊢
      cases hq : ((optAt t i (c.getD i 0)).2.1 == y) with
      | false => simp only [cond_false, Int.add_zero]
      | true =>
        rw [hq] at hp
        simp only [cond_true] at hp ⊢
        rw [wrapI (by omega) (by omega)])
    (by intro n; simp only [hf, lt0, cond_false])

def num (p : List T37) (o : Option (List T37)) : Int := match o with
  | some q => (p.length : Int) - q.length
  | none => -1

theorem pre_get {c l : List Int} (h : c <+: l) {i : Nat} (hi : i < c.length) : l[i]? = c[i]? := by
  obtain ⟨d, rfl⟩ := h
  exact List.getElem?_append_left hi

theorem sumN_mono {f g : Nat → Int} : ∀ {n : Nat}, (∀ i, i < n → f i ≤ g i) → sumN f n ≤ sumN g n
  | 0, _ => Int.le_refl _
  | n + 1, h => by
    have a := sumN_mono (n := n) (fun i hi => h i (by omega))
    have b := h n (by omega)
    simp only [sumN]; omega

theorem maxN_mono {f g : Nat → Int} : ∀ {n : Nat}, (∀ i, i < n → f i ≤ g i) → maxN f n ≤ maxN g n
  | 0, _ => Int.le_refl _
  | n + 1, h => by
    have a := maxN_mono (n := n) (fun i hi => h i (by omega))
    have b := h n (by omega)
    simp only [maxN]
    by_cases c1 : f n > maxN f n
    · rw [decide_eq_true c1, cond_true]
      by_cases c2 : g n > maxN g n
      · rw [decide_eq_true c2, cond_true]; exact b
      · rw [decide_eq_false c2, cond_false]; omega
    · rw [decide_eq_false c1, cond_false]
      by_cases c2 : g n > maxN g n
      · rw [decide_eq_true c2, cond_true]; omega
      · rw [decide_eq_false c2, cond_false]; exact a

theorem part_mono {t : T24} (g : Good t) {c l : List Int} (h : c <+: l) (hv : vC t l) (hl : l.length = t.1.length) {s i : Nat} (hs : s < scen t) (hi : i < t.1.length) : partC t c s i ≤ partC t l s i := by
  by_cases hc : i < c.length
  · have e := pre_get h hc
    unfold partC
    rw [e]
    exact Int.le_refl _
  · have e0 : c[i]? = none := List.getElem?_eq_none (by omega)
    have e1 : l[i]? = some (l.getD i 0) := get_of_lt (by omega) 0
    obtain ⟨k0, k1⟩ := hv.2 i _ e1
    obtain ⟨_, _, b⟩ := lst_bd g hi hs
    have b2 := b _ k1
    rw [Int.toNat_of_nonneg k0] at b2
    unfold partC
    rw [e0, e1]
    exact b2

theorem floor_mono {t : T24} (g : Good t) {c l : List Int} (h : c <+: l) (hv : vC t l) (hl : l.length = t.1.length) : floorC t c ≤ floorC t l :=
  maxN_mono fun s hs => sumN_mono fun i hi => part_mono g h hv hl hs hi

theorem due_mono {t : T24} (g : Good t) {c l : List Int} (h : c <+: l) (hv : vC t l) (y : Int) : dueS t c y ≤ dueS t l y := by
  have e : dueS t c y = sumN (partD t l y) c.length := sumN_congr fun i hi => by
    have := pre_get h hi
    unfold partD
    rw [this]
  rw [e]
  have hle := h.length_le
  have key : ∀ d, sumN (partD t l y) c.length ≤ sumN (partD t l y) (c.length + d) := by
    intro d
    induction d with
    | zero => exact Int.le_refl _
    | succ d ih =>
      have := (dueP_bd g hv y (c.length + d)).1
      show _ ≤ sumN (partD t l y) (c.length + d) + partD t l y (c.length + d)
      omega
  have := key (l.length - c.length)
  rw [show c.length + (l.length - c.length) = l.length by omega] at this
  exact this

theorem over_none {t : T24} {c : List Int} : overC t c = -1 ↔ ∀ y, y < t.2.1.length → dueS t c (y : Int) ≤ t.2.1.getD y 0 := by
  unfold overC
  rw [overG_none]
  constructor
  · intro h y hy
    have := h y (by omega) (by omega)
    simp only [brk, decide_eq_false_iff_not] at this
    omega
  · intro h y _ hy
    have := h y (by omega)
    simp only [brk, decide_eq_false_iff_not]
    omega

theorem over_mono {t : T24} (g : Good t) {c l : List Int} (h : c <+: l) (hv : vC t l) (ho : overC t l = -1) : overC t c = -1 :=
  over_none.2 fun y hy => Int.le_trans (due_mono g h hv _) (over_none.1 ho y hy)

/-- A whole choice that breaks no cap. -/
def feas (t : T24) (l : List Int) : Prop := vC t l ∧ l.length = t.1.length ∧ overC t l = -1

theorem vC_pre {t : T24} {c l : List Int} (h : c <+: l) (hv : vC t l) : vC t c := by
  refine ⟨Nat.le_trans h.length_le hv.1, fun i k hk => ?_⟩
  have hi := (List.getElem?_eq_some_iff.1 hk).1
  exact hv.2 i k ((pre_get h hi).trans hk)

theorem pre_next {t : T24} {c l : List Int} (h : c <+: l) (hv : vC t l) (hl : l.length = t.1.length) (hc : c.length < t.1.length) : ∃ j : Nat, j < wid t c ∧ c ++ [(j : Int)] <+: l := by
  have e1 : l[c.length]? = some (l.getD c.length 0) := get_of_lt (by omega) 0
  obtain ⟨k0, k1⟩ := hv.2 _ _ e1
  refine ⟨(l.getD c.length 0).toNat, k1, ?_⟩
  rw [Int.toNat_of_nonneg k0]
  obtain ⟨d, rfl⟩ := h
  cases d with
  | nil => simp at hl; omega
  | cons x d =>
    refine ⟨d, ?_⟩
    simp

def lessL : List Int → List Int → Bool
  | a :: x, b :: y => bif a != b then decide (a < b) else lessL x y
  | _, _ => false

theorem less_app : ∀ (c : List Int) (x y : List Int), lessL (c ++ x) (c ++ y) = lessL x y
  | [], x, y => rfl
  | a :: c, x, y => by
    have := less_app c x y
    simp only [List.cons_append, lessL, bne_self_eq_false, cond_false, this]

theorem less_self (c : List Int) : lessL c c = false := by
  have h := less_app c [] []
  rw [List.append_nil] at h
  exact h

theorem less_sib {c l b : List Int} {i j : Nat} (h : i < j) (hb : c ++ [(i : Int)] <+: b) (hl : c ++ [(j : Int)] <+: l) : lessL l b = false ∧ lessL b l = true := by
  obtain ⟨x, rfl⟩ := hb
  obtain ⟨y, rfl⟩ := hl
  have e1 : ((j : Int) != (i : Int)) = true := by simp; omega
  have e2 : ((i : Int) != (j : Int)) = true := by simp; omega
  simp only [List.append_assoc, less_app, List.cons_append, List.nil_append, lessL, e1, e2, cond_true]
  exact ⟨decide_eq_false (by omega), decide_eq_true (by omega)⟩

def Found (t : T24) (P : List Int → Prop) (s s' : List Int × Int) : Prop :=
  (s' = s ∧ ∀ l, feas t l → P l → s.1 ≠ [] ∧ s.2 ≤ floorC t l) ∨
  (feas t s'.1 ∧ P s'.1 ∧ s'.2 = floorC t s'.1 ∧ (s.1 ≠ [] → s'.2 < s.2) ∧ ∀ l, feas t l → P l → s'.2 < floorC t l ∨ (s'.2 = floorC t l ∧ lessL l s'.1 = false))

theorem feas_ne {t : T24} (g : Good t) {l : List Int} (h : feas t l) : l ≠ [] := by
  rintro rfl
  have := h.2.1
  have := g.n1
  simp at *
  omega

theorem Found.seq {t : T24} (g : Good t) {P Q : List Int → Prop} {s s1 s2 : List Int × Int} (h1 : Found t P s s1) (h2 : Found t Q s1 s2) (hx : ∀ l b, P b → Q l → lessL l b = false) : Found t (fun l => P l ∨ Q l) s s2 := by
  rcases h1 with ⟨e1, a1⟩ | ⟨a1, b1, c1, d1, f1⟩
  · subst e1
    rcases h2 with ⟨e2, a2⟩ | ⟨a2, b2, c2, d2, f2⟩
    · exact .inl ⟨e2, fun l hl hp => hp.elim (a1 l hl) (a2 l hl)⟩
    · refine .inr ⟨a2, .inr b2, c2, d2, fun l hl hp => ?_⟩
      rcases hp with hp | hp
      · obtain ⟨q1, q2⟩ := a1 l hl hp
        have := d2 q1
        exact .inl (by omega)
      · exact f2 l hl hp
  · have hne := feas_ne g a1
    rcases h2 with ⟨e2, a2⟩ | ⟨a2, b2, c2, d2, f2⟩
    · subst e2
      refine .inr ⟨a1, .inl b1, c1, d1, fun l hl hp => ?_⟩
      rcases hp with hp | hp
      · exact f1 l hl hp
      · obtain ⟨q1, q2⟩ := a2 l hl hp
        by_cases e : s2.2 = floorC t l
        · exact .inr ⟨e, hx l _ b1 hp⟩
        · exact .inl (by omega)
    · have d3 := d2 hne
      refine .inr ⟨a2, .inr b2, c2, fun h => by have := d1 h; omega, fun l hl hp => ?_⟩
      rcases hp with hp | hp
      · rcases f1 l hl hp with q | ⟨q, _⟩ <;> exact .inl (by omega)
      · exact f2 l hl hp

theorem Found.congr {t : T24} {P Q : List Int → Prop} {s s' : List Int × Int} (h : Found t P s s') (hq : ∀ l, feas t l → (P l ↔ Q l)) : Found t Q s s' := by
  rcases h with ⟨e1, a1⟩ | ⟨a1, b1, c1, d1, f1⟩
  · exact .inl ⟨e1, fun l hl hp => a1 l hl ((hq l hl).2 hp)⟩
  · exact .inr ⟨a1, (hq _ a1).1 b1, c1, d1, fun l hl hp => f1 l hl ((hq l hl).2 hp)⟩

theorem stop_found {t : T24} (g : Good t) {c : List Int} {s : LS} (h : stopB t c s = true) : Found t (c <+: ·) s.2 s.2 := by
  refine .inl ⟨rfl, fun l hl hp => ?_⟩
  simp only [stopB, Bool.or_eq_true, Bool.and_eq_true, Bool.not_eq_true', decide_eq_true_eq] at h
  have ho := over_mono g hp hl.1 hl.2.2
  have hf := floor_mono g hp hl.1 hl.2.1
  rcases h with h | ⟨h1, h2⟩
  · omega
  · refine ⟨fun e => ?_, by omega⟩
    rw [e] at h1
    cases h1

theorem look_found {t : T24} (g : Good t) : ∀ r (c : List Int) (s : LS), vC t c → c.length + r = t.1.length → Found t (c <+: ·) s.2 (lookP t r c s).2
  | 0, c, s, hv, hc => by
    unfold lookP
    cases h : stopB t c s with
    | true => exact stop_found g h
    | false =>
      simp only [stopB, Bool.or_eq_false_iff, Bool.and_eq_false_iff, Bool.not_eq_false', decide_eq_false_iff_not] at h
      obtain ⟨h1, h2⟩ := h
      have ho : overC t c = -1 := by rcases over_cases t c with h | h <;> omega
      have hcl : c.length = t.1.length := by omega
      refine .inr ⟨⟨hv, hcl, ho⟩, List.prefix_refl _, rfl, fun hs => ?_, fun l hl hp => ?_⟩
      · rcases h2 with h2 | h2
        · exact absurd (List.isEmpty_iff.1 h2) hs
        · show floorC t c < _
          omega
      · have : c = l := hp.eq_of_length (by have := hl.2.1; omega)
        subst this
        exact .inr ⟨rfl, less_self _⟩
  | r + 1, c, s, hv, hc => by
    unfold lookP
    cases h : stopB t c s with
    | true => exact stop_found g h
    | false =>
      have hc' : c.length < t.1.length := by omega
      have key : ∀ j, j ≤ wid t c → Found t (fun l => ∃ i : Nat, i < j ∧ c ++ [(i : Int)] <+: l) s.2 (foldN (fun j s => lookP t r (c ++ [(j : Int)]) s) j (s.1 + 1, s.2)).2 := by
        intro j
        induction j with
        | zero => intro _; exact .inl ⟨rfl, fun l _ ⟨i, hi, _⟩ => absurd hi (Nat.not_lt_zero i)⟩
        | succ j ih =>
          intro hj
          have a := ih (by omega)
          have b := look_found g r (c ++ [(j : Int)]) (foldN (fun j s => lookP t r (c ++ [(j : Int)]) s) j (s.1 + 1, s.2)) (vC_app hv hc' (by exact hj)) (by simp; omega)
          refine (Found.seq g a b ?_).congr fun l hl => ?_
          · rintro l b ⟨i, hi, hb⟩ hl
            exact (less_sib hi hb hl).1
          · constructor
            · rintro (⟨i, hi, hp⟩ | hp)
              · exact ⟨i, by omega, hp⟩
              · exact ⟨j, by omega, hp⟩
            · rintro ⟨i, hi, hp⟩
              by_cases e : i = j
              · subst e; exact .inr hp
              · exact .inl ⟨i, by omega, hp⟩
      refine (key (wid t c) (Nat.le_refl _)).congr fun l hl => ?_
      constructor
      · rintro ⟨i, hi, hp⟩
        exact (List.prefix_append _ _).trans hp
      · intro hp
        exact pre_next hp hl.1 hl.2.1 hc'

def srch (t : T24) : List Int × Int := (lookP t t.1.length [] (0, [], 0)).2

theorem srch_found {t : T24} (g : Good t) : Found t (fun _ => True) ([], 0) (srch t) :=
  (look_found g t.1.length [] (0, [], 0) (vC_nil t) (by simp)).congr fun l _ => ⟨fun _ => trivial, fun _ => List.nil_prefix⟩

/-- Either no choice is feasible, and nothing is found, or the first of the cheapest is. -/
theorem srch_spec {t : T24} (g : Good t) : ((srch t).1 = [] ∧ (srch t).2 = 0 ∧ ∀ l, ¬ feas t l) ∨
    (feas t (srch t).1 ∧ (srch t).2 = floorC t (srch t).1 ∧ ∀ l, feas t l → (srch t).2 < floorC t l ∨ ((srch t).2 = floorC t l ∧ lessL l (srch t).1 = false)) := by
  rcases srch_found g with ⟨e1, a1⟩ | ⟨a1, b1, c1, d1, f1⟩
  · rw [e1]
    exact .inl ⟨rfl, rfl, fun l hl => (a1 l hl trivial).1 rfl⟩
  · exact .inr ⟨a1, c1, fun l hl => f1 l hl trivial⟩

theorem srch_min {t : T24} (g : Good t) (h : (srch t).1 ≠ []) : minK t (srch t).2 := by
  intro l hv hl ho
  rcases srch_spec g with ⟨e, _, _⟩ | ⟨_, _, f⟩
  · exact absurd e h
  · rcases f l ⟨hv, hl, ho⟩ with q | ⟨q, _⟩ <;> omega

theorem nd_le {r : Nat} (h : r ≤ 5) : nd r ≤ 9331 := by
  have key : ∀ r, r < 6 → nd r ≤ 9331 := by decide
  exact key r (by omega)

def bestC (t : T24) : List Int × (Int × (List T37 × (Int × Unit))) :=
  bif rightC t then (bif (srch t).1.isEmpty then ([], 0, [], 4, ()) else ((srch t).1, (srch t).2, bnd t (srch t).2 t.1.length [], 0, ())) else ([], 0, [], 1, ())

theorem bnd_srch {t : T24} (g : Good t) (h5 : t.1.length ≤ 5) (k : Int) : (bnd t k t.1.length []).length ≤ 9331 :=
  Nat.le_trans (bnd_len g k t.1.length [] (by simp)) (nd_le h5)

theorem m15_eq (t : T24) (h5 : t.1.length ≤ 5) : m15 t = some (bestC t) := by
  unfold m15 bestC
  rw [m13_eq, Option.bind_some]
  cases hr : rightC t with
  | false => rfl
  | true =>
  have g := good_of hr
  have := g.s1
  have := g.s2
  have := g.y
  have := g.n2
  have hl : (4294967296 : Nat) = LIM := rfl
  have a1 : (decide (0 ≤ (scen t : Int)) && decide ((scen t : Int) ≤ (scen t : Int)) && decide ((scen t : Int) ≤ (LIM : Int))) = true := by simp; omega
  have a2 : (decide (0 ≤ (List.length t.2.1 : Int)) && decide ((List.length t.2.1 : Int) ≤ (List.length t.2.1 : Int)) && decide ((List.length t.2.1 : Int) ≤ (LIM : Int))) = true := by simp; omega
  have hnd := nd_le h5
  rw [m29_eq]
  simp only [Bool.not_true, cond_false, cond_true, Option.bind_some, a1, a2, asrtT, Int.toNat_natCast]
  rw [op10_4 g, due_nil]
  have h26 : m36 0 [] 0 t t (leastL t) [] (costsL t []) (dueL t []) = some (st26 t [] (lookP t t.1.length [] (0, [], 0))) :=
    m36N_eq g t.1.length FUEL [] (0, [], 0) (fuel_lt (by omega)) (vC_nil t) (by simp) (Int.le_refl 0) (by simp only; omega)
  have hb := (look_bd g t.1.length [] (0, [], 0) (by simp)).2
  simp only at hb
  rw [h26]
  simp only [Option.bind_some, st26]
  rw [decide_eq_false (p := (lookP t t.1.length [] (0, [], 0)).1 > 100000) (by omega)]
  simp only [cond_false]
  have e : (lookP t t.1.length [] (0, [], 0)).2 = srch t := rfl
  rw [e]
  cases he : (srch t).1.isEmpty with
  | true => rfl
  | false =>
    have hne : (srch t).1 ≠ [] := fun h => by rw [h] at he; cases he
    have h31 : m41 (srch t).2 t (leastL t) [] [] (costsL t []) (dueL t []) = some (st31 t [] ([] ++ bnd t (srch t).2 t.1.length [])) :=
      m41N_eq g (srch_min g hne) t.1.length FUEL [] [] (fuel_lt (by omega)) (vC_nil t) (by simp) (by simp; omega)
    have hlen := bnd_srch g h5 (srch t).2
    simp only [cond_false, h31, Option.bind_some, st31, List.nil_append]
    rw [decide_eq_false (p := (List.length (bnd t (srch t).2 t.1.length []) : Int) > 100000) (by omega)]
    rfl

def st32 (t : T24) (s : LS) : F48o.ty := (((()), ()), ((t, s.1, s.2.1, s.2.2, ()), ()))

theorem m26_eq (t : T24) (h5 : t.1.length ≤ 5) : m26 t = some (bestC t) := by
  unfold m26 bestC
  rw [m25_eq, Option.bind_some]
  cases hr : rightC t with
  | false => rfl
  | true =>
  have g := good_of hr
  have := g.n2
  have hnd := nd_le h5
  have h32 : m48 [] t 0 [] 0 = some (st32 t (lookP t t.1.length [] (0, [], 0))) :=
    m48N_eq g t.1.length FUEL [] (0, [], 0) (fuel_lt (by omega)) (vC_nil t) (by simp) (Int.le_refl 0) (by simp only; omega)
  have hb := (look_bd g t.1.length [] (0, [], 0) (by simp)).2
  simp only at hb
  rw [h32]
  simp only [Bool.not_true, cond_false, cond_true, Option.bind_some, st32]
  rw [decide_eq_false (p := (lookP t t.1.length [] (0, [], 0)).1 > 100000) (by omega)]
  simp only [cond_false]
  have e : (lookP t t.1.length [] (0, [], 0)).2 = srch t := rfl
  rw [e]
  cases he : (srch t).1.isEmpty with
  | true => rfl
  | false =>
    have h33 : m49 t [] (srch t).2 [] = some (st33 ([] ++ bnd t (srch t).2 t.1.length [])) :=
      m49N_eq g t.1.length FUEL [] [] (fuel_lt (by omega)) (vC_nil t) (by simp) (by simp; omega)
    have hlen := bnd_srch g h5 (srch t).2
    simp only [cond_false, h33, Option.bind_some, st33, List.nil_append]
    rw [decide_eq_false (p := (List.length (bnd t (srch t).2 t.1.length []) : Int) > 100000) (by omega)]
    rfl

/-- Whether a proof covers the empty choice, and nothing is left. -/
def covB (t : T24) (k : Int) (p : List T37) : Bool := match covC t k t.1.length [] p with
  | some [] => true
  | _ => false

def checkC (t : T24) (a : List Int) (k : Int) (p : List T37) : Int :=
  bif rightC t then (bif ((!(costC t a).2.1) || ((costC t a).1 != k)) then 24 else bif covB t k p then 0 else 24) else 1

theorem m18_eq (t : T24) (a : List Int) (k : Int) (p : List T37) (hp : p.length ≤ 1000000) (hc : ∀ b ∈ p, b.1.length ≤ 1000000) : m18 t a k p = some (checkC t a k p) := by
  unfold m18 checkC
  rw [m13_eq, Option.bind_some]
  cases hr : rightC t with
  | false => rfl
  | true =>
  have g := good_of hr
  have := g.s1
  have := g.s2
  have := g.y
  have := g.n2
  have hl : (4294967296 : Nat) = LIM := rfl
  have a1 : (decide (0 ≤ (scen t : Int)) && decide ((scen t : Int) ≤ (scen t : Int)) && decide ((scen t : Int) ≤ (LIM : Int))) = true := by simp; omega
  have a2 : (decide (0 ≤ (List.length t.2.1 : Int)) && decide ((List.length t.2.1 : Int) ≤ (List.length t.2.1 : Int)) && decide ((List.length t.2.1 : Int) ≤ (LIM : Int))) = true := by simp; omega
  simp only [Bool.not_true, cond_false, cond_true, m17_eq, Option.bind_some]
  cases h1 : ((!(costC t a).2.1) || ((costC t a).1 != k)) with
  | true => rfl
  | false =>
    rw [m29_eq]
    simp only [cond_false, Option.bind_some, a1, a2, asrtT, Int.toNat_natCast]
    rw [op18_4 g, due_nil]
    have h44 := m42N_eq g (k := k) t.1.length FUEL [] p (fuel_lt (by omega)) (vC_nil t) (by simp) hp hc
    have e44 : m42 [] k p t (leastL t) (costsL t []) (dueL t []) = m42N FUEL [] k p t (leastL t) (costsL t []) (dueL t []) := rfl
    rw [e44]
    unfold cov44 at h44
    unfold covB
    cases hcv : covC t k t.1.length [] p with
    | none =>
      rw [hcv] at h44
      obtain ⟨r, h44⟩ := h44
      rw [h44]
      rfl
    | some q =>
      rw [hcv] at h44
      rw [h44]
      cases q with
      | nil => rfl
      | cons b q =>
        simp only [st44, Option.bind_some, Bool.not_true, Bool.false_or]
        rw [decide_eq_true (p := ((List.length (b :: q) : Int) > 0)) (by simp only [List.length_cons]; omega)]
        rfl

theorem bnd_pre (t : T24) (k : Int) : ∀ r c b, b ∈ bnd t k r c → c <+: b.1
  | 0, c, b, h => by
    unfold bnd at h
    cases h1 : decide (overC t c ≥ 0) <;> rw [h1] at h <;> simp only [cond_true, cond_false, List.mem_singleton] at h <;> subst h <;> exact List.prefix_refl _
  | r + 1, c, b, h => by
    unfold bnd at h
    cases h1 : decide (overC t c ≥ 0) with
    | true => rw [h1] at h; simp only [cond_true, List.mem_singleton] at h; subst h; exact List.prefix_refl _
    | false =>
      rw [h1] at h
      cases h2 : decide (floorC t c ≥ k) with
      | true => rw [h2] at h; simp only [cond_true, cond_false, List.mem_singleton] at h; subst h; exact List.prefix_refl _
      | false =>
        rw [h2] at h
        simp only [cond_false] at h
        have key : ∀ w, b ∈ catN (fun j => bnd t k r (c ++ [(j : Int)])) w → c <+: b.1 := by
          intro w
          induction w with
          | zero => intro h; cases h
          | succ w ih =>
            intro h
            rcases List.mem_append.1 h with h | h
            · exact ih h
            · exact (List.prefix_append _ _).trans (bnd_pre t k r _ b h)
        exact key _ h

theorem bnd_ne {t : T24} (g : Good t) (k : Int) : ∀ r c, c.length + r = t.1.length → bnd t k r c ≠ []
  | 0, c, _ => by unfold bnd; cases decide (overC t c ≥ 0) <;> simp
  | r + 1, c, hc => by
    unfold bnd
    cases decide (overC t c ≥ 0) with
    | true => simp
    | false =>
      cases decide (floorC t c ≥ k) with
      | true => simp
      | false =>
        simp only [cond_false]
        have hw := wid_bd g (c := c) (by omega)
        obtain ⟨w, e⟩ : ∃ w, wid t c = w + 1 := ⟨wid t c - 1, by omega⟩
        rw [e]
        simp only [catN]
        intro h
        exact bnd_ne g k r (c ++ [(w : Int)]) (by simp; omega) (List.append_eq_nil_iff.1 h).2

theorem cov1_leaf {t : T24} {k : Int} {c : List Int} (next : List T37 → Option (List T37)) {b : T37} (q : List T37) (h1 : b.1 = c) (h2 : hitB t k c b = true) : cov1 t k c next (b :: q) = some q := by
  simp only [cov1, decide_eq_true h1, h2, cond_true]

theorem hit_over {t : T24} {k : Int} {c : List Int} (h : decide (overC t c ≥ 0) = true) : hitB t k c (c, 0, overC t c, ()) = true := by
  have h := of_decide_eq_true h
  rcases overG_bd (brk t c) t.2.1.length 0 with h1 | ⟨h1, h2, h3⟩
  · have : overC t c = -1 := h1
    omega
  · have h2' : overC t c < ((0 + t.2.1.length : Nat) : Int) := h2
    have h3' : brk t c (overC t c).toNat = true := h3
    unfold hitB
    have e : (overC t c == -1) = false := by simp; omega
    simp only [e, cond_false, Bool.and_eq_true]
    simp only [brk] at h3'
    rw [Int.toNat_of_nonneg h] at h3'
    refine ⟨?_, h3'⟩
    simp only [inB, Bool.and_eq_true, decide_eq_true_eq]
    omega

theorem hit_floor {t : T24} {k : Int} {c : List Int} (h : k ≤ floorC t c) : hitB t k c (c, floorC t c, -1, ()) = true := by
  unfold hitB
  simp [h]

theorem cov_bnd {t : T24} (g : Good t) {k : Int} (hk : minK t k) : ∀ r (c : List Int) (q : List T37), vC t c → c.length + r = t.1.length → covC t k r c (bnd t k r c ++ q) = some q
  | 0, c, q, hv, hc => by
    unfold covC bnd
    cases h1 : decide (overC t c ≥ 0) with
    | true => exact cov1_leaf _ q rfl (hit_over h1)
    | false =>
      have ho : overC t c = -1 := by have := of_decide_eq_false h1; rcases over_cases t c with h | h <;> omega
      exact cov1_leaf _ q rfl (hit_floor (hk c hv (by omega) ho))
  | r + 1, c, q, hv, hc => by
    unfold covC bnd
    cases h1 : decide (overC t c ≥ 0) with
    | true => exact cov1_leaf _ q rfl (hit_over h1)
    | false =>
      cases h2 : decide (floorC t c ≥ k) with
      | true => exact cov1_leaf _ q rfl (hit_floor (of_decide_eq_true h2))
      | false =>
        have hc' : c.length < t.1.length := by omega
        simp only [cond_false]
        have hw := wid_bd g hc'
        have key : ∀ w, w ≤ wid t c → ∀ q, foldO (fun j => covC t k r (c ++ [(j : Int)])) w (catN (fun j => bnd t k r (c ++ [(j : Int)])) w ++ q) = some q := by
          intro w
          induction w with
          | zero => intro _ q; rfl
          | succ w ih =>
            intro hw q
            simp only [catN, foldO, List.append_assoc]
            rw [ih (by omega)]
            exact cov_bnd g hk r (c ++ [(w : Int)]) q (vC_app hv hc' hw) (by simp; omega)
        have hcat := key (wid t c) (Nat.le_refl _) q
        generalize hp : catN (fun j => bnd t k r (c ++ [(j : Int)])) (wid t c) ++ q = p at hcat ⊢
        cases p with
        | nil =>
          -- the first child has a bound
          exfalso
          have hne : ∀ w, 1 ≤ w → catN (fun j => bnd t k r (c ++ [(j : Int)])) w ≠ [] := by
            intro w
            induction w with
            | zero => intro h; omega
            | succ w ih =>
              intro _ h
              simp only [catN, List.append_eq_nil_iff] at h
              by_cases e : w = 0
              · subst e; exact bnd_ne g k r _ (by simp; omega) h.2
              · exact ih (by omega) h.1
          exact hne _ hw.1 (List.append_eq_nil_iff.1 hp).1
        | cons b p =>
          have hb : ¬ (b.1 = c) := by
            have hlen : c.length < b.1.length := by
              have : ∀ w, 1 ≤ w → ∃ x y, catN (fun j => bnd t k r (c ++ [(j : Int)])) w = x :: y ∧ c.length < x.1.length := by
                intro w
                induction w with
                | zero => intro h; omega
                | succ w ih =>
                  intro _
                  by_cases e : w = 0
                  · subst e
                    cases hx : bnd t k r (c ++ [((0 : Nat) : Int)]) with
                    | nil => exact absurd hx (bnd_ne g k r _ (by simp; omega))
                    | cons x y =>
                      refine ⟨x, y, by simp only [catN, List.nil_append]; exact hx, ?_⟩
                      have := (bnd_pre t k r (c ++ [((0 : Nat) : Int)]) x (by rw [hx]; simp)).length_le
                      simp at this; omega
                  · obtain ⟨x, y, e1, e2⟩ := ih (by omega)
                    refine ⟨x, y ++ bnd t k r (c ++ [(w : Int)]), by simp only [catN]; rw [e1]; rfl, e2⟩
              obtain ⟨x, y, e1, e2⟩ := this _ hw.1
              rw [e1] at hp
              simp only [List.cons_append, List.cons.injEq] at hp
              rw [← hp.1]; exact e2
            intro e; rw [e] at hlen; omega
          simp only [cov1, decide_eq_false hb, cond_false]
          exact hcat

theorem covB_bnd {t : T24} (g : Good t) {k : Int} (hk : minK t k) : covB t k (bnd t k t.1.length []) = true := by
  have h := cov_bnd g hk t.1.length [] [] (vC_nil t) (by simp)
  rw [List.append_nil] at h
  unfold covB
  rw [h]

theorem cov_sound {t : T24} (g : Good t) {k : Int} {l : List Int} (hl : feas t l) : ∀ r (c : List Int) (p q : List T37), c <+: l → c.length + r = t.1.length → covC t k r c p = some q → k ≤ floorC t l := by
  have leaf : ∀ (c : List Int) (b : T37), c <+: l → hitB t k c b = true → k ≤ floorC t l := by
    intro c b hc h
    unfold hitB at h
    have hf := floor_mono g hc hl.1 hl.2.1
    cases h1 : (b.2.2.1 == -1) with
    | true =>
      rw [h1] at h
      simp only [cond_true, Bool.and_eq_true, decide_eq_true_eq] at h
      omega
    | false =>
      rw [h1] at h
      simp only [cond_false, inB, Bool.and_eq_true, decide_eq_true_eq] at h
      have ho := over_none.1 (over_mono g hc hl.1 hl.2.2) b.2.2.1.toNat (by omega)
      rw [Int.toNat_of_nonneg h.1.1] at ho
      omega
  intro r
  induction r with
  | zero =>
    intro c p q hc hr h
    unfold covC at h
    cases p with
    | nil => cases h
    | cons b p =>
      simp only [cov1] at h
      cases h1 : decide (b.1 = c) with
      | false => rw [h1] at h; cases h
      | true =>
        rw [h1] at h
        cases h2 : hitB t k c b with
        | true => exact leaf c b hc h2
        | false => rw [h2] at h; cases h
  | succ r ih =>
    intro c p q hc hr h
    unfold covC at h
    cases p with
    | nil => cases h
    | cons b p =>
      simp only [cov1] at h
      cases h1 : decide (b.1 = c) with
      | true =>
        rw [h1] at h
        cases h2 : hitB t k c b with
        | true => exact leaf c b hc h2
        | false => rw [h2] at h; cases h
      | false =>
        rw [h1] at h
        simp only [cond_false] at h
        obtain ⟨j, hj, hp⟩ := pre_next hc hl.1 hl.2.1 (by omega)
        have key : ∀ w p q, j < w → foldO (fun j => covC t k r (c ++ [(j : Int)])) w p = some q → k ≤ floorC t l := by
          intro w
          induction w with
          | zero => intro p q hj; omega
          | succ w ihw =>
            intro p q hj h
            simp only [foldO] at h
            cases h3 : foldO (fun j => covC t k r (c ++ [(j : Int)])) w p with
            | none => rw [h3] at h; cases h
            | some x =>
              rw [h3] at h
              by_cases e : j = w
              · subst e; exact ih _ x q hp (by simp; omega) h
              · exact ihw p x (by omega) h3
        exact key _ _ _ hj h

theorem covB_sound {t : T24} (g : Good t) {k : Int} {p : List T37} (h : covB t k p = true) {l : List Int} (hl : feas t l) : k ≤ floorC t l := by
  unfold covB at h
  cases hc : covC t k t.1.length [] p with
  | none => rw [hc] at h; cases h
  | some q => exact cov_sound g hl t.1.length [] p q List.nil_prefix (by simp) hc

theorem costC_feas {t : T24} (hr : rightC t = true) {l : List Int} : (costC t l).2.1 = true ↔ feas t l := by
  unfold costC feasB feas
  rw [hr]
  by_cases hN : l.length = t.1.length
  · have e := chC_vC (t := t) (c := l) (by omega)
    rw [decide_eq_true hN]
    cases h1 : chC t l with
    | true =>
      have hv := e.1 h1
      by_cases h2 : overC t l = -1
      · rw [decide_eq_true h2]; exact ⟨fun _ => ⟨hv, hN, h2⟩, fun _ => rfl⟩
      · rw [decide_eq_false h2]; exact ⟨fun h => (by cases h), fun h => absurd h.2.2 h2⟩
    | false =>
      refine ⟨fun h => (by cases h), fun h => ?_⟩
      rw [e.2 h.1] at h1; cases h1
  · rw [decide_eq_false hN]
    exact ⟨fun h => (by cases h), fun h => absurd h.2.1 hN⟩

theorem costC_val {t : T24} (hr : rightC t = true) {l : List Int} (h : feas t l) : costC t l = (floorC t l, true, ()) := by
  have h2 := (costC_feas hr).2 h
  unfold costC at h2 ⊢
  cases hf : (rightC t && feasB t l) with
  | true => rfl
  | false => rw [hf] at h2; cases h2

theorem costC_no {t : T24} {l : List Int} (h : (costC t l).2.1 = false) : costC t l = (0, false, ()) := by
  unfold costC at h ⊢
  cases hf : (rightC t && feasB t l) with
  | true => rw [hf] at h; cases h
  | false => rfl

theorem floor_bd {t : T24} (g : Good t) {l : List Int} (hv : vC t l) : 0 ≤ floorC t l ∧ floorC t l ≤ 40000000000000000 := by
  have := maxN_bd (f := sumC t l) (M := 40000000000000000) (by decide) (scen t) (fun s hs => sumC_bd g hv hs _ (Nat.le_refl _))
  exact ⟨this.1, this.2.1⟩

/-- What is found. -/
theorem best_cases (t : T24) : (rightC t = false ∧ bestC t = ([], 0, [], 1, ())) ∨ (rightC t = true ∧ (∀ l, ¬ feas t l) ∧ bestC t = ([], 0, [], 4, ())) ∨
    (rightC t = true ∧ feas t (srch t).1 ∧ (srch t).2 = floorC t (srch t).1 ∧ (∀ l, feas t l → (srch t).2 < floorC t l ∨ ((srch t).2 = floorC t l ∧ lessL l (srch t).1 = false)) ∧ minK t (srch t).2 ∧
      bestC t = ((srch t).1, (srch t).2, bnd t (srch t).2 t.1.length [], 0, ())) := by
  unfold bestC
  cases hr : rightC t with
  | false => exact .inl ⟨rfl, rfl⟩
  | true =>
    have g := good_of hr
    rcases srch_spec g with ⟨e, e2, h⟩ | ⟨a, b, c⟩
    · refine .inr (.inl ⟨rfl, h, ?_⟩)
      rw [e]; rfl
    · have hne := feas_ne g a
      refine .inr (.inr ⟨rfl, a, b, c, srch_min g hne, ?_⟩)
      cases he : (srch t).1.isEmpty with
      | true => exact absurd (List.isEmpty_iff.1 he) hne
      | false => rfl

theorem few_of {t : T24} {p : List T37} (h : fewC t p = true) : t.1.length ≤ 5 ∧ p.length ≤ 600 ∧ ∀ b ∈ p, b.1.length ≤ 6 := by
  simp only [fewC, Bool.and_eq_true, decide_eq_true_eq, List.all_eq_true] at h
  exact ⟨h.1.1, h.1.2.2, fun b hb => h.2.2 b hb⟩

theorem bnd_size {t : T24} (k : Int) : ∀ r (c : List Int) b, c.length + r = t.1.length → b ∈ bnd t k r c → b.1.length ≤ t.1.length
  | 0, c, b, hc, h => by
    unfold bnd at h
    cases h1 : decide (overC t c ≥ 0) <;> rw [h1] at h <;> simp only [cond_true, cond_false, List.mem_singleton] at h <;> subst h <;> exact (by omega : c.length ≤ t.1.length)
  | r + 1, c, b, hc, h => by
    unfold bnd at h
    cases h1 : decide (overC t c ≥ 0) with
    | true => rw [h1] at h; simp only [cond_true, List.mem_singleton] at h; subst h; exact (by omega : c.length ≤ t.1.length)
    | false =>
      rw [h1] at h
      cases h2 : decide (floorC t c ≥ k) with
      | true => rw [h2] at h; simp only [cond_true, cond_false, List.mem_singleton] at h; subst h; exact (by omega : c.length ≤ t.1.length)
      | false =>
        rw [h2] at h
        simp only [cond_false] at h
        have key : ∀ w, b ∈ catN (fun j => bnd t k r (c ++ [(j : Int)])) w → b.1.length ≤ t.1.length := by
          intro w
          induction w with
          | zero => intro h; cases h
          | succ w ih =>
            intro h
            rcases List.mem_append.1 h with h | h
            · exact ih h
            · exact bnd_size k r _ b (by simp; omega) h
        exact key _ h

/-- What is found is small. -/
theorem best_small {t : T24} (h5 : t.1.length ≤ 5) : (bestC t).1.length ≤ 5 ∧ (bestC t).2.2.1.length ≤ 9331 ∧ ∀ b ∈ (bestC t).2.2.1, b.1.length ≤ 5 := by
  rcases best_cases t with ⟨_, e⟩ | ⟨_, _, e⟩ | ⟨hr, hf, _, _, _, e⟩
  · rw [e]; exact ⟨by decide, by decide, fun b hb => by cases hb⟩
  · rw [e]; exact ⟨by decide, by decide, fun b hb => by cases hb⟩
  · rw [e]
    have g := good_of hr
    exact ⟨by have := hf.2.1; simp only; omega, bnd_srch g h5 _, fun b hb => by have := bnd_size _ _ _ b (by simp) hb; omega⟩

theorem checkC_best {t : T24} (hr : rightC t = true) (hf : feas t (srch t).1) (hc : (srch t).2 = floorC t (srch t).1) (hm : minK t (srch t).2) : checkC t (srch t).1 (srch t).2 (bnd t (srch t).2 t.1.length []) = 0 := by
  unfold checkC
  rw [hr, costC_val hr hf, ← hc, covB_bnd (good_of hr) hm]
  simp

theorem wrap_cost {x : Int} (h : 0 ≤ x ∧ x ≤ 40000000000000000) : IntKind.i64.wrap (x + 1) = x + 1 := wrapI (by omega) (by omega)

end Go.Proofs.Ytadinocaadlgmaa
