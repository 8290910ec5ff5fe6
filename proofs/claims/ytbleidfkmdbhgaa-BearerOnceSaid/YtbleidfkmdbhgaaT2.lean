/- Bearer: what right pieces are, and what the functions return. -/
import Derived.Test.YtbleidfkmdbhgaaM
namespace Go.Proofs.Ytbleidfkmdbhgaa
open Go Go.Eng
set_option linter.unusedVariables false
set_option linter.unusedSimpArgs false

/-- A loop that passes a list's places with a state. -/
theorem seq_loop {R S : Type} (n : Nat) (F : Nat → S) (f : Nat → Int → S → Option R) (k : S → Option R) (hn : n ≤ 1000000)
    (hs : ∀ m j, j < n → f (m + 1) (j : Int) (F j) = f m ((j : Int) + 1) (F (j + 1))) (he : ∀ m, f (m + 1) (n : Int) (F n) = k (F n)) :
    f FUEL 0 (F 0) = k (F n) := by
  have key : ∀ (i m j : Nat), j + i = n → i < m → f m (j : Int) (F j) = k (F n) := by
    intro i
    induction i with
    | zero =>
      intro m j hj hm
      obtain ⟨m, rfl⟩ : ∃ a, m = a + 1 := ⟨m - 1, by omega⟩
      have : j = n := by omega
      subst this
      exact he m
    | succ i ih =>
      intro m j hj hm
      obtain ⟨m, rfl⟩ : ∃ a, m = a + 1 := ⟨m - 1, by omega⟩
      rw [hs m j (by omega)]
      exact ih m (j + 1) (by omega) (by omega)
  exact key n FUEL 0 (by omega) (fuel_lt (by omega))

/-- A loop that checks something of each place, with a state. -/
theorem chk_loop {R S : Type} (n : Nat) (F : Nat → S) (p : Nat → Bool) (f : Nat → Int → S → Option R) (k1 k2 : Option R) (hn : n ≤ 1000000)
    (hs : ∀ m j, j < n → (∀ i, i < j → p i = true) → f (m + 1) (j : Int) (F j) = bif p j then f m ((j : Int) + 1) (F (j + 1)) else k2) (he : (∀ i, i < n → p i = true) → ∀ m, f (m + 1) (n : Int) (F n) = k1) :
    f FUEL 0 (F 0) = if ∀ i, i < n → p i = true then k1 else k2 := by
  have key : ∀ (i m j : Nat), j + i = n → i < m → (∀ i, i < j → p i = true) → f m (j : Int) (F j) = if ∀ i, i < n → p i = true then k1 else k2 := by
    intro i
    induction i with
    | zero =>
      intro m j hj hm hb
      obtain ⟨m, rfl⟩ : ∃ a, m = a + 1 := ⟨m - 1, by omega⟩
      have : j = n := by omega
      subst this
      rw [he hb m, if_pos hb]
    | succ i ih =>
      intro m j hj hm hb
      obtain ⟨m, rfl⟩ : ∃ a, m = a + 1 := ⟨m - 1, by omega⟩
      rw [hs m j (by omega) hb]
      cases hp : p j with
      | true =>
        refine ih m (j + 1) (by omega) (by omega) (fun i hi => ?_)
        by_cases e : i = j
        · subst e; exact hp
        · exact hb i (by omega)
      | false =>
        rw [if_neg]
        · rfl
        · intro h
          rw [h j (by omega)] at hp; cases hp
  exact key n FUEL 0 (by omega) (fuel_lt (by omega)) (fun i hi => absurd hi (Nat.not_lt_zero i))

theorem lt1 {a b : Nat} (h : a < b) : decide ((a : Int) < (b : Int)) = true := decide_eq_true (by omega)
theorem lt0 (a : Nat) : decide ((a : Int) < (a : Int)) = false := decide_eq_false (by omega)
theorem rng {a b : Nat} (h : a < b) : (decide (0 ≤ (a : Int)) && decide ((a : Int) < (b : Int))) = true := by simp; omega


/-! ### Right pieces -/

def okP (x : T35) : Bool := decide (0 ≤ x.1 ∧ x.1 ≤ 399 ∧ 1 ≤ x.2.1 ∧ x.2.1 ≤ 1000000000 ∧ x.2.2.1.length ≤ 400 ∧ -1 ≤ x.2.2.2.1 ∧ x.2.2.2.1 ≤ 200000 ∧ -1 ≤ x.2.2.2.2.1 ∧ x.2.2.2.2.1 ≤ 19999 ∧ (x.2.2.2.1 = -1 → x.2.2.2.2.1 = -1))
def rightC (l : List T35) : Bool := decide (l.length ≤ 1000) && l.all okP
def fewC (l : List T35) : Bool := decide (l.length ≤ 12) && l.all fun x => decide (x.2.2.1.length ≤ 10)
def atB {α : Type} (q : α → Bool) (l : List α) (i : Nat) : Bool := ((l[i]?).map q).getD true

theorem atB_lt {α : Type} {q : α → Bool} {l : List α} {i : Nat} {x : α} (h : l[i]? = some x) : atB q l i = q x := by simp [atB, h]
theorem all_at {α : Type} (q : α → Bool) (l : List α) : (∀ i, i < l.length → atB q l i = true) ↔ l.all q = true := by
  rw [List.all_eq_true]
  constructor
  · intro h x hx
    obtain ⟨i, hi⟩ := List.getElem?_of_mem hx
    rw [← atB_lt (q := q) hi]
    exact h i (List.getElem?_eq_some_iff.1 hi).1
  · intro h i hi
    rw [atB_lt (List.getElem?_eq_getElem hi)]
    exact h _ (List.getElem_mem hi)

theorem m24_eq (a b c : Int) : m24 a b c = some (decide (b ≤ a ∧ a ≤ c)) := by
  simp only [m24, ge_iff_le, Bool.decide_and]

theorem m23_eq (x : T35) : m23 x = some (!okP x) := by
  simp only [m23, m24_eq, Option.bind_some, bind_guard]
  congr 1
  rw [Bool.eq_iff_iff]
  simp [okP]
  constructor <;> intro h <;> omega

theorem m14_eq (l : List T35) : m14 l = some (rightC l) := by
  unfold m14 rightC
  by_cases hl : l.length ≤ 1000
  · have e1 : decide ((List.length l : Int) ≤ 1000) = true := decide_eq_true (by omega)
    have e2 : decide (l.length ≤ 1000) = true := decide_eq_true hl
    rw [e1, e2]
    simp only [beq_self_eq_true, cond_true, Bool.true_and]
    have := chk_loop (R := Bool) (S := Unit) l.length (fun _ => ()) (atB okP l) (fun m j _ => l14_1 l (List.length l : Int) (some true) (fun y3 => some (!decide (y3 ≥ 0))) m j) (some true) (some false) (by omega)
      (by
        intro m j hj hp
        obtain ⟨x, hx⟩ : ∃ x, l[j]? = some x := ⟨_, List.getElem?_eq_getElem hj⟩
        simp only [l14_1, s14_1, lt1 hj, cond_true, idx_nat, hx, Option.bind_some, m23_eq, atB_lt hx]
        have hw : IntKind.i64.wrap ((j : Int) + 1) = (j : Int) + 1 := wrapI (by omega) (by omega)
        cases h : okP x with
        | true => simp only [Bool.not_true, cond_false, cond_true, hw]
        | false =>
          have : decide ((j : Int) ≥ 0) = true := decide_eq_true (by omega)
          simp only [Bool.not_false, cond_true, cond_false, this, Bool.not_true])
      (by intro h m; simp only [l14_1, s14_1, lt0, cond_false])

    refine this.trans ?_
    cases h : l.all okP with
    | true => rw [if_pos ((all_at okP l).2 h)]
    | false => rw [if_neg (fun h2 => by rw [(all_at okP l).1 h2] at h; cases h)]
  · have e1 : decide ((List.length l : Int) ≤ 1000) = false := decide_eq_false (by omega)
    have e2 : decide (l.length ≤ 1000) = false := decide_eq_false hl
    rw [e1, e2]
    rfl

theorem m15_eq (l : List T35) : m15 l = some (rightC l) := by
  unfold m15 rightC
  by_cases hl : l.length ≤ 1000
  · have e1 : decide ((List.length l : Int) > 1000) = false := decide_eq_false (by omega)
    have e2 : decide (l.length ≤ 1000) = true := decide_eq_true hl
    rw [e1, e2]
    simp only [cond_false, Bool.true_and]
    have := chk_loop (R := Bool) (S := Unit) l.length (fun _ => ()) (atB okP l) (fun m j _ => l15_1 l (some true) (some false) m j) (some true) (some false) (by omega)
      (by
        intro m j hj hp
        obtain ⟨x, hx⟩ : ∃ x, l[j]? = some x := ⟨_, List.getElem?_eq_getElem hj⟩
        simp only [l15_1, s15_1, lt1 hj, cond_true, idx_nat, hx, Option.bind_some, atB_lt hx]
        have hw : IntKind.i64.wrap ((j : Int) + 1) = (j : Int) + 1 := wrapI (by omega) (by omega)
        rw [hw]
        by_cases c1 : (((((decide (x.1 < 0)) || (decide (x.1 ≥ 400))) || (decide (x.2.1 < 1))) || (decide (x.2.1 > 1000000000))) || (decide ((List.length x.2.2.1 : Int) > 400))) = true
        · rw [c1]
          have : okP x = false := by
            simp at c1
            simp [okP]
            omega
          rw [this]; rfl
        · rw [Bool.eq_false_iff.2 c1, cond_false]
          by_cases c2 : (((((decide (x.2.2.2.1 < (-1))) || (decide (x.2.2.2.1 > 200000))) || (decide (x.2.2.2.2.1 < (-1)))) || (decide (x.2.2.2.2.1 ≥ 20000))) || ((x.2.2.2.1 == (-1)) && (x.2.2.2.2.1 != (-1)))) = true
          · rw [c2]
            have : okP x = false := by
              simp at c2
              simp [okP]
              omega
            rw [this]; rfl
          · rw [Bool.eq_false_iff.2 c2, cond_false]
            have : okP x = true := by
              simp at c1 c2
              simp [okP]
              omega
            rw [this]; rfl)
      (by intro h m; simp only [l15_1, s15_1, lt0, cond_false])

    refine this.trans ?_
    cases h : l.all okP with
    | true => rw [if_pos ((all_at okP l).2 h)]
    | false => rw [if_neg (fun h2 => by rw [(all_at okP l).1 h2] at h; cases h)]
  · have e1 : decide ((List.length l : Int) > 1000) = true := decide_eq_true (by omega)
    have e2 : decide (l.length ≤ 1000) = false := decide_eq_false hl
    rw [e1, e2]
    rfl

theorem m8_eq (l : List T35) : m8 l = some (fewC l) := by
  unfold m8
  have := chk_loop (R := Bool) (S := Unit) (min l.length 13) (fun _ => ()) (atB (fun x => decide (x.2.2.1.length ≤ 10)) l) (fun m j _ => l8_1 l (some (decide ((List.length l : Int) ≤ 12))) (some false) m j) (some (decide ((List.length l : Int) ≤ 12))) (some false) (by omega)
    (by
      intro m j hj hp
      have hj1 : j < l.length := by omega
      have hj2 : decide ((j : Int) ≤ 12) = true := decide_eq_true (by omega)
      obtain ⟨x, hx⟩ : ∃ x, l[j]? = some x := ⟨_, List.getElem?_eq_getElem hj1⟩
      simp only [l8_1, s8_1, lt1 hj1, hj2, Bool.and_true, cond_true, idx_nat, hx, Option.bind_some, atB_lt hx]
      have hw : IntKind.i64.wrap ((j : Int) + 1) = (j : Int) + 1 := wrapI (by omega) (by omega)
      rw [hw]
      by_cases c : x.2.2.1.length ≤ 10
      · rw [decide_eq_false (p := (List.length x.2.2.1 : Int) > 10) (by omega), decide_eq_true c]; rfl
      · rw [decide_eq_true (p := (List.length x.2.2.1 : Int) > 10) (by omega), decide_eq_false c]; rfl)
    (by
      intro h m
      have : (decide (((min l.length 13 : Nat) : Int) < (List.length l : Int)) && decide (((min l.length 13 : Nat) : Int) ≤ 12)) = false := by
        simp; omega
      simp only [l8_1, s8_1, this, cond_false])

  refine this.trans ?_
  unfold fewC
  by_cases hl : l.length ≤ 12
  · rw [decide_eq_true hl, decide_eq_true (p := (List.length l : Int) ≤ 12) (by omega), Bool.true_and, Nat.min_eq_left (by omega)]
    cases h : l.all fun x => decide (x.2.2.1.length ≤ 10) with
    | true => rw [if_pos ((all_at _ l).2 h)]
    | false => rw [if_neg (fun h2 => by rw [(all_at _ l).1 h2] at h; cases h)]
  · rw [decide_eq_false hl, decide_eq_false (p := (List.length l : Int) ≤ 12) (by omega), Bool.false_and]
    split <;> rfl

theorem right_len {l : List T35} (h : rightC l = true) : l.length ≤ 1000 := by
  simp only [rightC, Bool.and_eq_true, decide_eq_true_eq] at h
  exact h.1
theorem right_at {l : List T35} (h : rightC l = true) {i : Nat} {x : T35} (hx : l[i]? = some x) : okP x = true := by
  simp only [rightC, Bool.and_eq_true, List.all_eq_true] at h
  exact h.2 x (List.mem_of_getElem? hx)
theorem right_of {l : List T35} (h1 : l.length ≤ 1000) (h2 : ∀ (i : Nat) (x : T35), l[i]? = some x → okP x = true) : rightC l = true := by
  simp only [rightC, Bool.and_eq_true, decide_eq_true_eq, List.all_eq_true]
  refine ⟨h1, fun x hx => ?_⟩
  obtain ⟨i, hi⟩ := List.getElem?_of_mem hx
  exact h2 i x hi

/-- A copy of right pieces is what they are. -/
theorem m28_eq {l : List T35} (h : rightC l = true) : m28 l = some l := by
  unfold m28
  have hl := right_len h
  rw [cloneM_eq (by omega), Option.bind_some]
  exact seq_loop (R := List T35) (S := List T35) l.length (fun _ => l) (fun m j o => l28_1 (List.length l : Int) (fun y4 => some y4) m j o) (fun o => some o) (by omega)
    (by
      intro m j hj
      obtain ⟨x, hx⟩ : ∃ x, l[j]? = some x := ⟨_, List.getElem?_eq_getElem hj⟩
      have hok := right_at h hx
      simp only [okP, decide_eq_true_eq] at hok
      have hr : decide (x.2.2.1.length ≤ LIM) = true := decide_eq_true (by unfold LIM; omega)
      have hw : IntKind.i64.wrap ((j : Int) + 1) = (j : Int) + 1 := wrapI (by omega) (by omega)
      have hz : (decide ((0 : Int) = 0) && decide (0 = (0 : Int))) = true := rfl
      simp only [l28_1, s28_1, lt1 hj, rng hj, asrtT, cond_true, Int.toNat_natCast, hx, Option.bind_some, hr, hz, hw]
      have e : List.set l j (x.1, x.2.1, x.2.2.1, x.2.2.2.1, x.2.2.2.2.1, ()) = l := set_id hx
      rw [e]
      rfl)
    (by intro m; simp only [l28_1, s28_1, lt0, cond_false])

theorem tell_eq {l : List T35} (h : rightC l = true) {p : Int} {x : T35} (hp : 0 ≤ p) (hx : l[p.toNat]? = some x) : tellL p l = some x := by
  unfold tellL
  have hlt := (List.getElem?_eq_some_iff.1 hx).1
  have hl := right_len h
  rw [asrtP, hx]
  intro _
  simp only [Bool.and_eq_true, decide_eq_true_eq, List.all_eq_true]
  refine ⟨⟨⟨hp, by omega⟩, by unfold LIM; omega⟩, fun y hy => ?_⟩
  obtain ⟨i, hi⟩ := List.getElem?_of_mem hy
  have := right_at h hi
  simp only [okP, decide_eq_true_eq] at this
  unfold LIM; omega

end Go.Proofs.Ytbleidfkmdbhgaa
