/- Lists of periods; SchedTells. -/
import Derived.Test.YtophafggfmhooaaS5
namespace Go.Proofs.Ytophafggfmhooaa
open Go Go.Eng
set_option linter.unusedVariables false
set_option linter.unusedSimpArgs false

/-- The period at a place. -/
def per (l : List T46) (i : Nat) : T46 := (l[i]?).getD (0, 0, 0, 0, ())
theorem per_get {l : List T46} {i : Nat} (h : i < l.length) : l[i]? = some (per l i) := by
  unfold per; rw [List.getElem?_eq_getElem h]; rfl
theorem idx_per {l : List T46} {i : Nat} (h : i < l.length) : idx l (i : Int) = some (per l i) := by
  rw [idx_nat, per_get h]
theorem idxG_per {l : List T46} {i : Nat} {g : Bool} (z : T46) (h : g = true → i < l.length) : idxG g z l (i : Int) = some (bif g then per l i else z) := by
  unfold idxG
  cases g with
  | false => rfl
  | true => rw [cond_true, cond_true, idx_per (h rfl)]

def inP (l : List T46) (d : Int) (i : Nat) : Bool := decide ((per l i).1 ≤ d) && decide (d < (per l i).2.1)

/-- Where a day is. -/
def atN (l : List T46) (d : Int) : Nat → Nat → Int × Bool × Unit
  | 0, _ => (0, false, ())
  | n + 1, j => if inP l d j = true then ((j : Int), true, ()) else atN l d n (j + 1)

theorem atN_spec (l : List T46) (d : Int) : ∀ (n j : Nat), (∃ i, j ≤ i ∧ i < j + n ∧ inP l d i = true ∧ (∀ k, j ≤ k → k < i → inP l d k = false) ∧ atN l d n j = ((i : Int), true, ())) ∨ ((∀ i, j ≤ i → i < j + n → inP l d i = false) ∧ atN l d n j = (0, false, ()))
  | 0, j => Or.inr ⟨fun i h1 h2 => by omega, rfl⟩
  | n + 1, j => by
    unfold atN
    by_cases h : inP l d j = true
    · rw [if_pos h]
      exact Or.inl ⟨j, by omega, by omega, h, fun k h1 h2 => by omega, rfl⟩
    · rw [if_neg h]
      have h' : inP l d j = false := by simpa using h
      rcases atN_spec l d n (j + 1) with ⟨i, h1, h2, h3, h4, h5⟩ | ⟨h1, h2⟩
      · refine Or.inl ⟨i, by omega, by omega, h3, fun k g1 g2 => ?_, h5⟩
        by_cases e : k = j
        · rw [e]; exact h'
        · exact h4 k (by omega) g2
      · refine Or.inr ⟨fun k g1 g2 => ?_, h2⟩
        by_cases e : k = j
        · rw [e]; exact h'
        · exact h1 k (by omega) (by omega)

theorem l13_eq {R : Type} (l : List T46) (hl : l.length ≤ 200000) (d : Int) (k1 : Option R) (k2 : Int → Option R) : ∀ (n m j : Nat), j + m = l.length → m < n →
    l13_1 l (List.length l : Int) d k1 k2 n (j : Int) = bif (atN l d m j).2.1 then k2 (atN l d m j).1 else k1
  | 0, _, _, _, h => by omega
  | n + 1, 0, j, hj, hm => by
    unfold l13_1 s13_1
    rw [decide_eq_false (by omega)]
    rfl
  | n + 1, m + 1, j, hj, hm => by
    unfold l13_1 s13_1
    rw [decide_eq_true (by omega), idx_per (by omega)]
    simp only [Option.bind_some, cond_true]
    rw [show (decide ((per l j).1 ≤ d) && decide (d < (per l j).2.1)) = inP l d j from rfl]
    unfold atN
    by_cases h : inP l d j = true
    · rw [h]; rfl
    · have h' : inP l d j = false := by simpa using h
      rw [h', if_neg (by simp), wrapI (by omega) (by omega)]
      simp only [cond_false]
      exact l13_eq l hl d k1 k2 n m (j + 1) (by omega) (by omega)

theorem m13_eq (l : List T46) (hl : l.length ≤ 200000) (d : Int) : m13 l d = some (atN l d l.length 0) := by
  unfold m13
  have hF := FUEL_eq
  have := l13_eq l hl d (some ((bif decide ((0 : Int) > (-1)) then 0 else (-1)), (decide ((-1 : Int) ≥ 0)), ())) (fun y2 => some ((bif decide (0 > y2) then 0 else y2), (decide (y2 ≥ 0)), ())) FUEL l.length 0 (by omega) (fuel_lt (by omega))
  rw [show ((0 : Nat) : Int) = 0 from rfl] at this
  rw [this]
  rcases atN_spec l d l.length 0 with ⟨i, h1, h2, h3, h4, h5⟩ | ⟨h1, h2⟩
  · rw [h5]
    simp only [cond_true]
    rw [bifF (decide_eq_false (by omega)), decide_eq_true (by omega)]
  · rw [h2]; rfl

theorem l14_eq {R : Type} (l : List T46) (hl : l.length ≤ 200000) (d : Int) (k1 : Option R) (k2 : Int → Option R) : ∀ (n m j : Nat), j + m = l.length → m < n →
    l14_1 l d k1 k2 n (j : Int) = bif (atN l d m j).2.1 then k2 (atN l d m j).1 else k1
  | 0, _, _, _, h => by omega
  | n + 1, 0, j, hj, hm => by
    unfold l14_1 s14_1
    rw [decide_eq_false (by omega)]
    rfl
  | n + 1, m + 1, j, hj, hm => by
    unfold l14_1 s14_1
    rw [decide_eq_true (by omega), idx_per (by omega)]
    simp only [Option.bind_some, cond_true]
    rw [idxG_per _ (fun _ => by omega)]
    simp only [Option.bind_some]
    have e : (decide ((per l j).1 ≤ d) && decide (d < (bif (decide ((per l j).1 ≤ d) == true) then per l j else (0, 0, 0, 0, ())).2.1)) = inP l d j := by
      unfold inP
      cases decide ((per l j).1 ≤ d) <;> rfl
    rw [e]
    unfold atN
    by_cases h : inP l d j = true
    · rw [h]; rfl
    · have h' : inP l d j = false := by simpa using h
      rw [h', if_neg (by simp), wrapI (by omega) (by omega)]
      simp only [cond_false]
      exact l14_eq l hl d k1 k2 n m (j + 1) (by omega) (by omega)

theorem m14_eq (l : List T46) (hl : l.length ≤ 200000) (d : Int) : m14 l d = some (atN l d l.length 0) := by
  unfold m14
  have hF := FUEL_eq
  have := l14_eq l hl d (some ((0 : Int), false, ())) (fun y3 => some (y3, true, ())) FUEL l.length 0 (by omega) (fuel_lt (by omega))
  rw [show ((0 : Nat) : Int) = 0 from rfl] at this
  rw [this]
  rcases atN_spec l d l.length 0 with ⟨i, h1, h2, h3, h4, h5⟩ | ⟨h1, h2⟩
  · rw [h5]; rfl
  · rw [h2]; rfl

/-- What is due. -/
def dueL (l : List T46) (d : Int) (n : Nat) : List Int := ((List.range n).filter (fun i => (per l i).2.2.1 == d)).map (fun (i : Nat) => (i : Int))

theorem dueL_succ (l : List T46) (d : Int) (n : Nat) : dueL l d (n + 1) = if (per l n).2.2.1 == d then dueL l d n ++ [(n : Int)] else dueL l d n := by
  unfold dueL
  rw [List.range_succ, List.filter_append, List.map_append]
  by_cases h : ((per l n).2.2.1 == d) = true
  · rw [if_pos h]; simp [List.filter_cons, h]
  · rw [if_neg h]; simp [List.filter_cons, h]

theorem dueL_len (l : List T46) (d : Int) (n : Nat) : (dueL l d n).length ≤ n := by
  unfold dueL
  rw [List.length_map]
  have := List.length_filter_le (fun i => (per l i).2.2.1 == d) (List.range n)
  simpa using this

theorem l17_eq {R : Type} (l : List T46) (hl : l.length ≤ 200000) (d : Int) (k1 : List Int → Option R) : ∀ (n m j : Nat), j + m = l.length → m < n →
    l17_1 d l (List.length l : Int) k1 n (j : Int) (dueL l d j) = k1 (dueL l d l.length)
  | 0, _, _, _, h => by omega
  | n + 1, 0, j, hj, hm => by
    unfold l17_1 s17_1
    rw [decide_eq_false (by omega), show j = l.length by omega]
    rfl
  | n + 1, m + 1, j, hj, hm => by
    unfold l17_1 s17_1
    have hlen := dueL_len l d j
    have hd : decide (List.length (α := Int) (dueL l d j) + List.length (α := Int) [(j : Int)] ≤ LIM) = true := by
      apply decide_eq_true; unfold LIM; simp; omega
    rw [decide_eq_true (by omega), idx_per (by omega), wrapI (by omega) (by omega)]
    simp only [Option.bind_some, cond_true, cont, hd, asrtT]
    have ih := l17_eq l hl d k1 n m (j + 1) (by omega) (by omega)
    rw [dueL_succ] at ih
    by_cases h : ((per l j).2.2.1 == d) = true
    · rw [h] at ih ⊢
      exact ih
    · have h' : ((per l j).2.2.1 == d) = false := by simpa using h
      rw [h'] at ih ⊢
      exact ih

theorem m17_eq (l : List T46) (hl : l.length ≤ 200000) (d : Int) : m17 l d = some (dueL l d l.length) := by
  unfold m17
  have hF := FUEL_eq
  exact l17_eq l hl d (fun y3 => some y3) FUEL l.length 0 (by omega) (fuel_lt (by omega))

theorem l18_eq {R : Type} (l : List T46) (hl : l.length ≤ 200000) (d : Int) (k1 : List Int → Option R) : ∀ (n m j : Nat), j + m = l.length → m < n →
    l18_1 l d k1 n (j : Int) (dueL l d j) = k1 (dueL l d l.length)
  | 0, _, _, _, h => by omega
  | n + 1, 0, j, hj, hm => by
    unfold l18_1 s18_1
    rw [decide_eq_false (by omega), show j = l.length by omega]
    rfl
  | n + 1, m + 1, j, hj, hm => by
    unfold l18_1 s18_1
    have hlen := dueL_len l d j
    have hd : decide (List.length (α := Int) (dueL l d j) + List.length (α := Int) [(j : Int)] ≤ LIM) = true := by
      apply decide_eq_true; unfold LIM; simp; omega
    rw [decide_eq_true (by omega), idx_per (by omega), wrapI (by omega) (by omega)]
    simp only [Option.bind_some, cond_true, cont, hd, asrtT]
    have ih := l18_eq l hl d k1 n m (j + 1) (by omega) (by omega)
    rw [dueL_succ] at ih
    by_cases h : ((per l j).2.2.1 == d) = true
    · rw [h] at ih ⊢
      exact ih
    · have h' : ((per l j).2.2.1 == d) = false := by simpa using h
      rw [h'] at ih ⊢
      exact ih

theorem m18_eq (l : List T46) (hl : l.length ≤ 200000) (d : Int) : m18 l d = some (dueL l d l.length) := by
  unfold m18
  have hF := FUEL_eq
  exact l18_eq l hl d (fun y3 => some y3) FUEL l.length 0 (by omega) (fuel_lt (by omega))

theorem l15_same {R : Type} (l : List T46) (hl : l.length ≤ 200000) (k1 k2 : Option R) : ∀ (n j : Nat), j ≤ l.length → l.length - j < n → l15_1 l l k1 k2 n (j : Int) = k1
  | 0, _, _, h => by omega
  | n + 1, j, hj, hm => by
    unfold l15_1 s15_1
    by_cases h : j < l.length
    · rw [decide_eq_true (by omega), idx_per h]
      simp only [Option.bind_some, cond_true, beq_self_eq_true, Bool.and_self, Bool.not_true, cond_false]
      rw [wrapI (by omega) (by omega)]
      exact l15_same l hl k1 k2 n (j + 1) (by omega) (by omega)
    · rw [decide_eq_false (by omega)]; rfl

theorem m15_same (l : List T46) (hl : l.length ≤ 200000) : m15 l l = some true := by
  unfold m15
  have hF := FUEL_eq
  rw [bne_same, cond_false]
  exact l15_same l hl _ _ FUEL 0 (by omega) (fuel_lt (by omega))

theorem l16_same {R : Type} (l : List Int) (hl : l.length ≤ 200000) (k1 k2 : Option R) : ∀ (n j : Nat), j ≤ l.length → l.length - j < n → l16_1 l l k1 k2 n (j : Int) = k1
  | 0, _, _, h => by omega
  | n + 1, j, hj, hm => by
    unfold l16_1 s16_1
    by_cases h : j < l.length
    · rw [decide_eq_true (by omega), idx_nat, gI_get h]
      simp only [Option.bind_some, cond_true, bne_same, cond_false]
      rw [wrapI (by omega) (by omega)]
      exact l16_same l hl k1 k2 n (j + 1) (by omega) (by omega)
    · rw [decide_eq_false (by omega)]; rfl

theorem m16_same (l : List Int) (hl : l.length ≤ 200000) : m16 l l = some true := by
  unfold m16
  have hF := FUEL_eq
  rw [bne_same, cond_false]
  exact l16_same l hl _ _ FUEL 0 (by omega) (fuel_lt (by omega))

/-- The limits. -/
theorem m10_eq (x : T29) (c : T32) : ∃ b, m10 x c = some b ∧ (b = true → x.2.2.2.2.2.2.2.2.1 ≤ 50) := by
  unfold m10
  by_cases h1 : x.2.2.2.2.2.2.2.2.1 > 50
  · rw [bifT (by simp [h1])]
    exact ⟨false, rfl, fun h => by cases h⟩
  · by_cases h2 : (decide ((List.length c.2.1 : Int) > 200) || decide ((List.length c.1 : Int) > 10) || decide (x.2.2.2.2.2.2.2.2.1 > 50)) = true
    · rw [bifT h2]; exact ⟨false, rfl, fun h => by cases h⟩
    · rw [bifF (by simpa using h2)]
      by_cases h3 : x.2.2.2.2.2.1 < 1 ∨ x.2.2.2.2.2.1 > 1200
      · rw [bifT (by simp; omega)]
        exact ⟨true, rfl, fun _ => by omega⟩
      · by_cases h4 : ((((decide (x.2.2.2.1 < 0)) || (decide (x.2.2.2.2.1 > 200000))) || (decide (x.2.2.2.1 ≥ x.2.2.2.2.1))) || (decide (x.2.2.2.2.2.1 < 1)) || (decide (x.2.2.2.2.2.1 > 1200))) = true
        · rw [bifT h4]; exact ⟨true, rfl, fun _ => by omega⟩
        · rw [bifF (by simpa using h4), wrapI (x := 28 * x.2.2.2.2.2.1) (by omega) (by omega)]
          rw [show (28 * x.2.2.2.2.2.1 != 0) = true by simp; omega, asrtT]
          exact ⟨_, rfl, fun _ => by omega⟩

end Go.Proofs.Ytophafggfmhooaa
