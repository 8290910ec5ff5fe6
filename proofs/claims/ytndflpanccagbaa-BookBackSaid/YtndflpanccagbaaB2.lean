/- Seats: what is above and below. -/
import Derived.Test.YtndflpanccagbaaM
import Derived.Test.YtndflpanccagbaaE32
namespace Go.Proofs.Ytndflpanccagbaa
open Go Go.Eng
set_option linter.unusedVariables false
set_option linter.unusedSimpArgs false

def seat (S : List T35) (i : Nat) : T35 := S.getD i (0, 0, ())
def P (S : List T35) (i : Nat) : Int := (seat S i).1
def O (S : List T35) (i : Nat) : Int := (seat S i).2.1

theorem seat_get {S : List T35} {i : Nat} (h : i < S.length) : S[i]? = some (seat S i) := by
  unfold seat
  rw [List.getD_eq_getElem?_getD, List.getElem?_eq_getElem h]
  rfl

theorem seat_idx {S : List T35} {i : Nat} (h : i < S.length) : idx S (i : Int) = some (seat S i) := by
  rw [idx_nat, seat_get h]

/-- How many are above a seat. -/
def dep (S : List T35) : Nat → Nat → Nat
  | 0, _ => 0
  | n + 1, i => if 0 ≤ P S i then dep S n (P S i).toNat + 1 else 0
def lev (S : List T35) (i : Nat) : Nat := dep S (i + 1) i

/-- Parents come before their seats. -/
def Up (S : List T35) (n : Nat) : Prop := ∀ i, i < n → P S i < i

theorem dep_fuel {S : List T35} : ∀ (p n m : Nat), Up S (p + 1) → p < n → p < m → dep S n p = dep S m p
  | p, n, m, hu, hn, hm => by
    match n, m, hn, hm with
    | n + 1, m + 1, hn, hm =>
      simp only [dep]
      by_cases h : 0 ≤ P S p
      · rw [if_pos h, if_pos h]
        have := hu p (by omega)
        rw [dep_fuel (P S p).toNat n m (fun i hi => hu i (by omega)) (by omega) (by omega)]
      · rw [if_neg h, if_neg h]
termination_by p => p
decreasing_by have := hu p (by omega); omega

theorem lev_eq {S : List T35} {i : Nat} (hu : Up S (i + 1)) : lev S i = if 0 ≤ P S i then lev S (P S i).toNat + 1 else 0 := by
  have := hu i (by omega)
  by_cases h : 0 ≤ P S i
  · rw [if_pos h]
    unfold lev
    have e : dep S (i + 1) i = if 0 ≤ P S i then dep S i (P S i).toNat + 1 else 0 := rfl
    rw [e, if_pos h, dep_fuel (P S i).toNat i ((P S i).toNat + 1) (fun j hj => hu j (by omega)) (by omega) (by omega)]
  · rw [if_neg h]
    unfold lev
    simp only [dep]
    rw [if_neg h]

/-- A seat is right, as far as it and what is above it tells. -/
def At (S : List T35) (i : Nat) : Prop := -1 ≤ P S i ∧ P S i < i ∧ -1 ≤ O S i ∧ O S i < 60
instance (S : List T35) (i : Nat) : Decidable (At S i) := by unfold At; infer_instance

def Right (S : List T35) : Prop := S.length ≤ 20000 ∧ (∀ i, i < S.length → At S i) ∧ ∀ i, i < S.length → lev S i ≤ 4
instance (S : List T35) : Decidable (Right S) := by unfold Right; infer_instance

theorem Right.up {S : List T35} (h : Right S) : Up S S.length := fun i hi => (h.2.1 i hi).2.1
theorem Right.up' {S : List T35} (h : Right S) {i : Nat} (hi : i < S.length) : Up S (i + 1) := fun j hj => (h.2.1 j (by omega)).2.1
theorem Right.lev {S : List T35} (h : Right S) {i : Nat} (hi : i < S.length) : lev S i = if 0 ≤ P S i then Go.Proofs.Ytndflpanccagbaa.lev S (P S i).toNat + 1 else 0 := lev_eq (h.up' hi)

/-! ### levels -/

theorem cond4 (a b c d : Prop) [Decidable a] [Decidable b] [Decidable c] [Decidable d] : (((decide a || decide b) || decide c) || decide d) = decide (a ∨ b ∨ c ∨ d) := by
  by_cases a <;> by_cases b <;> by_cases c <;> by_cases d <;> simp_all

theorem badAt (S : List T35) (i : Nat) : ((((decide ((seat S i).1 < (-1))) || (decide ((seat S i).1 ≥ (i : Int)))) || (decide ((seat S i).2.1 < (-1)))) || (decide ((seat S i).2.1 ≥ 60))) = !decide (At S i) := by
  rw [cond4, ← decide_not, decide_eq_decide]
  unfold At P O
  omega

theorem l29_eq {R : Type} (S : List T35) (hS : S.length ≤ 20000) (k1 : List Int → Option R) (k2 : Option R) : ∀ (n j : Nat) (o : List Int), S.length - j < n → j ≤ S.length → o.length = S.length →
    (∀ i, i < S.length → gI o i = if i < j then (lev S i : Int) else 0) → (∀ i, i < j → At S i ∧ lev S i ≤ 4) →
    ((∀ i, i < S.length → At S i ∧ lev S i ≤ 4) → ∃ o', o'.length = S.length ∧ (∀ i, i < S.length → gI o' i = (lev S i : Int)) ∧ l29_1 S (S.length : Int) k1 k2 n j o = k1 o') ∧
    (¬ (∀ i, i < S.length → At S i ∧ lev S i ≤ 4) → l29_1 S (S.length : Int) k1 k2 n j o = k2)
  | 0, j, o, h, _, _, _, _ => by omega
  | n + 1, j, o, hn, hj, hl, ho, hp => by
    unfold l29_1 s29_1
    by_cases c : j = S.length
    · subst c
      rw [bifF (decide_eq_false (by omega))]
      exact ⟨fun _ => ⟨o, hl, fun i hi => by rw [ho i hi, if_pos hi], rfl⟩, fun h => absurd hp h⟩
    · have hlt : j < S.length := by omega
      rw [bifT (decide_eq_true (by omega)), seat_idx hlt]
      simp only [Option.bind_some]
      rw [badAt]
      by_cases hA : At S j
      · rw [decide_eq_true hA]
        simp only [Bool.not_true, cond_false]
        have hu : Up S (j + 1) := fun i hi => by
          by_cases e : i = j
          · subst e; exact hA.2.1
          · exact (hp i (by omega)).1.2.1
        have hlev := lev_eq hu
        have hPj := hA.2.1
        have hPl := hA.1
        have ej : ((j : Int)).toNat = j := by omega
        -- the list behind the parent's part
        have key : ∃ o', o'.length = S.length ∧ (∀ i, i < S.length → gI o' i = if i < j + 1 then (lev S i : Int) else 0) ∧
            (∀ k4 : (List Int) → Option R,
              (bif (decide ((seat S j).1 ≥ 0)) then
                asrt true (decide (0 ≤ (seat S j).1) && decide ((seat S j).1 < (List.length o : Int))) (
                  ((o)[((seat S j).1 : Int).toNat]?).bind fun x2 =>
                  asrt true (decide (0 ≤ (j : Int)) && decide ((j : Int) < (List.length o : Int))) (
                    ((o)[((j : Int) : Int).toNat]?).bind fun x3 =>
                    k4 (List.set o ((j : Int) : Int).toNat (IntKind.i64.wrap (x2 + 1)))))
              else
                k4 o) = k4 o') := by
          by_cases hp0 : 0 ≤ P S j
          · have hpl : (P S j).toNat < S.length := by omega
            have hpj : (P S j).toNat < j := by omega
            refine ⟨o.set j (lev S j), by simpa using hl, ?_, ?_⟩
            · intro i hi
              rw [gI_set (by omega)]
              by_cases e : i = j
              · subst e; rw [if_pos rfl, if_pos (by omega)]
              · rw [if_neg e, ho i hi]
                by_cases e2 : i < j
                · rw [if_pos e2, if_pos (by omega)]
                · rw [if_neg e2, if_neg (by omega)]
            · intro k4
              rw [bifT (decide_eq_true (show (seat S j).1 ≥ 0 from hp0))]
              rw [asrtP (fun _ => by
                show (decide (0 ≤ P S j) && decide (P S j < (List.length o : Int))) = true
                simp; omega)]
              show ((o)[(P S j).toNat]?).bind _ = _
              rw [gI_get (by omega)]
              simp only [Option.bind_some]
              rw [asrtP (fun _ => by simp; omega), ej, gI_get (by omega)]
              simp only [Option.bind_some]
              have h4 := (hp _ hpj).2
              rw [ho _ hpl, if_pos hpj, wrapI (by omega) (by omega), hlev, if_pos hp0]
              rfl
          · refine ⟨o, hl, ?_, ?_⟩
            · intro i hi
              rw [ho i hi]
              by_cases e2 : i < j
              · rw [if_pos e2, if_pos (by omega)]
              · rw [if_neg e2]
                by_cases e : i = j
                · subst e; rw [if_pos (by omega), hlev, if_neg hp0]; rfl
                · rw [if_neg (by omega)]
            · intro k4
              rw [bifF (decide_eq_false (show ¬ (seat S j).1 ≥ 0 from hp0))]
        obtain ⟨o', a1, a2, a3⟩ := key
        rw [cont_eq o' a3]
        rw [asrtP (fun _ => by simp; omega), ej, gI_get (by omega)]
        simp only [Option.bind_some]
        rw [a2 j hlt, if_pos (by omega)]
        by_cases h4 : lev S j ≤ 4
        · rw [bifF (decide_eq_false (by omega)), wrapI (x := (j : Int) + 1) (by omega) (by omega)]
          exact l29_eq S hS k1 k2 n (j + 1) o' (by omega) (by omega) a1 a2 (fun i hi => by
            by_cases e : i = j
            · subst e; exact ⟨hA, h4⟩
            · exact hp i (by omega))
        · rw [bifT (decide_eq_true (by omega))]
          exact ⟨fun h => absurd (h j hlt).2 h4, fun _ => rfl⟩
      · rw [decide_eq_false hA]
        simp only [Bool.not_false, cond_true]
        exact ⟨fun h => absurd (h j hlt).1 hA, fun _ => trivial⟩

theorem m29_eq (S : List T35) : (Right S → ∃ o, o.length = S.length ∧ (∀ i, i < S.length → gI o i = (lev S i : Int)) ∧ m29 S = some (o, true, ())) ∧ (¬ Right S → m29 S = some ([], false, ())) := by
  unfold m29
  by_cases h : (S.length : Int) > 20000
  · rw [bifT (decide_eq_true h)]
    exact ⟨fun hr => absurd hr.1 (by omega), fun _ => rfl⟩
  · rw [bifF (decide_eq_false h), asrtP (fun _ => by simp; unfold LIM; omega)]
    have e : ((S.length : Int)).toNat = S.length := by omega
    rw [e]
    obtain ⟨h1, h2⟩ := l29_eq S (by omega) (fun y6 => some ((y6, true, ()) : List Int × Bool × Unit)) (some ([], false, ())) FUEL 0 (List.replicate S.length 0) (fuel_lt (by omega)) (by omega) (by simp) (fun i hi => by rw [gI_rep, if_neg (by omega)]) (fun i hi => by omega)
    constructor
    · intro hr
      obtain ⟨o', a1, a2, a3⟩ := h1 (fun i hi => ⟨hr.2.1 i hi, hr.2.2 i hi⟩)
      exact ⟨o', a1, a2, a3⟩
    · intro hr
      exact h2 (fun hh => hr ⟨by omega, fun i hi => (hh i hi).1, fun i hi => (hh i hi).2⟩)

theorem m13_eq (S : List T35) : m13 S = some (decide (Right S)) := by
  unfold m13
  by_cases h : Right S
  · obtain ⟨o, _, _, e⟩ := (m29_eq S).1 h
    rw [e, decide_eq_true h]; rfl
  · rw [(m29_eq S).2 h, decide_eq_false h]; rfl

end Go.Proofs.Ytndflpanccagbaa
