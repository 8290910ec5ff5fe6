/- Lemmas over models (carried over from another seat). -/
import Derived.Test.YtjoehgmdkeigiaaM
namespace Go.Proofs.Ytjoehgmdkeigiaa
open Go Go.Eng
set_option linter.unusedVariables false
set_option linter.unusedSimpArgs false

def seat (S : List T36) (i : Nat) : T36 := S.getD i (0, 0, ())

def P (S : List T36) (i : Nat) : Int := (seat S i).1

def O (S : List T36) (i : Nat) : Int := (seat S i).2.1

theorem seat_get {S : List T36} {i : Nat} (h : i < S.length) : S[i]? = some (seat S i) := by
  unfold seat
  rw [List.getD_eq_getElem?_getD, List.getElem?_eq_getElem h]
  rfl

theorem seat_idx {S : List T36} {i : Nat} (h : i < S.length) : idx S (i : Int) = some (seat S i) := by
  rw [idx_nat, seat_get h]

/-- How many are above a seat. -/
def dep (S : List T36) : Nat → Nat → Nat
  | 0, _ => 0
  | n + 1, i => if 0 ≤ P S i then dep S n (P S i).toNat + 1 else 0

def lev (S : List T36) (i : Nat) : Nat := dep S (i + 1) i

/-- Parents come before their seats. -/
def Up (S : List T36) (n : Nat) : Prop := ∀ i, i < n → P S i < i

theorem dep_fuel {S : List T36} : ∀ (p n m : Nat), Up S (p + 1) → p < n → p < m → dep S n p = dep S m p
  | p, n, m, hu, hn, hm => by
    match n, m, hn, hm with
    | n + 1, m + 1, hn, hm =>
      simp only [dep]
      by_cases h : 0 ≤ P S p
      · rw [if_pos h, if_pos h]
        have := hu p (by omega)
        rw [dep_fuel (P S p).toNat n m (fun i hi => hu i (by omega)) (by omega) (by omega)]
      · rw [if_neg h, if_neg h]
termination_by p => p
decreasing_by have := hu p (by omega); omega

theorem lev_eq {S : List T36} {i : Nat} (hu : Up S (i + 1)) : lev S i = if 0 ≤ P S i then lev S (P S i).toNat + 1 else 0 := by
  have := hu i (by omega)
  by_cases h : 0 ≤ P S i
  · rw [if_pos h]
    unfold lev
    have e : dep S (i + 1) i = if 0 ≤ P S i then dep S i (P S i).toNat + 1 else 0 := rfl
    rw [e, if_pos h, dep_fuel (P S i).toNat i ((P S i).toNat + 1) (fun j hj => hu j (by omega)) (by omega) (by omega)]
  · rw [if_neg h]
    unfold lev
    simp only [dep]
    rw [if_neg h]

/-- A seat is right, as far as it and what is above it tells. -/
def At (S : List T36) (i : Nat) : Prop := -1 ≤ P S i ∧ P S i < i ∧ -1 ≤ O S i ∧ O S i < 60

instance (S : List T36) (i : Nat) : Decidable (At S i) := by unfold At; infer_instance

def Right (S : List T36) : Prop := S.length ≤ 20000 ∧ (∀ i, i < S.length → At S i) ∧ ∀ i, i < S.length → lev S i ≤ 4

instance (S : List T36) : Decidable (Right S) := by unfold Right; infer_instance

theorem Right.up {S : List T36} (h : Right S) : Up S S.length := fun i hi => (h.2.1 i hi).2.1

theorem Right.up' {S : List T36} (h : Right S) {i : Nat} (hi : i < S.length) : Up S (i + 1) := fun j hj => (h.2.1 j (by omega)).2.1

theorem Right.lev {S : List T36} (h : Right S) {i : Nat} (hi : i < S.length) : lev S i = if 0 ≤ P S i then lev S (P S i).toNat + 1 else 0 := lev_eq (h.up' hi)

theorem cond4 (a b c d : Prop) [Decidable a] [Decidable b] [Decidable c] [Decidable d] : (((decide a || decide b) || decide c) || decide d) = decide (a ∨ b ∨ c ∨ d) := by
  by_cases a <;> by_cases b <;> by_cases c <;> by_cases d <;> simp_all

theorem badAt (S : List T36) (i : Nat) : ((((decide ((seat S i).1 < (-1))) || (decide ((seat S i).1 ≥ (i : Int)))) || (decide ((seat S i).2.1 < (-1)))) || (decide ((seat S i).2.1 ≥ 60))) = !decide (At S i) := by
  rw [cond4, ← decide_not, decide_eq_decide]
  unfold At P O
  omega

theorem l47_eq {R : Type} (S : List T36) (hS : S.length ≤ 20000) (k1 : List Int → Option R) (k2 : Option R) : ∀ (n j : Nat) (o : List Int), S.length - j < n → j ≤ S.length → o.length = S.length →
    (∀ i, i < S.length → gI o i = if i < j then (lev S i : Int) else 0) → (∀ i, i < j → At S i ∧ lev S i ≤ 4) →
    ((∀ i, i < S.length → At S i ∧ lev S i ≤ 4) → ∃ o', o'.length = S.length ∧ (∀ i, i < S.length → gI o' i = (lev S i : Int)) ∧ l47_1 S (S.length : Int) k1 k2 n j o = k1 o') ∧
    (¬ (∀ i, i < S.length → At S i ∧ lev S i ≤ 4) → l47_1 S (S.length : Int) k1 k2 n j o = k2)
  | 0, j, o, h, _, _, _, _ => by omega
  | n + 1, j, o, hn, hj, hl, ho, hp => by
    unfold l47_1 s47_1
    by_cases c : j = S.length
    · subst c
      rw [bifF (decide_eq_false (by omega))]
      exact ⟨fun _ => ⟨o, hl, fun i hi => by rw [ho i hi, if_pos hi], rfl⟩, fun h => absurd hp h⟩
    · have hlt : j < S.length := by omega
      rw [bifT (decide_eq_true (by omega)), seat_idx hlt]
      simp only [Option.bind_some]
      rw [badAt]
      by_cases hA : At S j
      · rw [decide_eq_true hA]
        simp only [Bool.not_true, cond_false]
        have hu : Up S (j + 1) := fun i hi => by
          by_cases e : i = j
          · subst e; exact hA.2.1
          · exact (hp i (by omega)).1.2.1
        have hlev := lev_eq hu
        have hPj := hA.2.1
        have hPl := hA.1
        have ej : ((j : Int)).toNat = j := by omega
        -- the list behind the parent's part
        have key : ∃ o', o'.length = S.length ∧ (∀ i, i < S.length → gI o' i = if i < j + 1 then (lev S i : Int) else 0) ∧
            (∀ k4 : (List Int) → Option R,
              (bif (decide ((seat S j).1 ≥ 0)) then
                asrt true (decide (0 ≤ (seat S j).1) && decide ((seat S j).1 < (List.length o : Int))) (
                  ((o)[((seat S j).1 : Int).toNat]?).bind fun x2 =>
                  asrt true (decide (0 ≤ (j : Int)) && decide ((j : Int) < (List.length o : Int))) (
                    ((o)[((j : Int) : Int).toNat]?).bind fun x3 =>
                    k4 (List.set o ((j : Int) : Int).toNat (IntKind.i64.wrap (x2 + 1)))))
              else
                k4 o) = k4 o') := by
          by_cases hp0 : 0 ≤ P S j
          · have hpl : (P S j).toNat < S.length := by omega
            have hpj : (P S j).toNat < j := by omega
            refine ⟨o.set j (lev S j), by simpa using hl, ?_, ?_⟩
            · intro i hi
              rw [gI_set (by omega)]
              by_cases e : i = j
              · subst e; rw [if_pos rfl, if_pos (by omega)]
              · rw [if_neg e, ho i hi]
                by_cases e2 : i < j
                · rw [if_pos e2, if_pos (by omega)]
                · rw [if_neg e2, if_neg (by omega)]
            · intro k4
              rw [bifT (decide_eq_true (show (seat S j).1 ≥ 0 from hp0))]
              rw [asrtP (fun _ => by
                show (decide (0 ≤ P S j) && decide (P S j < (List.length o : Int))) = true
                simp; omega)]
              show ((o)[(P S j).toNat]?).bind _ = _
              rw [gI_get (by omega)]
              simp only [Option.bind_some]
              rw [asrtP (fun _ => by simp; omega), ej, gI_get (by omega)]
              simp only [Option.bind_some]
              have h4 := (hp _ hpj).2
              rw [ho _ hpl, if_pos hpj, wrapI (by omega) (by omega), hlev, if_pos hp0]
              rfl
          · refine ⟨o, hl, ?_, ?_⟩
            · intro i hi
              rw [ho i hi]
              by_cases e2 : i < j
              · rw [if_pos e2, if_pos (by omega)]
              · rw [if_neg e2]
                by_cases e : i = j
                · subst e; rw [if_pos (by omega), hlev, if_neg hp0]; rfl
                · rw [if_neg (by omega)]
            · intro k4
              rw [bifF (decide_eq_false (show ¬ (seat S j).1 ≥ 0 from hp0))]
        obtain ⟨o', a1, a2, a3⟩ := key
        rw [cont_eq o' a3]
        rw [asrtP (fun _ => by simp; omega), ej, gI_get (by omega)]
        simp only [Option.bind_some]
        rw [a2 j hlt, if_pos (by omega)]
        by_cases h4 : lev S j ≤ 4
        · rw [bifF (decide_eq_false (by omega)), wrapI (x := (j : Int) + 1) (by omega) (by omega)]
          exact l47_eq S hS k1 k2 n (j + 1) o' (by omega) (by omega) a1 a2 (fun i hi => by
            by_cases e : i = j
            · subst e; exact ⟨hA, h4⟩
            · exact hp i (by omega))
        · rw [bifT (decide_eq_true (by omega))]
          exact ⟨fun h => absurd (h j hlt).2 h4, fun _ => rfl⟩
      · rw [decide_eq_false hA]
        simp only [Bool.not_false, cond_true]
        exact ⟨fun h => absurd (h j hlt).1 hA, fun _ => trivial⟩

theorem m47_eq (S : List T36) : (Right S → ∃ o, o.length = S.length ∧ (∀ i, i < S.length → gI o i = (lev S i : Int)) ∧ m47 S = some (o, true, ())) ∧ (¬ Right S → m47 S = some ([], false, ())) := by
  unfold m47
  by_cases h : (S.length : Int) > 20000
  · rw [bifT (decide_eq_true h)]
    exact ⟨fun hr => absurd hr.1 (by omega), fun _ => rfl⟩
  · rw [bifF (decide_eq_false h), asrtP (fun _ => by simp; unfold LIM; omega)]
    have e : ((S.length : Int)).toNat = S.length := by omega
    rw [e]
    obtain ⟨h1, h2⟩ := l47_eq S (by omega) (fun y6 => some ((y6, true, ()) : List Int × Bool × Unit)) (some ([], false, ())) FUEL 0 (List.replicate S.length 0) (fuel_lt (by omega)) (by omega) (by simp) (fun i hi => by rw [gI_rep, if_neg (by omega)]) (fun i hi => by omega)
    constructor
    · intro hr
      obtain ⟨o', a1, a2, a3⟩ := h1 (fun i hi => ⟨hr.2.1 i hi, hr.2.2 i hi⟩)
      exact ⟨o', a1, a2, a3⟩
    · intro hr
      exact h2 (fun hh => hr ⟨by omega, fun i hi => (hh i hi).1, fun i hi => (hh i hi).2⟩)

theorem m33_eq (S : List T36) : m33 S = some (decide (Right S)) := by
  unfold m33
  by_cases h : Right S
  · obtain ⟨o, _, _, e⟩ := (m47_eq S).1 h
    rw [e, decide_eq_true h]; rfl
  · rw [(m47_eq S).2 h, decide_eq_false h]; rfl

/-- The root of a seat. -/
def rootF (S : List T36) : Nat → Nat → Nat
  | 0, i => i
  | n + 1, i => if 0 ≤ P S i then rootF S n (P S i).toNat else i

def root (S : List T36) (i : Nat) : Nat := rootF S (i + 1) i

theorem rootF_fuel {S : List T36} : ∀ (p n m : Nat), Up S (p + 1) → p < n → p < m → rootF S n p = rootF S m p
  | p, n, m, hu, hn, hm => by
    match n, m, hn, hm with
    | n + 1, m + 1, hn, hm =>
      simp only [rootF]
      by_cases h : 0 ≤ P S p
      · rw [if_pos h, if_pos h]
        have := hu p (by omega)
        exact rootF_fuel (P S p).toNat n m (fun i hi => hu i (by omega)) (by omega) (by omega)
      · rw [if_neg h, if_neg h]
termination_by p => p
decreasing_by have := hu p (by omega); omega

theorem root_eq {S : List T36} {i : Nat} (hu : Up S (i + 1)) : root S i = if 0 ≤ P S i then root S (P S i).toNat else i := by
  have := hu i (by omega)
  by_cases h : 0 ≤ P S i
  · rw [if_pos h]
    unfold root
    have e : rootF S (i + 1) i = if 0 ≤ P S i then rootF S i (P S i).toNat else i := rfl
    rw [e, if_pos h, rootF_fuel (P S i).toNat i ((P S i).toNat + 1) (fun j hj => hu j (by omega)) (by omega) (by omega)]
  · rw [if_neg h]
    unfold root
    simp only [rootF]
    rw [if_neg h]

theorem l48_eq {R : Type} (S : List T36) (hu : Up S S.length) (hL : S.length ≤ 20000) (k : Int → Option R) : ∀ (n i : Nat) (a : Int), i < S.length → i < n → 0 ≤ a → a ≤ 100000 - i → l48_1 S k n i a = k (a + lev S i)
  | 0, i, a, _, h, _, _ => by omega
  | n + 1, i, a, hi, hn, h0, h1 => by
    have hup : Up S (i + 1) := fun j hj => hu j (by omega)
    have hP := hu i hi
    unfold l48_1 s48_1
    rw [seat_idx hi]
    simp only [Option.bind_some]
    rw [lev_eq hup]
    by_cases h : 0 ≤ P S i
    · rw [bifT (decide_eq_true (show (seat S i).1 ≥ 0 from h)), if_pos h]
      have e : (seat S i).1 = (((P S i).toNat : Nat) : Int) := by show P S i = _; omega
      rw [e, wrapI (x := a + 1) (by omega) (by omega), l48_eq S hu hL k n (P S i).toNat (a + 1) (by omega) (by omega) (by omega) (by omega)]
      congr 1
      omega
    · rw [bifF (decide_eq_false (show ¬ (seat S i).1 ≥ 0 from h)), if_neg h]
      simp

theorem m48_eq (S : List T36) (hu : Up S S.length) (hL : S.length ≤ 20000) (i : Nat) (hi : i < S.length) : m48 S i = some (lev S i : Int) := by
  unfold m48
  rw [l48_eq S hu hL _ FUEL i 0 hi (fuel_lt (by omega)) (by omega) (by omega)]
  simp

theorem l34_1_eq {R : Type} (S : List T36) (hL : S.length ≤ 20000) (k1 k2 : Option R) : ∀ (n j : Nat), j ≤ S.length → S.length - j < n → (∀ i, i < j → At S i) →
    l34_1 S k1 k2 n j = if ∀ i, i < S.length → At S i then k1 else k2
  | 0, j, _, h, _ => by omega
  | n + 1, j, hj, hn, hp => by
    unfold l34_1 s34_1
    by_cases c : j = S.length
    · subst c
      rw [bifF (decide_eq_false (by omega)), if_pos hp]
    · have hlt : j < S.length := by omega
      rw [bifT (decide_eq_true (by omega)), seat_idx hlt]
      simp only [Option.bind_some]
      rw [badAt]
      by_cases hA : At S j
      · rw [decide_eq_true hA, wrapI (x := (j : Int) + 1) (by omega) (by omega)]
        exact l34_1_eq S hL k1 k2 n (j + 1) (by omega) (by omega) (fun i hi => by
          by_cases e : i = j
          · subst e; exact hA
          · exact hp i (by omega))
      · rw [decide_eq_false hA, if_neg (fun h => hA (h j hlt))]
        rfl

theorem l34_2_eq {R : Type} (S : List T36) (hL : S.length ≤ 20000) (hA : ∀ i, i < S.length → At S i) (k1 k2 : Option R) : ∀ (n j : Nat), j ≤ S.length → S.length - j < n → (∀ i, i < j → lev S i ≤ 4) →
    l34_2 S k1 k2 n j = if ∀ i, i < S.length → lev S i ≤ 4 then k1 else k2
  | 0, j, _, h, _ => by omega
  | n + 1, j, hj, hn, hp => by
    unfold l34_2 s34_2
    by_cases c : j = S.length
    · subst c
      rw [bifF (decide_eq_false (by omega)), if_pos hp]
    · have hlt : j < S.length := by omega
      rw [bifT (decide_eq_true (by omega)), m48_eq S (fun i hi => (hA i hi).2.1) hL j hlt]
      simp only [Option.bind_some]
      by_cases h4 : lev S j ≤ 4
      · rw [bifF (decide_eq_false (by omega)), wrapI (x := (j : Int) + 1) (by omega) (by omega)]
        exact l34_2_eq S hL hA k1 k2 n (j + 1) (by omega) (by omega) (fun i hi => by
          by_cases e : i = j
          · subst e; exact h4
          · exact hp i (by omega))
      · rw [bifT (decide_eq_true (by omega)), if_neg (fun h => h4 (h j hlt))]

theorem m34_eq (S : List T36) (hL : S.length ≤ 20000) : m34 S = some (decide (Right S)) := by
  unfold m34
  have z : (0 : Int) = ((0 : Nat) : Int) := rfl
  rw [z, l34_1_eq S hL _ _ FUEL 0 (by omega) (fuel_lt (by omega)) (by omega)]
  by_cases h : ∀ i, i < S.length → At S i
  · rw [if_pos h, l34_2_eq S hL h _ _ FUEL 0 (by omega) (fuel_lt (by omega)) (by omega)]
    by_cases h2 : ∀ i, i < S.length → lev S i ≤ 4
    · rw [if_pos h2, decide_eq_true (by omega), decide_eq_true (show Right S from ⟨hL, h, h2⟩)]
    · rw [if_neg h2, decide_eq_false (fun hr : Right S => h2 hr.2.2)]
  · rw [if_neg h, decide_eq_false (fun hr : Right S => h hr.2.1)]

/-- A seat that there is. -/
def In (S : List T36) (i : Int) : Prop := 0 ≤ i ∧ i < S.length

instance (S : List T36) (i : Int) : Decidable (In S i) := by unfold In; infer_instance

theorem dec_in (S : List T36) (i : Int) : ((decide (i ≥ 0)) && (decide (i < (List.length S : Int)))) = decide (In S i) := by
  unfold In
  by_cases h1 : 0 ≤ i <;> by_cases h2 : i < S.length <;> simp [h1, h2]

theorem m51_eq (S : List T36) (hL : S.length ≤ 20000) (i : Int) : m51 S i = some (decide (In S i ∧ Right S)) := by
  unfold m51
  rw [dec_in, m34_eq S hL]
  by_cases h1 : In S i <;> by_cases h2 : Right S <;> simp [h1, h2]

def levelS (S : List T36) (i : Int) : Int := if In S i ∧ Right S then (lev S i.toNat : Int) else -1

def rootS (S : List T36) (i : Int) : Int := if In S i ∧ Right S then (root S i.toNat : Int) else -1

theorem dec_out (S : List T36) (b : Bool) (i : Int) : ((!b || decide (i < 0)) || decide (i ≥ (List.length S : Int))) = !(b && decide (In S i)) := by
  unfold In
  by_cases h1 : 0 ≤ i <;> by_cases h2 : i < S.length <;> cases b <;> simp [h1, h2] <;> omega

def LeafP (S : List T36) (i : Int) : Prop := ∀ k, k < S.length → P S k ≠ i

instance (S : List T36) (i : Int) : Decidable (LeafP S i) := by unfold LeafP; infer_instance

theorem l37_eq {R : Type} (S : List T36) (hL : S.length ≤ 20000) (i : Int) (k1 k2 : Option R) : ∀ (n j : Nat), j ≤ S.length → S.length - j < n → (∀ k, k < j → P S k ≠ i) →
    l37_1 S i k1 k2 n j = if LeafP S i then k1 else k2
  | 0, j, _, h, _ => by omega
  | n + 1, j, hj, hn, hp => by
    unfold l37_1 s37_1
    by_cases c : j = S.length
    · subst c
      rw [bifF (decide_eq_false (by omega)), if_pos (show LeafP S i from hp)]
    · have hlt : j < S.length := by omega
      rw [bifT (decide_eq_true (by omega)), seat_idx hlt]
      simp only [Option.bind_some]
      by_cases h : P S j = i
      · rw [bifT (show ((seat S j).1 == i) = true from beq_iff_eq.2 h), if_neg (fun hl => hl j hlt h)]
      · rw [bifF (show ((seat S j).1 == i) = false from beq_eq_false_iff_ne.2 h), wrapI (x := (j : Int) + 1) (by omega) (by omega)]
        exact l37_eq S hL i k1 k2 n (j + 1) (by omega) (by omega) (fun k hk => by
          by_cases e : k = j
          · subst e; exact h
          · exact hp k (by omega))

def leafS (S : List T36) (i : Int) : Bool := decide (Right S ∧ In S i ∧ LeafP S i)

theorem m37_eq (S : List T36) (hL : S.length ≤ 20000) (i : Int) : m37 S i = some (leafS S i) := by
  unfold m37 leafS
  rw [m51_eq S hL]
  have z : (0 : Int) = ((0 : Nat) : Int) := rfl
  by_cases h : In S i ∧ Right S
  · rw [decide_eq_true h]
    simp only [Option.bind_some, Bool.not_true, cond_false]
    rw [z, l37_eq S hL i _ _ FUEL 0 (by omega) (fuel_lt (by omega)) (by omega)]
    by_cases hl : LeafP S i
    · rw [if_pos hl, decide_eq_true (show Right S ∧ In S i ∧ LeafP S i from ⟨h.2, h.1, hl⟩)]
    · rw [if_neg hl, decide_eq_false (fun hh : Right S ∧ In S i ∧ LeafP S i => hl hh.2.2)]
  · rw [decide_eq_false h, decide_eq_false (fun hh : Right S ∧ In S i ∧ LeafP S i => h ⟨hh.2.1, hh.1⟩)]
    rfl

def OkU (S : List T36) (u : List Int) (i : Nat) : Prop := 0 ≤ gI u i ∧ gI u i ≤ 1000000000 ∧ (0 < gI u i → LeafP S i)

instance (S : List T36) (u : List Int) (i : Nat) : Decidable (OkU S u i) := by unfold OkU; infer_instance

def Valid (S : List T36) (u : List Int) : Prop := Right S ∧ u.length = S.length ∧ (∀ i, i < S.length → OkU S u i) ∧ sumN (gI u) S.length ≤ 1000000000

instance (S : List T36) (u : List Int) : Decidable (Valid S u) := by unfold Valid; infer_instance

def Flags (S : List T36) (j : Nat) (o : List Bool) : Prop := o.length = S.length ∧ ∀ i, i < S.length → ∃ b, o[i]? = some b ∧ (b = true ↔ ∃ k, k < j ∧ P S k = i)

theorem flags0 (S : List T36) : Flags S 0 (List.replicate S.length false) := ⟨by simp, fun i hi => ⟨false, by rw [List.getElem?_replicate, if_pos hi], by simp⟩⟩

theorem l19_eq {R : Type} (S : List T36) (u : List Int) (hr : Right S) (hl : u.length = S.length) (k1 : Int → Option R) (k2 : Option R) : ∀ (n j : Nat), j ≤ S.length → S.length - j < n → (∀ i, i < j → OkU S u i) →
    l19_1 S u k1 k2 n (sumN (gI u) j) j = if ∀ i, i < S.length → OkU S u i then k1 (sumN (gI u) S.length) else k2
  | 0, j, _, h, _ => by omega
  | n + 1, j, hj, hn, hp => by
    have hL := hr.1
    unfold l19_1 s19_1
    by_cases c : j = S.length
    · subst c
      rw [bifF (decide_eq_false (by omega)), if_pos hp]
    · have hlt : j < S.length := by omega
      have ig : ∀ g : Bool, idxG g 0 u (j : Int) = some (bif g then gI u j else 0) := by
        intro g
        unfold idxG
        rw [idx_nat, gI_get (by omega)]
        cases g <;> rfl
      rw [bifT (decide_eq_true (by omega)), idx_nat, gI_get (by omega)]
      simp only [Option.bind_some, ig, m37_eq S hL]
      have hsum : 0 ≤ sumN (gI u) j ∧ sumN (gI u) j ≤ 1000000000 * j := by
        constructor
        · exact sumN_nonneg (fun i hi => (hp i hi).1)
        · have := sumN_le (f := gI u) (g := fun _ => 1000000000) (n := j) (fun i hi => (hp i hi).2.1)
          have e : ∀ n : Nat, sumN (fun _ => (1000000000 : Int)) n = 1000000000 * n := by
            intro n; induction n with
            | zero => rfl
            | succ n ih => simp only [sumN, ih]; omega
          rw [e] at this; exact this
      have hin : In S (j : Int) := ⟨by omega, by omega⟩
      by_cases hok : OkU S u j
      · obtain ⟨q1, q2, q3⟩ := hok
        rw [decide_eq_false (show ¬ gI u j < 0 by omega)]
        simp only [beq_self_eq_true, cond_true, Bool.false_or]
        rw [decide_eq_false (show ¬ gI u j > 1000000000 by omega)]
        simp only [beq_self_eq_true, cond_true, Bool.true_and, Bool.false_or]
        have fin : ∀ r5 : Bool, (decide (gI u j > 0) && !r5) = false → (bif decide (gI u j > 0) && !r5 then k2 else l19_1 S u k1 k2 n (IntKind.i64.wrap (sumN (gI u) j + gI u j)) (IntKind.i64.wrap ((j : Int) + 1))) = if ∀ i, i < S.length → OkU S u i then k1 (sumN (gI u) S.length) else k2 := by
          intro r5 h5
          rw [h5]
          simp only [cond_false]
          rw [wrapI (x := sumN (gI u) j + gI u j) (by omega) (by omega), wrapI (x := (j : Int) + 1) (by omega) (by omega)]
          exact l19_eq S u hr hl k1 k2 n (j + 1) (by omega) (by omega) (fun i hi => by
            by_cases e : i = j
            · subst e; exact ⟨q1, q2, q3⟩
            · exact hp i (by omega))
        by_cases hpos : gI u j > 0
        · rw [decide_eq_true hpos]
          simp only [beq_self_eq_true, cond_true, Option.bind_some]
          have : leafS S (j : Int) = true := decide_eq_true ⟨hr, hin, q3 hpos⟩
          rw [this]
          have := fin true (by simp)
          rw [decide_eq_true hpos] at this
          exact this
        · rw [decide_eq_false hpos]
          have := fin false (by simp [hpos])
          rw [decide_eq_false hpos] at this
          exact this
      · rw [if_neg (fun h => hok (h j hlt))]
        unfold OkU at hok
        by_cases c1 : gI u j < 0
        · simp [c1]
        · by_cases c2 : gI u j > 1000000000
          · simp [c1, c2]
          · have c3 : 0 < gI u j ∧ ¬ LeafP S j := by
              by_cases c4 : 0 < gI u j
              · exact ⟨c4, fun h => hok ⟨by omega, by omega, fun _ => h⟩⟩
              · exact absurd ⟨by omega, by omega, fun h => absurd h c4⟩ hok
            have : leafS S (j : Int) = false := decide_eq_false (fun h => c3.2 h.2.2)
            simp [c1, c2, c3.1, this]

theorem m19_eq (S : List T36) (u : List Int) (hL : S.length ≤ 20000) : m19 S u = some (decide (Valid S u)) := by
  unfold m19
  rw [m34_eq S hL]
  simp only [Option.bind_some]
  by_cases hr : Right S
  · rw [decide_eq_true hr]
    by_cases hl : u.length = S.length
    · rw [bifF (by simp; omega)]
      have := l19_eq S u hr hl (fun y8 => some (decide (y8 ≤ 1000000000))) (some false) FUEL 0 (by omega) (fuel_lt (by have := hr.1; omega)) (by omega)
      simp only [Int.natCast_zero, sumN] at this
      rw [this]
      by_cases h : ∀ i, i < S.length → OkU S u i
      · rw [if_pos h]
        by_cases h2 : sumN (gI u) S.length ≤ 1000000000
        · rw [decide_eq_true h2, decide_eq_true (show Valid S u from ⟨hr, hl, h, h2⟩)]
        · rw [decide_eq_false h2, decide_eq_false (fun hv : Valid S u => h2 hv.2.2.2)]
      · rw [if_neg h, decide_eq_false (fun hv : Valid S u => h hv.2.2.1)]
    · rw [bifT (by simp; omega), decide_eq_false (fun hv : Valid S u => hl hv.2.1)]
  · rw [decide_eq_false hr, decide_eq_false (fun hv : Valid S u => hr hv.1)]
    rfl

def belF (S : List T36) : Nat → Nat → Nat → Bool
  | 0, _, _ => false
  | n + 1, i, j => decide (i = j) || (decide (0 ≤ P S i) && belF S n (P S i).toNat j)

def below (S : List T36) (i j : Nat) : Bool := belF S (i + 1) i j

theorem belF_fuel {S : List T36} (j : Nat) : ∀ (p n m : Nat), Up S (p + 1) → p < n → p < m → belF S n p j = belF S m p j
  | p, n, m, hu, hn, hm => by
    match n, m, hn, hm with
    | n + 1, m + 1, hn, hm =>
      simp only [belF]
      by_cases h : 0 ≤ P S p
      · have := hu p (by omega)
        rw [belF_fuel j (P S p).toNat n m (fun i hi => hu i (by omega)) (by omega) (by omega)]
      · simp [h]
termination_by p => p
decreasing_by have := hu p (by omega); omega

theorem below_eq {S : List T36} {i : Nat} (hu : Up S (i + 1)) (j : Nat) : below S i j = (decide (i = j) || (decide (0 ≤ P S i) && below S (P S i).toNat j)) := by
  have := hu i (by omega)
  unfold below
  have e : belF S (i + 1) i j = (decide (i = j) || (decide (0 ≤ P S i) && belF S i (P S i).toNat j)) := rfl
  rw [e]
  by_cases h : 0 ≤ P S i
  · rw [belF_fuel j (P S i).toNat i ((P S i).toNat + 1) (fun k hk => hu k (by omega)) (by omega) (by omega)]
  · simp [h]

theorem below_le {S : List T36} : ∀ (i j : Nat), Up S (i + 1) → below S i j = true → j ≤ i
  | i, j, hu, h => by
    rw [below_eq hu] at h
    simp only [Bool.or_eq_true, Bool.and_eq_true, decide_eq_true_eq] at h
    rcases h with h | ⟨h1, h2⟩
    · omega
    · have := hu i (by omega)
      have := below_le (P S i).toNat j (fun k hk => hu k (by omega)) h2
      omega
termination_by i => i
decreasing_by have := hu i (by omega); omega

/-- A seat is below another one: it is it, or below exactly one of those whose Parent it is. -/
theorem below_split {S : List T36} (hU : Up S S.length) (v : Int) : ∀ (i j : Nat), i < S.length → j < S.length →
    (if below S i j = true then v else 0) = (if i = j then v else 0) + sumN (fun c => if P S c = j then (if below S i c = true then v else 0) else 0) S.length
  | i, j, hi, hj => by
    have hu : Up S (i + 1) := fun k hk => hU k (by omega)
    have hPi := hU i hi
    by_cases e : i = j
    · subst e
      have hb : below S i i = true := by rw [below_eq hu]; simp
      rw [if_pos hb, if_pos rfl, sumN_none]
      · omega
      · intro c hc
        by_cases h : P S c = i
        · rw [if_pos h]
          have := hU c hc
          rw [if_neg]
          intro hb
          have := below_le i c hu hb
          omega
        · rw [if_neg h]
    · rw [if_neg e]
      by_cases h0 : 0 ≤ P S i
      · have hp : (P S i).toNat < S.length := by omega
        have ih := below_split hU v (P S i).toNat j hp hj
        have eb : ∀ c, below S i c = (decide (i = c) || below S (P S i).toNat c) := by
          intro c; rw [below_eq hu, decide_eq_true h0, Bool.true_and]
        rw [eb, decide_eq_false e, Bool.false_or]
        rw [ih]
        by_cases e2 : (P S i).toNat = j
        · rw [if_pos e2]
          have z : sumN (fun c => if P S c = j then (if below S (P S i).toNat c = true then v else 0) else 0) S.length = 0 := by
            apply sumN_none
            intro c hc
            by_cases h : P S c = j
            · rw [if_pos h]
              have := hU c hc
              rw [if_neg]
              intro hb
              have := below_le (P S i).toNat c (fun k hk => hU k (by omega)) hb
              omega
            · rw [if_neg h]
          rw [z]
          have o : sumN (fun c => if P S c = j then (if below S i c = true then v else 0) else 0) S.length = (if P S i = j then (if below S i i = true then v else 0) else 0) := by
            refine sumN_one (k := i) hi ?_
            intro c hc hne
            by_cases h : P S c = j
            · rw [if_pos h, if_neg]
              rw [eb, decide_eq_false (fun x => hne x.symm), Bool.false_or]
              intro hb
              have := hU c hc
              have := below_le (P S i).toNat c (fun k hk => hU k (by omega)) hb
              omega
            · rw [if_neg h]
          rw [o, if_pos (by omega), if_pos (by rw [below_eq hu]; simp)]
          omega
        · rw [if_neg e2]
          congr 1
          apply sumN_congr
          intro c hc
          by_cases h : P S c = j
          · rw [if_pos h, if_pos h, eb, decide_eq_false (fun x : i = c => by subst x; omega), Bool.false_or]
          · rw [if_neg h, if_neg h]
      · have eb : ∀ c, below S i c = decide (i = c) := by
          intro c; rw [below_eq hu, decide_eq_false h0]; simp
        rw [eb, if_neg (by simpa using e), sumN_none]
        · rfl
        · intro c hc
          by_cases h : P S c = j
          · rw [if_pos h, eb, if_neg]
            simp only [decide_eq_true_eq]
            intro x; subst x; omega
          · rw [if_neg h]
termination_by i => i
decreasing_by omega

/-- What a seat has. -/
def has (S : List T36) (u : List Int) (j : Nat) : Int := sumN (fun i => if below S i j = true then gI u i else 0) S.length

theorem has_eq {S : List T36} (hU : Up S S.length) (u : List Int) {j : Nat} (hj : j < S.length) : has S u j = gI u j + sumN (fun c => if P S c = j then has S u c else 0) S.length := by
  unfold has
  rw [sumN_congr (fun i hi => below_split hU (gI u i) i j hi hj), sumN_add]
  congr 1
  · rw [sumN_one (k := j) hj (fun i hi hne => if_neg hne), if_pos rfl]
  · rw [sumN_swap]
    apply sumN_congr
    intro c hc
    by_cases h : P S c = j
    · simp only [if_pos h]
    · simp only [if_neg h]
      rw [sumN_zero]

theorem Valid.hl {S : List T36} {u : List Int} (h : Valid S u) : S.length ≤ 20000 := h.1.1

theorem Valid.nn {S : List T36} {u : List Int} (h : Valid S u) {i : Nat} (hi : i < S.length) : 0 ≤ gI u i ∧ gI u i ≤ 1000000000 := ⟨(h.2.2.1 i hi).1, (h.2.2.1 i hi).2.1⟩

theorem has_b {S : List T36} {u : List Int} (h : Valid S u) (j : Nat) : 0 ≤ has S u j ∧ has S u j ≤ 1000000000 := by
  constructor
  · exact sumN_nonneg (fun i hi => by have := h.nn hi; split <;> omega)
  · have : has S u j ≤ sumN (gI u) S.length := sumN_le (fun i hi => by have := h.nn hi; split <;> omega)
    have := h.2.2.2
    omega

/-- What stands in the sums, when the seats from m on are done. -/
def part (S : List T36) (u : List Int) (m j : Nat) : Int := gI u j + sumN (fun c => if m ≤ c ∧ P S c = j then has S u c else 0) S.length

theorem part_b {S : List T36} {u : List Int} (h : Valid S u) (m : Nat) {j : Nat} (hj : j < S.length) : 0 ≤ part S u m j ∧ part S u m j ≤ has S u j := by
  have hn := h.nn hj
  constructor
  · have := sumN_nonneg (f := fun c => if m ≤ c ∧ P S c = j then has S u c else 0) (n := S.length) (fun c hc => by have := has_b h c; split <;> omega)
    unfold part; omega
  · rw [has_eq h.1.up u hj]
    unfold part
    have := sumN_le (f := fun c => if m ≤ c ∧ P S c = j then has S u c else 0) (g := fun c => if P S c = j then has S u c else 0) (n := S.length) (fun c hc => by
      have := has_b h c
      by_cases h1 : P S c = j
      · by_cases h2 : m ≤ c
        · rw [if_pos ⟨h2, h1⟩, if_pos h1]; omega
        · rw [if_neg (fun x => h2 x.1), if_pos h1]; omega
      · rw [if_neg (fun x => h1 x.2), if_neg h1]; omega)
    omega

theorem part_full {S : List T36} {u : List Int} (h : Valid S u) (m : Nat) {j : Nat} (hj : j < S.length) (hm : m ≤ j + 1) : part S u m j = has S u j := by
  rw [has_eq h.1.up u hj]
  unfold part
  congr 1
  apply sumN_congr
  intro c hc
  by_cases h1 : P S c = j
  · have := h.1.up c hc
    rw [if_pos ⟨by omega, h1⟩, if_pos h1]
  · rw [if_neg (fun x => h1 x.2), if_neg h1]

theorem part_step {S : List T36} {u : List Int} (h : Valid S u) {m : Nat} (hm : m < S.length) (j : Nat) : part S u m j = part S u (m + 1) j + (if P S m = j then has S u m else 0) := by
  unfold part
  have e : ∀ c, (if m ≤ c ∧ P S c = j then has S u c else 0) = (if m + 1 ≤ c ∧ P S c = j then has S u c else 0) + (if c = m then (if P S m = j then has S u m else 0) else 0) := by
    intro c
    by_cases h1 : c = m
    · subst h1
      rw [if_pos rfl, if_neg (show ¬ (c + 1 ≤ c ∧ P S c = j) by omega)]
      by_cases h2 : P S c = j
      · rw [if_pos ⟨by omega, h2⟩, if_pos h2]; omega
      · rw [if_neg (fun x => h2 x.2), if_neg h2]; omega
    · rw [if_neg h1]
      by_cases h2 : m + 1 ≤ c ∧ P S c = j
      · rw [if_pos h2, if_pos ⟨by omega, h2.2⟩]; omega
      · rw [if_neg h2, if_neg (fun x => h2 ⟨by omega, x.2⟩)]; omega
  rw [sumN_congr (fun c _ => e c), sumN_add, sumN_one (f := fun c => if c = m then (if P S m = j then has S u m else 0) else 0) (k := m) hm (fun i _ hne => if_neg hne), if_pos rfl]
  omega

def heldS (S : List T36) (u : List Int) (s : Int) : Int := if Valid S u ∧ In S s then has S u s.toNat else 0

theorem l35_eq {R : Type} (S : List T36) (hU : Up S S.length) (t : Nat) (k : Int → Option R) : ∀ (n i : Nat), i < S.length → i < n → ∃ y : Nat, l35_1 S (t : Int) k n i = k y ∧ (decide (y = t) = below S i t)
  | 0, i, _, h => by omega
  | n + 1, i, hi, hn => by
    have hu : Up S (i + 1) := fun j hj => hU j (by omega)
    have hP := hU i hi
    have ig : ∀ g : Bool, idxG g (0, 0, ()) S (i : Int) = some (bif g then seat S i else (0, 0, ())) := by
      intro g
      unfold idxG
      rw [seat_idx hi]
      cases g <;> rfl
    unfold l35_1 s35_1
    rw [ig]
    simp only [Option.bind_some]
    by_cases e : i = t
    · subst e
      rw [bifF (by simp)]
      exact ⟨i, rfl, by rw [below_eq hu]; simp⟩
    · have hne : ((i : Int) != (t : Int)) = true := bne_ne (by omega)
      rw [hne]
      simp only [beq_self_eq_true, cond_true, Bool.true_and]
      by_cases h0 : 0 ≤ P S i
      · rw [bifT (decide_eq_true (show (seat S i).1 ≥ 0 from h0)), seat_idx hi]
        simp only [Option.bind_some]
        have e1 : (seat S i).1 = (((P S i).toNat : Nat) : Int) := by show P S i = _; omega
        rw [e1]
        obtain ⟨y, q1, q2⟩ := l35_eq S hU t k n (P S i).toNat (by omega) (by omega)
        exact ⟨y, q1, by rw [q2, below_eq hu, decide_eq_false e, decide_eq_true h0]; simp⟩
      · rw [bifF (decide_eq_false (show ¬ (seat S i).1 ≥ 0 from h0))]
        exact ⟨i, rfl, by rw [below_eq hu, decide_eq_false e, decide_eq_false h0]; simp⟩

theorem m35_eq (S : List T36) (hr : Right S) (i t : Nat) (hi : i < S.length) : m35 S i t = some (below S i t) := by
  unfold m35
  obtain ⟨y, q1, q2⟩ := l35_eq S hr.up t (fun y3 => some (y3 == (t : Int))) FUEL i hi (fuel_lt (by have := hr.1; omega))
  rw [q1, ← q2]
  congr 1
  rw [Bool.eq_iff_iff]
  simp
  omega

def mvU (u : List Int) (f t : Nat) (n : Int) : List Int := (u.set f (gI u f - n)).set t (gI (u.set f (gI u f - n)) t + n)

def moveS (S : List T36) (u : List Int) (f t n : Int) : List Int × Int × Unit :=
  if ¬ Valid S u ∨ n < 1 then ([], 1, ()) else if ¬ (In S f ∧ LeafP S f) ∨ ¬ (In S t ∧ LeafP S t) then ([], 4, ()) else
  if gI u f.toNat < n then ([], 22, ()) else (mvU u f.toNat t.toNat n, 0, ())

theorem mvU_len (u : List Int) (f t : Nat) (n : Int) : (mvU u f t n).length = u.length := by unfold mvU; simp

theorem mvU_get {u : List Int} {f t : Nat} {n : Int} (hf : f < u.length) (ht : t < u.length) (i : Nat) : gI (mvU u f t n) i = gI u i - (if i = f then n else 0) + (if i = t then n else 0) := by
  unfold mvU
  rw [gI_set (by simpa using ht), gI_set hf, gI_set hf]
  by_cases h1 : i = t
  · subst h1
    by_cases h2 : i = f
    · subst h2; simp
    · simp [h2]
  · by_cases h2 : i = f
    · subst h2; simp [h1]
    · simp [h1, h2]

def Few (S : List T36) (u : List Int) : Prop := S.length ≤ 30 ∧ u.length ≤ 40

instance (S : List T36) (u : List Int) : Decidable (Few S u) := by unfold Few; infer_instance

theorem moveS_len (S : List T36) (u : List Int) (f t n : Int) : (moveS S u f t n).1.length ≤ u.length := by
  unfold moveS
  repeat' split
  · exact Nat.zero_le _
  · exact Nat.zero_le _
  · exact Nat.zero_le _
  · rw [mvU_len]; exact Nat.le_refl _

theorem roots_sum {S : List T36} {u : List Int} (hv : Valid S u) : sumN (fun i => if P S i < 0 then has S u i else 0) S.length = sumN (gI u) S.length := by
  have h1 : sumN (has S u) S.length = sumN (gI u) S.length + sumN (fun j => sumN (fun c => if P S c = j then has S u c else 0) S.length) S.length := by
    rw [← sumN_add]
    exact sumN_congr (fun j hj => has_eq hv.1.up u hj)
  rw [sumN_swap] at h1
  have h2 : sumN (fun c => sumN (fun j : Nat => if P S c = (j : Int) then has S u c else 0) S.length) S.length = sumN (fun c => if 0 ≤ P S c then has S u c else 0) S.length := by
    apply sumN_congr
    intro c hc
    have hP := hv.1.up c hc
    by_cases h : 0 ≤ P S c
    · rw [if_pos h, sumN_one (k := (P S c).toNat) (by omega) (fun j hj hne => if_neg (by omega)), if_pos (by omega)]
    · rw [if_neg h, sumN_none (fun j hj => if_neg (by omega))]
  rw [h2] at h1
  have h3 : sumN (has S u) S.length = sumN (fun c => if 0 ≤ P S c then has S u c else 0) S.length + sumN (fun i => if P S i < 0 then has S u i else 0) S.length := by
    rw [← sumN_add]
    apply sumN_congr
    intro c hc
    by_cases h : 0 ≤ P S c
    · rw [if_pos h, if_neg (by omega)]; omega
    · rw [if_neg h, if_pos (by omega)]; omega
  omega

theorem sum_mv {u : List Int} {f t : Nat} {n : Int} (hf : f < u.length) (ht : t < u.length) {L : Nat} (hL : u.length = L) : sumN (gI (mvU u f t n)) L = sumN (gI u) L := by
  rw [sumN_congr (fun i _ => mvU_get hf ht i), sumN_add, sumN_sub]
  rw [sumN_one (f := fun i => if i = f then n else 0) (k := f) (by omega) (fun i _ hne => if_neg hne), sumN_one (f := fun i => if i = t then n else 0) (k := t) (by omega) (fun i _ hne => if_neg hne), if_pos rfl, if_pos rfl]
  omega

theorem valid_mv {S : List T36} {u : List Int} (hv : Valid S u) {f t : Nat} {n : Int} (hf : f < S.length) (ht : t < S.length) (lf : LeafP S (f : Int)) (lt : LeafP S (t : Int)) (h1 : 1 ≤ n) (h2 : n ≤ gI u f) : Valid S (mvU u f t n) := by
  have hul := hv.2.1
  have hs := sum_mv (u := u) (f := f) (t := t) (n := n) (by omega) (by omega) hul
  have hnn : ∀ i, i < S.length → 0 ≤ gI (mvU u f t n) i := by
    intro i hi
    rw [mvU_get (by omega) (by omega)]
    have := (hv.nn hi).1
    by_cases e : i = f
    · subst e; simp; split <;> omega
    · simp [e]; split <;> omega
  refine ⟨hv.1, by rw [mvU_len]; exact hul, fun i hi => ⟨hnn i hi, ?_, ?_⟩, by rw [hs]; exact hv.2.2.2⟩
  · have := sumN_part (f := gI (mvU u f t n)) (n := S.length) hi hnn
    have := hv.2.2.2
    omega
  · intro hpos
    rw [mvU_get (by omega) (by omega)] at hpos
    by_cases e1 : i = f
    · subst e1; exact lf
    · by_cases e2 : i = t
      · subst e2; exact lt
      · simp only [if_neg e1, if_neg e2] at hpos
        exact (hv.2.2.1 i hi).2.2 (by omega)

theorem has_mv {S : List T36} {u : List Int} (hul : u.length = S.length) {f t : Nat} {n : Int} (hf : f < S.length) (ht : t < S.length) (j : Nat) :
    has S (mvU u f t n) j = has S u j - (if below S f j = true then n else 0) + (if below S t j = true then n else 0) := by
  unfold has
  have e : ∀ i, (if below S i j = true then gI (mvU u f t n) i else 0) = (if below S i j = true then gI u i else 0) - (if i = f then (if below S f j = true then n else 0) else 0) + (if i = t then (if below S t j = true then n else 0) else 0) := by
    intro i
    rw [mvU_get (by omega) (by omega)]
    by_cases e1 : i = f
    · by_cases e2 : i = t
      · subst e1; subst e2; simp <;> (split <;> omega)
      · subst e1; simp [e2] <;> (split <;> omega)
    · by_cases e2 : i = t
      · subst e2; simp [e1]; split <;> omega
      · simp [e1, e2]
  rw [sumN_congr (fun i _ => e i), sumN_add, sumN_sub]
  rw [sumN_one (f := fun i => if i = f then (if below S f j = true then n else 0) else 0) (k := f) hf (fun i _ hne => if_neg hne), sumN_one (f := fun i => if i = t then (if below S t j = true then n else 0) else 0) (k := t) ht (fun i _ hne => if_neg hne), if_pos rfl, if_pos rfl]

theorem moveS_ok {S : List T36} {u : List Int} (hv : Valid S u) {f t : Nat} {n : Int} (hf : f < S.length) (ht : t < S.length) (lf : LeafP S (f : Int)) (lt : LeafP S (t : Int)) (h1 : 1 ≤ n) (h2 : n ≤ gI u f) : moveS S u f t n = (mvU u f t n, 0, ()) := by
  unfold moveS
  have i1 : In S (f : Int) ∧ LeafP S (f : Int) := ⟨by constructor <;> omega, lf⟩
  have i2 : In S (t : Int) ∧ LeafP S (t : Int) := ⟨by constructor <;> omega, lt⟩
  have ep : ((f : Int)).toNat = f := by omega
  have eq : ((t : Int)).toNat = t := by omega
  rw [if_neg (by simp [hv]; omega), if_neg (by simp [i1, i2]), ep, eq, if_neg (by omega)]

theorem moveS_few {S : List T36} {u : List Int} (hv : Valid S u) {f t : Nat} {n : Int} (hf : f < S.length) (ht : t < S.length) (lf : LeafP S (f : Int)) (lt : LeafP S (t : Int)) (h1 : 1 ≤ n) (h2 : gI u f < n) : moveS S u f t n = ([], 22, ()) := by
  unfold moveS
  have i1 : In S (f : Int) ∧ LeafP S (f : Int) := ⟨by constructor <;> omega, lf⟩
  have i2 : In S (t : Int) ∧ LeafP S (t : Int) := ⟨by constructor <;> omega, lt⟩
  have ep : ((f : Int)).toNat = f := by omega
  have eq : ((t : Int)).toNat = t := by omega
  rw [if_neg (by simp [hv]; omega), if_neg (by simp [i1, i2]), ep, if_pos h2]

/-- Where a move is done. -/
theorem moveS_is {S : List T36} {u : List Int} {f t n : Int} (h : (moveS S u f t n).2.1 = 0) : Valid S u ∧ 1 ≤ n ∧ ∃ p q : Nat, f = p ∧ t = q ∧ p < S.length ∧ q < S.length ∧ LeafP S (p : Int) ∧ LeafP S (q : Int) ∧ n ≤ gI u p := by
  unfold moveS at h
  split at h
  · simp at h
  · rename_i c1
    split at h
    · simp at h
    · rename_i c2
      split at h
      · simp at h
      · rename_i c3
        have hv : Valid S u := Classical.byContradiction fun x => c1 (.inl x)
        have hf : In S f ∧ LeafP S f := Classical.byContradiction fun x => c2 (.inl x)
        have ht : In S t ∧ LeafP S t := Classical.byContradiction fun x => c2 (.inr x)
        have hn : ¬ n < 1 := fun x => c1 (.inr x)
        obtain ⟨p, rfl⟩ : ∃ p : Nat, f = p := ⟨f.toNat, by have := hf.1.1; omega⟩
        obtain ⟨q, rfl⟩ : ∃ q : Nat, t = q := ⟨t.toNat, by have := ht.1.1; omega⟩
        have ep : ((p : Int)).toNat = p := by omega
        rw [ep] at c3
        exact ⟨hv, by omega, p, q, rfl, rfl, by have := hf.1.2; omega, by have := ht.1.2; omega, hf.2, ht.2, by omega⟩

theorem mv_ext {u : List Int} {a b : List Int} (ha : a.length = u.length) (hb : b.length = u.length) (h : ∀ i, i < u.length → gI a i = gI b i) : a = b :=
  ext_gI (by omega) (fun i hi => h i (by omega))

end Go.Proofs.Ytjoehgmdkeigiaa
