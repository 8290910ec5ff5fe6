/- Seats: levels, roots, leaves. -/
import Derived.Test.YtndflpanccagbaaB2
namespace Go.Proofs.Ytndflpanccagbaa
open Go Go.Eng
set_option linter.unusedVariables false
set_option linter.unusedSimpArgs false

/-- The root of a seat. -/
def rootF (S : List T35) : Nat → Nat → Nat
  | 0, i => i
  | n + 1, i => if 0 ≤ P S i then rootF S n (P S i).toNat else i
def root (S : List T35) (i : Nat) : Nat := rootF S (i + 1) i

theorem rootF_fuel {S : List T35} : ∀ (p n m : Nat), Up S (p + 1) → p < n → p < m → rootF S n p = rootF S m p
  | p, n, m, hu, hn, hm => by
    match n, m, hn, hm with
    | n + 1, m + 1, hn, hm =>
      simp only [rootF]
      by_cases h : 0 ≤ P S p
      · rw [if_pos h, if_pos h]
        have := hu p (by omega)
        exact rootF_fuel (P S p).toNat n m (fun i hi => hu i (by omega)) (by omega) (by omega)
      · rw [if_neg h, if_neg h]
termination_by p => p
decreasing_by have := hu p (by omega); omega

theorem root_eq {S : List T35} {i : Nat} (hu : Up S (i + 1)) : root S i = if 0 ≤ P S i then root S (P S i).toNat else i := by
  have := hu i (by omega)
  by_cases h : 0 ≤ P S i
  · rw [if_pos h]
    unfold root
    have e : rootF S (i + 1) i = if 0 ≤ P S i then rootF S i (P S i).toNat else i := rfl
    rw [e, if_pos h, rootF_fuel (P S i).toNat i ((P S i).toNat + 1) (fun j hj => hu j (by omega)) (by omega) (by omega)]
  · rw [if_neg h]
    unfold root
    simp only [rootF]
    rw [if_neg h]

theorem l17_eq {R : Type} (S : List T35) (hu : Up S S.length) (k : Int → Option R) : ∀ (n i : Nat), i < S.length → i < n → l17_1 S k n i = k (root S i)
  | 0, i, _, h => by omega
  | n + 1, i, hi, hn => by
    have hup : Up S (i + 1) := fun j hj => hu j (by omega)
    have hP := hu i hi
    unfold l17_1 s17_1
    rw [seat_idx hi]
    simp only [Option.bind_some]
    rw [root_eq hup]
    by_cases h : 0 ≤ P S i
    · rw [bifT (decide_eq_true (show (seat S i).1 ≥ 0 from h)), if_pos h]
      have e : (seat S i).1 = (((P S i).toNat : Nat) : Int) := by show P S i = _; omega
      rw [e]
      exact l17_eq S hu k n (P S i).toNat (by omega) (by omega)
    · rw [bifF (decide_eq_false (show ¬ (seat S i).1 ≥ 0 from h)), if_neg h]

theorem l18_eq {R : Type} (S : List T35) (hu : Up S S.length) (k : Int → Option R) : ∀ (n i : Nat), i < S.length → i < n → l18_1 S k n i = k (root S i)
  | 0, i, _, h => by omega
  | n + 1, i, hi, hn => by
    have hup : Up S (i + 1) := fun j hj => hu j (by omega)
    have hP := hu i hi
    unfold l18_1 s18_1
    rw [seat_idx hi]
    simp only [Option.bind_some]
    rw [root_eq hup]
    by_cases h : 0 ≤ P S i
    · rw [bifT (decide_eq_true (show (seat S i).1 ≥ 0 from h)), if_pos h]
      have e : (seat S i).1 = (((P S i).toNat : Nat) : Int) := by show P S i = _; omega
      rw [e]
      exact l18_eq S hu k n (P S i).toNat (by omega) (by omega)
    · rw [bifF (decide_eq_false (show ¬ (seat S i).1 ≥ 0 from h)), if_neg h]

theorem l30_eq {R : Type} (S : List T35) (hu : Up S S.length) (hL : S.length ≤ 20000) (k : Int → Option R) : ∀ (n i : Nat) (a : Int), i < S.length → i < n → 0 ≤ a → a ≤ 100000 - i → l30_1 S k n i a = k (a + lev S i)
  | 0, i, a, _, h, _, _ => by omega
  | n + 1, i, a, hi, hn, h0, h1 => by
    have hup : Up S (i + 1) := fun j hj => hu j (by omega)
    have hP := hu i hi
    unfold l30_1 s30_1
    rw [seat_idx hi]
    simp only [Option.bind_some]
    rw [lev_eq hup]
    by_cases h : 0 ≤ P S i
    · rw [bifT (decide_eq_true (show (seat S i).1 ≥ 0 from h)), if_pos h]
      have e : (seat S i).1 = (((P S i).toNat : Nat) : Int) := by show P S i = _; omega
      rw [e, wrapI (x := a + 1) (by omega) (by omega), l30_eq S hu hL k n (P S i).toNat (a + 1) (by omega) (by omega) (by omega) (by omega)]
      congr 1
      omega
    · rw [bifF (decide_eq_false (show ¬ (seat S i).1 ≥ 0 from h)), if_neg h]
      simp

theorem m30_eq (S : List T35) (hu : Up S S.length) (hL : S.length ≤ 20000) (i : Nat) (hi : i < S.length) : m30 S i = some (lev S i : Int) := by
  unfold m30
  rw [l30_eq S hu hL _ FUEL i 0 hi (fuel_lt (by omega)) (by omega) (by omega)]
  simp

/-! ### The reference's Right (at most 20000 seats) -/

theorem l14_1_eq {R : Type} (S : List T35) (hL : S.length ≤ 20000) (k1 k2 : Option R) : ∀ (n j : Nat), j ≤ S.length → S.length - j < n → (∀ i, i < j → At S i) →
    l14_1 S k1 k2 n j = if ∀ i, i < S.length → At S i then k1 else k2
  | 0, j, _, h, _ => by omega
  | n + 1, j, hj, hn, hp => by
    unfold l14_1 s14_1
    by_cases c : j = S.length
    · subst c
      rw [bifF (decide_eq_false (by omega)), if_pos hp]
    · have hlt : j < S.length := by omega
      rw [bifT (decide_eq_true (by omega)), seat_idx hlt]
      simp only [Option.bind_some]
      rw [badAt]
      by_cases hA : At S j
      · rw [decide_eq_true hA, wrapI (x := (j : Int) + 1) (by omega) (by omega)]
        exact l14_1_eq S hL k1 k2 n (j + 1) (by omega) (by omega) (fun i hi => by
          by_cases e : i = j
          · subst e; exact hA
          · exact hp i (by omega))
      · rw [decide_eq_false hA, if_neg (fun h => hA (h j hlt))]
        rfl

theorem l14_2_eq {R : Type} (S : List T35) (hL : S.length ≤ 20000) (hA : ∀ i, i < S.length → At S i) (k1 k2 : Option R) : ∀ (n j : Nat), j ≤ S.length → S.length - j < n → (∀ i, i < j → lev S i ≤ 4) →
    l14_2 S k1 k2 n j = if ∀ i, i < S.length → lev S i ≤ 4 then k1 else k2
  | 0, j, _, h, _ => by omega
  | n + 1, j, hj, hn, hp => by
    unfold l14_2 s14_2
    by_cases c : j = S.length
    · subst c
      rw [bifF (decide_eq_false (by omega)), if_pos hp]
    · have hlt : j < S.length := by omega
      rw [bifT (decide_eq_true (by omega)), m30_eq S (fun i hi => (hA i hi).2.1) hL j hlt]
      simp only [Option.bind_some]
      by_cases h4 : lev S j ≤ 4
      · rw [bifF (decide_eq_false (by omega)), wrapI (x := (j : Int) + 1) (by omega) (by omega)]
        exact l14_2_eq S hL hA k1 k2 n (j + 1) (by omega) (by omega) (fun i hi => by
          by_cases e : i = j
          · subst e; exact h4
          · exact hp i (by omega))
      · rw [bifT (decide_eq_true (by omega)), if_neg (fun h => h4 (h j hlt))]

theorem m14_eq (S : List T35) (hL : S.length ≤ 20000) : m14 S = some (decide (Right S)) := by
  unfold m14
  have z : (0 : Int) = ((0 : Nat) : Int) := rfl
  rw [z, l14_1_eq S hL _ _ FUEL 0 (by omega) (fuel_lt (by omega)) (by omega)]
  by_cases h : ∀ i, i < S.length → At S i
  · rw [if_pos h, l14_2_eq S hL h _ _ FUEL 0 (by omega) (fuel_lt (by omega)) (by omega)]
    by_cases h2 : ∀ i, i < S.length → lev S i ≤ 4
    · rw [if_pos h2, decide_eq_true (by omega), decide_eq_true (show Right S from ⟨hL, h, h2⟩)]
    · rw [if_neg h2, decide_eq_false (fun hr : Right S => h2 hr.2.2)]
  · rw [if_neg h, decide_eq_false (fun hr : Right S => h hr.2.1)]

/-- A seat that there is. -/
def In (S : List T35) (i : Int) : Prop := 0 ≤ i ∧ i < S.length
instance (S : List T35) (i : Int) : Decidable (In S i) := by unfold In; infer_instance

theorem dec_in (S : List T35) (i : Int) : ((decide (i ≥ 0)) && (decide (i < (List.length S : Int)))) = decide (In S i) := by
  unfold In
  by_cases h1 : 0 ≤ i <;> by_cases h2 : i < S.length <;> simp [h1, h2]

theorem m31_eq (S : List T35) (hL : S.length ≤ 20000) (i : Int) : m31 S i = some (decide (In S i ∧ Right S)) := by
  unfold m31
  rw [dec_in, m14_eq S hL]
  by_cases h1 : In S i <;> by_cases h2 : Right S <;> simp [h1, h2]

/-! ### Level, Root -/

def levelS (S : List T35) (i : Int) : Int := if In S i ∧ Right S then (lev S i.toNat : Int) else -1
def rootS (S : List T35) (i : Int) : Int := if In S i ∧ Right S then (root S i.toNat : Int) else -1

theorem dec_out (S : List T35) (b : Bool) (i : Int) : ((!b || decide (i < 0)) || decide (i ≥ (List.length S : Int))) = !(b && decide (In S i)) := by
  unfold In
  by_cases h1 : 0 ≤ i <;> by_cases h2 : i < S.length <;> cases b <;> simp [h1, h2] <;> omega

theorem m15_eq (S : List T35) (i : Int) : m15 S i = some (levelS S i) := by
  unfold m15 levelS
  by_cases hr : Right S
  · obtain ⟨o, a1, a2, e⟩ := (m29_eq S).1 hr
    rw [e]
    simp only [Option.bind_some]
    rw [dec_out]
    by_cases h : In S i
    · rw [decide_eq_true h, if_pos ⟨h, hr⟩]
      simp only [Bool.and_true, Bool.not_true, cond_false]
      have h1 := h.1
      have h2 := h.2
      rw [asrtP (fun _ => by simp; omega), gI_get (by omega), a2 _ (by omega)]
      rfl
    · rw [decide_eq_false h, if_neg (fun hh => h hh.1)]
      rfl
  · rw [(m29_eq S).2 hr, if_neg (fun hh => hr hh.2)]
    rfl

theorem m16_eq (S : List T35) (hL : S.length ≤ 20000) (i : Int) : m16 S i = some (levelS S i) := by
  unfold m16 levelS
  rw [m31_eq S hL]
  by_cases h : In S i ∧ Right S
  · rw [decide_eq_true h, if_pos h]
    simp only [Option.bind_some, Bool.not_true, cond_false]
    have h1 := h.1.1
    have h2 := h.1.2
    have e : i = ((i.toNat : Nat) : Int) := by omega
    rw [e, m30_eq S h.2.up hL i.toNat (by omega)]
    rfl
  · rw [decide_eq_false h, if_neg h]
    rfl

theorem m17_eq (S : List T35) (i : Int) : m17 S i = some (rootS S i) := by
  unfold m17 rootS
  rw [m13_eq]
  simp only [Option.bind_some]
  rw [dec_out]
  by_cases h : In S i ∧ Right S
  · rw [decide_eq_true h.1, decide_eq_true h.2, if_pos h]
    simp only [Bool.and_true, Bool.not_true, cond_false]
    have h1 := h.1.1
    have h2 := h.1.2
    have h3 := h.2.1
    obtain ⟨q, rfl⟩ : ∃ q : Nat, i = q := ⟨i.toNat, by omega⟩
    rw [l17_eq S h.2.up _ FUEL q (by omega) (fuel_lt (by omega))]
    rfl
  · rw [if_neg h]
    have : (decide (Right S) && decide (In S i)) = false := by
      by_cases h1 : In S i
      · by_cases h2 : Right S
        · exact absurd ⟨h1, h2⟩ h
        · simp [h2]
      · simp [h1]
    rw [this]
    rfl

theorem m18_eq (S : List T35) (hL : S.length ≤ 20000) (i : Int) : m18 S i = some (rootS S i) := by
  unfold m18 rootS
  rw [m31_eq S hL]
  by_cases h : In S i ∧ Right S
  · rw [decide_eq_true h, if_pos h]
    simp only [Option.bind_some, Bool.not_true, cond_false]
    have h1 := h.1.1
    have h2 := h.1.2
    obtain ⟨q, rfl⟩ : ∃ q : Nat, i = q := ⟨i.toNat, by omega⟩
    rw [l18_eq S h.2.up _ FUEL q (by omega) (fuel_lt (by omega))]
    rfl
  · rw [decide_eq_false h, if_neg h]
    rfl

/-! ### Leaves -/

def LeafP (S : List T35) (i : Int) : Prop := ∀ k, k < S.length → P S k ≠ i
instance (S : List T35) (i : Int) : Decidable (LeafP S i) := by unfold LeafP; infer_instance

theorem l27_eq {R : Type} (S : List T35) (hL : S.length ≤ 4294967296) (i : Int) (k1 : Option R) (k2 : Int → Option R) : ∀ (n j : Nat), j ≤ S.length → S.length - j < n → (∀ k, k < j → P S k ≠ i) →
    (LeafP S i → l27_1 S (S.length : Int) i k1 k2 n j = k1) ∧ (¬ LeafP S i → ∃ k : Nat, k < S.length ∧ l27_1 S (S.length : Int) i k1 k2 n j = k2 k)
  | 0, j, _, h, _ => by omega
  | n + 1, j, hj, hn, hp => by
    unfold l27_1 s27_1
    by_cases c : j = S.length
    · subst c
      rw [bifF (decide_eq_false (by omega))]
      exact ⟨fun _ => rfl, fun h => absurd hp h⟩
    · have hlt : j < S.length := by omega
      rw [bifT (decide_eq_true (by omega)), seat_idx hlt]
      simp only [Option.bind_some]
      by_cases h : P S j = i
      · rw [bifT (show ((seat S j).1 == i) = true from beq_iff_eq.2 h)]
        exact ⟨fun hl => absurd h (hl j hlt), fun _ => ⟨j, hlt, rfl⟩⟩
      · rw [bifF (show ((seat S j).1 == i) = false from beq_eq_false_iff_ne.2 h), wrapI (x := (j : Int) + 1) (by omega) (by omega)]
        exact l27_eq S hL i k1 k2 n (j + 1) (by omega) (by omega) (fun k hk => by
          by_cases e : k = j
          · subst e; exact h
          · exact hp k (by omega))

theorem m27_eq (S : List T35) (hL : S.length ≤ 4294967296) (i : Int) : m27 S i = some (decide (In S i ∧ LeafP S i)) := by
  unfold m27
  rw [dec_in]
  by_cases h : In S i
  · rw [decide_eq_true h]
    simp only [beq_self_eq_true, cond_true, Bool.true_and]
    obtain ⟨h1, h2⟩ := l27_eq S hL i (some (!decide ((-1 : Int) ≥ 0))) (fun y2 => some (!decide (y2 ≥ 0))) FUEL 0 (by omega) (fuel_lt (by omega)) (by omega)
    by_cases hl : LeafP S i
    · have := h1 hl
      simp only [Int.natCast_zero] at this
      rw [this, decide_eq_true (show In S i ∧ LeafP S i from ⟨h, hl⟩)]
      rfl
    · obtain ⟨k, _, e⟩ := h2 hl
      simp only [Int.natCast_zero] at e
      rw [e, decide_eq_false (fun hh : In S i ∧ LeafP S i => hl hh.2), decide_eq_true (by omega)]
      rfl
  · rw [decide_eq_false h, decide_eq_false (fun hh : In S i ∧ LeafP S i => h hh.1)]
    rfl

theorem l20_eq {R : Type} (S : List T35) (hL : S.length ≤ 20000) (i : Int) (k1 k2 : Option R) : ∀ (n j : Nat), j ≤ S.length → S.length - j < n → (∀ k, k < j → P S k ≠ i) →
    l20_1 S i k1 k2 n j = if LeafP S i then k1 else k2
  | 0, j, _, h, _ => by omega
  | n + 1, j, hj, hn, hp => by
    unfold l20_1 s20_1
    by_cases c : j = S.length
    · subst c
      rw [bifF (decide_eq_false (by omega)), if_pos (show LeafP S i from hp)]
    · have hlt : j < S.length := by omega
      rw [bifT (decide_eq_true (by omega)), seat_idx hlt]
      simp only [Option.bind_some]
      by_cases h : P S j = i
      · rw [bifT (show ((seat S j).1 == i) = true from beq_iff_eq.2 h), if_neg (fun hl => hl j hlt h)]
      · rw [bifF (show ((seat S j).1 == i) = false from beq_eq_false_iff_ne.2 h), wrapI (x := (j : Int) + 1) (by omega) (by omega)]
        exact l20_eq S hL i k1 k2 n (j + 1) (by omega) (by omega) (fun k hk => by
          by_cases e : k = j
          · subst e; exact h
          · exact hp k (by omega))

def leafS (S : List T35) (i : Int) : Bool := decide (Right S ∧ In S i ∧ LeafP S i)

theorem m20_eq (S : List T35) (hL : S.length ≤ 20000) (i : Int) : m20 S i = some (leafS S i) := by
  unfold m20 leafS
  rw [m31_eq S hL]
  have z : (0 : Int) = ((0 : Nat) : Int) := rfl
  by_cases h : In S i ∧ Right S
  · rw [decide_eq_true h]
    simp only [Option.bind_some, Bool.not_true, cond_false]
    rw [z, l20_eq S hL i _ _ FUEL 0 (by omega) (fuel_lt (by omega)) (by omega)]
    by_cases hl : LeafP S i
    · rw [if_pos hl, decide_eq_true (show Right S ∧ In S i ∧ LeafP S i from ⟨h.2, h.1, hl⟩)]
    · rw [if_neg hl, decide_eq_false (fun hh : Right S ∧ In S i ∧ LeafP S i => hl hh.2.2)]
  · rw [decide_eq_false h, decide_eq_false (fun hh : Right S ∧ In S i ∧ LeafP S i => h ⟨hh.2.1, hh.1⟩)]
    rfl

theorem m19_eq (S : List T35) (hL : S.length ≤ 4294967296) (i : Int) : m19 S i = some (leafS S i) := by
  unfold m19 leafS
  rw [m13_eq, m27_eq S hL]
  by_cases h1 : Right S <;> by_cases h2 : In S i ∧ LeafP S i <;> simp [h1, h2]

end Go.Proofs.Ytndflpanccagbaa
