/- Entitle: valid units, what is paid, what goes through. -/
import Derived.Test.YtjoehgmdkeigiaaT3
namespace Go.Proofs.Ytjoehgmdkeigiaa
open Go Go.Eng
set_option linter.unusedVariables false
set_option linter.unusedSimpArgs false

theorem l36_eq {R : Type} (S : List T36) (hL : S.length ≤ 4294967296) (i : Int) (k1 : Option R) (k2 : Int → Option R) : ∀ (n j : Nat), j ≤ S.length → S.length - j < n → (∀ k, k < j → P S k ≠ i) →
    (LeafP S i → l36_1 S (S.length : Int) i k1 k2 n j = k1) ∧ (¬ LeafP S i → ∃ k : Nat, k < S.length ∧ l36_1 S (S.length : Int) i k1 k2 n j = k2 k)
  | 0, j, _, h, _ => by omega
  | n + 1, j, hj, hn, hp => by
    unfold l36_1 s36_1
    by_cases c : j = S.length
    · subst c
      rw [bifF (decide_eq_false (by omega))]
      exact ⟨fun _ => rfl, fun h => absurd hp h⟩
    · have hlt : j < S.length := by omega
      rw [bifT (decide_eq_true (by omega)), seat_idx hlt]
      simp only [Option.bind_some]
      by_cases h : P S j = i
      · rw [bifT (show ((seat S j).1 == i) = true from beq_iff_eq.2 h)]
        exact ⟨fun hl => absurd h (hl j hlt), fun _ => ⟨j, hlt, rfl⟩⟩
      · rw [bifF (show ((seat S j).1 == i) = false from beq_eq_false_iff_ne.2 h), wrapI (x := (j : Int) + 1) (by omega) (by omega)]
        exact l36_eq S hL i k1 k2 n (j + 1) (by omega) (by omega) (fun k hk => by
          by_cases e : k = j
          · subst e; exact h
          · exact hp k (by omega))

theorem m36_eq (S : List T36) (hL : S.length ≤ 4294967296) (i : Int) : m36 S i = some (decide (In S i ∧ LeafP S i)) := by
  unfold m36
  rw [dec_in]
  by_cases h : In S i
  · rw [decide_eq_true h]
    simp only [beq_self_eq_true, cond_true, Bool.true_and]
    obtain ⟨h1, h2⟩ := l36_eq S hL i (some (!decide ((-1 : Int) ≥ 0))) (fun y2 => some (!decide (y2 ≥ 0))) FUEL 0 (by omega) (fuel_lt (by omega)) (by omega)
    by_cases hl : LeafP S i
    · have := h1 hl
      simp only [Int.natCast_zero] at this
      rw [this, decide_eq_true (show In S i ∧ LeafP S i from ⟨h, hl⟩)]
      rfl
    · obtain ⟨k, _, e⟩ := h2 hl
      simp only [Int.natCast_zero] at e
      rw [e, decide_eq_false (fun hh : In S i ∧ LeafP S i => hl hh.2), decide_eq_true (by omega)]
      rfl
  · rw [decide_eq_false h, decide_eq_false (fun hh : In S i ∧ LeafP S i => h hh.1)]
    rfl

theorem m18_eq (S : List T36) (hL : S.length ≤ 4294967296) (i : Int) : m18 S i = some (leafS S i) := by
  unfold m18 leafS
  rw [m33_eq, m36_eq S hL]
  by_cases h1 : Right S <;> by_cases h2 : In S i ∧ LeafP S i <;> simp [h1, h2]

theorem l27_eq {R : Type} (S : List T36) (u : List Int) (hr : Right S) (hl : u.length = S.length) (k1 : Int → Option R) (k2 : Option R) : ∀ (n j : Nat), j ≤ S.length → S.length - j < n → (∀ i, i < j → OkU S u i) →
    l27_1 S u (List.length u : Int) k1 k2 n (sumN (gI u) j) j = if ∀ i, i < S.length → OkU S u i then k1 (sumN (gI u) S.length) else k2
  | 0, j, _, h, _ => by omega
  | n + 1, j, hj, hn, hp => by
    have hL := hr.1
    unfold l27_1 s27_1
    by_cases c : j = S.length
    · subst c
      rw [bifF (decide_eq_false (by omega)), if_pos hp]
    · have hlt : j < S.length := by omega
      have ig : ∀ g : Bool, idxG g 0 u (j : Int) = some (bif g then gI u j else 0) := by
        intro g
        unfold idxG
        rw [idx_nat, gI_get (by omega)]
        cases g <;> rfl
      rw [bifT (decide_eq_true (by omega)), idx_nat, gI_get (by omega)]
      simp only [Option.bind_some, m18_eq S (by omega)]
      have hsum : 0 ≤ sumN (gI u) j ∧ sumN (gI u) j ≤ 1000000000 * j := by
        constructor
        · exact sumN_nonneg (fun i hi => (hp i hi).1)
        · have := sumN_le (f := gI u) (g := fun _ => 1000000000) (n := j) (fun i hi => (hp i hi).2.1)
          have e : ∀ n : Nat, sumN (fun _ => (1000000000 : Int)) n = 1000000000 * n := by
            intro n; induction n with
            | zero => rfl
            | succ n ih => simp only [sumN, ih]; omega
          rw [e] at this; exact this
      have hin : In S (j : Int) := ⟨by omega, by omega⟩
      by_cases hok : OkU S u j
      · obtain ⟨q1, q2, q3⟩ := hok
        rw [decide_eq_false (show ¬ gI u j < 0 by omega)]
        simp only [beq_self_eq_true, cond_true, Bool.false_or]
        rw [decide_eq_false (show ¬ gI u j > 1000000000 by omega)]
        simp only [beq_self_eq_true, cond_true, Bool.true_and, Bool.false_or]
        have fin : ∀ r5 : Bool, (decide (gI u j > 0) && !r5) = false → (bif decide (gI u j > 0) && !r5 then k2 else l27_1 S u (List.length u : Int) k1 k2 n (IntKind.i64.wrap (sumN (gI u) j + gI u j)) (IntKind.i64.wrap ((j : Int) + 1))) = if ∀ i, i < S.length → OkU S u i then k1 (sumN (gI u) S.length) else k2 := by
          intro r5 h5
          rw [h5]
          simp only [cond_false]
          rw [wrapI (x := sumN (gI u) j + gI u j) (by omega) (by omega), wrapI (x := (j : Int) + 1) (by omega) (by omega)]
          exact l27_eq S u hr hl k1 k2 n (j + 1) (by omega) (by omega) (fun i hi => by
            by_cases e : i = j
            · subst e; exact ⟨q1, q2, q3⟩
            · exact hp i (by omega))
        by_cases hpos : gI u j > 0
        · rw [decide_eq_true hpos]
          simp only [beq_self_eq_true, cond_true, Option.bind_some]
          have : leafS S (j : Int) = true := decide_eq_true ⟨hr, hin, q3 hpos⟩
          rw [this]
          have := fin true (by simp)
          rw [decide_eq_true hpos] at this
          exact this
        · rw [decide_eq_false hpos]
          have := fin false (by simp [hpos])
          rw [decide_eq_false hpos] at this
          exact this
      · rw [if_neg (fun h => hok (h j hlt))]
        unfold OkU at hok
        by_cases c1 : gI u j < 0
        · simp [c1]
        · by_cases c2 : gI u j > 1000000000
          · simp [c1, c2]
          · have c3 : 0 < gI u j ∧ ¬ LeafP S j := by
              by_cases c4 : 0 < gI u j
              · exact ⟨c4, fun h => hok ⟨by omega, by omega, fun _ => h⟩⟩
              · exact absurd ⟨by omega, by omega, fun h => absurd h c4⟩ hok
            have : leafS S (j : Int) = false := decide_eq_false (fun h => c3.2 h.2.2)
            simp [c1, c2, c3.1, this]

theorem m27_eq (S : List T36) (u : List Int) : m27 S u = some (decide (Valid S u)) := by
  unfold m27
  rw [m33_eq]
  simp only [Option.bind_some]
  by_cases hr : Right S
  · rw [decide_eq_true hr]
    by_cases hl : u.length = S.length
    · rw [bifF (by simp; omega)]
      have := l27_eq S u hr hl (fun y8 => some (decide (y8 ≤ 1000000000))) (some false) FUEL 0 (by omega) (fuel_lt (by have := hr.1; omega)) (by omega)
      simp only [Int.natCast_zero, sumN] at this
      rw [this]
      by_cases h : ∀ i, i < S.length → OkU S u i
      · rw [if_pos h]
        by_cases h2 : sumN (gI u) S.length ≤ 1000000000
        · rw [decide_eq_true h2, decide_eq_true (show Valid S u from ⟨hr, hl, h, h2⟩)]
        · rw [decide_eq_false h2, decide_eq_false (fun hv : Valid S u => h2 hv.2.2.2)]
      · rw [if_neg h, decide_eq_false (fun hv : Valid S u => h hv.2.2.1)]
    · rw [bifT (by simp; omega), decide_eq_false (fun hv : Valid S u => hl hv.2.1)]
  · rw [decide_eq_false hr, decide_eq_false (fun hv : Valid S u => hr hv.1)]
    rfl


end Go.Proofs.Ytjoehgmdkeigiaa
