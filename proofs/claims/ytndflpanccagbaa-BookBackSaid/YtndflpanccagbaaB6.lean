/- Seats: the laws of the reference and of sums. -/
import Derived.Test.YtndflpanccagbaaB5
namespace Go.Proofs.Ytndflpanccagbaa
open Go Go.Eng
set_option linter.unusedVariables false
set_option linter.unusedSimpArgs false

def Few (S : List T35) (u : List Int) : Prop := S.length ≤ 30 ∧ u.length ≤ 40
instance (S : List T35) (u : List Int) : Decidable (Few S u) := by unfold Few; infer_instance

theorem m9_eq (S : List T35) (u : List Int) : m9 S u = some (decide (Few S u)) := by
  unfold m9 Few
  by_cases h1 : S.length ≤ 30 <;> by_cases h2 : u.length ≤ 40 <;> simp [h1, h2] <;> omega

theorem moveS_len (S : List T35) (u : List Int) (f t n : Int) : (moveS S u f t n).1.length ≤ u.length := by
  unfold moveS
  repeat' split
  · exact Nat.zero_le _
  · exact Nat.zero_le _
  · exact Nat.zero_le _
  · rw [mvU_len]; exact Nat.le_refl _

theorem tells (S : List T35) (u : List Int) (f t n : Int) : m3 S u f t n = some true := by
  unfold m3
  rw [small, m9_eq]
  simp only [Option.bind_some]
  by_cases h : Few S u
  · rw [decide_eq_true h]
    have hL : S.length ≤ 20000 := by have := h.1; omega
    have hlen := moveS_len S u f t n
    have hu := h.2
    rw [m10_eq, m11_eq S u hL]
    simp only [Option.bind_some, Bool.not_true, cond_false, m12_eq _ _ (show (moveS S u f t n).1.length ≤ 4294967296 by omega), decide_true, m13_eq, m14_eq S hL, m15_eq, m16_eq S hL, m17_eq, m18_eq S hL, m19_eq S (show S.length ≤ 4294967296 by omega), m20_eq S hL, m21_eq, m22_eq S u hL, beq_self_eq_true, cond_true, Bool.and_self]
  · rw [decide_eq_false h]
    rfl

/-! ### Sums -/

theorem l4_1_eq {R : Type} (S : List T35) (u : List Int) (hv : Valid S u) (hL : S.length ≤ 30) (i : Nat) (hi : i < S.length) (k : Int → Bool → Option R) : ∀ (n j : Nat), j ≤ S.length → S.length - j < n → ∀ b : Bool, (b = true ↔ ∀ c, c < j → P S c ≠ i) →
    l4_1 S u i k n (sumN (fun c => if P S c = i then has S u c else 0) j) b j = k (sumN (fun c => if P S c = i then has S u c else 0) S.length) (decide (LeafP S i))
  | 0, j, _, h, _, _ => by omega
  | n + 1, j, hj, hn, b, hb => by
    unfold l4_1 s4_1
    by_cases c : j = S.length
    · subst c
      rw [bifF (decide_eq_false (by omega))]
      have : b = decide (LeafP S i) := by rw [Bool.eq_iff_iff, hb, decide_eq_true_eq]; rfl
      rw [this]
    · have hlt : j < S.length := by omega
      have hn1 : S.length - (j + 1) < n := by omega
      rw [bifT (decide_eq_true (by omega))]
      have hbnd : 0 ≤ sumN (fun c => if P S c = i then has S u c else 0) j ∧ sumN (fun c => if P S c = i then has S u c else 0) j ≤ 1000000000 * j := by
        constructor
        · exact sumN_nonneg (fun c hc => by have := has_b hv c; split <;> omega)
        · have := sumN_le (f := fun c => if P S c = i then has S u c else 0) (g := fun _ => 1000000000) (n := j) (fun c hc => by have := has_b hv c; split <;> omega)
          have e : ∀ n : Nat, sumN (fun _ => (1000000000 : Int)) n = 1000000000 * n := by
            intro n; induction n with
            | zero => rfl
            | succ n ih => simp only [sumN, ih]; omega
          rw [e] at this; exact this
      have hbj := has_b hv j
      have key : ∃ b' : Bool, (b' = true ↔ ∀ c, c < j + 1 → P S c ≠ i) ∧ ∀ k10 : (Int × Bool) → Option R, ((idx S (j : Int)).bind fun x8 =>
          bif (x8.1 == (i : Int)) then
            (m21 S u (j : Int)).bind fun r9 =>
            k10 ((IntKind.i64.wrap (sumN (fun c => if P S c = i then has S u c else 0) j + r9)), false)
          else
            k10 (sumN (fun c => if P S c = i then has S u c else 0) j, b)) = k10 (sumN (fun c => if P S c = i then has S u c else 0) (j + 1), b') := by
        rw [seat_idx hlt]
        simp only [Option.bind_some]
        by_cases h : P S j = i
        · refine ⟨false, ⟨fun h => by simp at h, fun hh => absurd h (hh j (by omega))⟩, fun k10 => ?_⟩
          rw [bifT (show ((seat S j).1 == (i : Int)) = true from beq_iff_eq.2 h), m21_eq]
          have hin : Valid S u ∧ In S (j : Int) := ⟨hv, by constructor <;> omega⟩
          unfold heldS
          rw [if_pos hin]
          simp only [Option.bind_some, sumN, h, if_true]
          rw [wrapI (by simp; omega) (by simp; omega)]
          simp
        · refine ⟨b, hb.trans ⟨fun hh c hc => ?_, fun hh c hc => hh c (by omega)⟩, fun k10 => ?_⟩
          · by_cases e : c = j
            · subst e; exact h
            · exact hh c (by omega)
          · rw [bifF (show ((seat S j).1 == (i : Int)) = false from beq_eq_false_iff_ne.2 h)]
            simp only [sumN, if_neg h, Int.add_zero]
      obtain ⟨b', b1, b2⟩ := key
      rw [cont_eq _ b2, wrapI (x := (j : Int) + 1) (by omega) (by omega)]
      exact l4_1_eq S u hv hL i hi k n (j + 1) hlt hn1 b' b1

theorem roots_sum {S : List T35} {u : List Int} (hv : Valid S u) : sumN (fun i => if P S i < 0 then has S u i else 0) S.length = sumN (gI u) S.length := by
  have h1 : sumN (has S u) S.length = sumN (gI u) S.length + sumN (fun j => sumN (fun c => if P S c = j then has S u c else 0) S.length) S.length := by
    rw [← sumN_add]
    exact sumN_congr (fun j hj => has_eq hv.1.up u hj)
  rw [sumN_swap] at h1
  have h2 : sumN (fun c => sumN (fun j : Nat => if P S c = (j : Int) then has S u c else 0) S.length) S.length = sumN (fun c => if 0 ≤ P S c then has S u c else 0) S.length := by
    apply sumN_congr
    intro c hc
    have hP := hv.1.up c hc
    by_cases h : 0 ≤ P S c
    · rw [if_pos h, sumN_one (k := (P S c).toNat) (by omega) (fun j hj hne => if_neg (by omega)), if_pos (by omega)]
    · rw [if_neg h, sumN_none (fun j hj => if_neg (by omega))]
  rw [h2] at h1
  have h3 : sumN (has S u) S.length = sumN (fun c => if 0 ≤ P S c then has S u c else 0) S.length + sumN (fun i => if P S i < 0 then has S u i else 0) S.length := by
    rw [← sumN_add]
    apply sumN_congr
    intro c hc
    by_cases h : 0 ≤ P S c
    · rw [if_pos h, if_neg (by omega)]; omega
    · rw [if_neg h, if_pos (by omega)]; omega
  omega

theorem l4_2_eq {R : Type} (S : List T35) (u : List Int) (hv : Valid S u) (hL : S.length ≤ 30) (k1 : Int → Int → Option R) (k2 : Option R) : ∀ (n j : Nat), j ≤ S.length → S.length - j < n →
    l4_2 S u k1 k2 n (sumN (gI u) j) (sumN (fun i => if P S i < 0 then has S u i else 0) j) j = k1 (sumN (gI u) S.length) (sumN (gI u) S.length)
  | 0, j, _, h => by omega
  | n + 1, j, hj, hn => by
    have hul := hv.2.1
    unfold l4_2 s4_2
    by_cases c : j = S.length
    · subst c
      rw [bifF (decide_eq_false (by omega)), roots_sum hv]
    · have hlt : j < S.length := by omega
      have hn1 : S.length - (j + 1) < n := by omega
      have hin : Valid S u ∧ In S (j : Int) := ⟨hv, by constructor <;> omega⟩
      rw [bifT (decide_eq_true (by omega)), idx_nat, gI_get (by omega), m21_eq]
      have hh : heldS S u (j : Int) = has S u j := by unfold heldS; rw [if_pos hin]; rfl
      rw [hh]
      simp only [Option.bind_some]
      have e9 : ∀ n : Nat, sumN (fun _ => (1000000000 : Int)) n = 1000000000 * n := by
        intro n; induction n with
        | zero => rfl
        | succ n ih => simp only [sumN, ih]; omega
      have hb1 : 0 ≤ sumN (fun i => if P S i < 0 then has S u i else 0) j ∧ sumN (fun i => if P S i < 0 then has S u i else 0) j ≤ 1000000000 * j := by
        constructor
        · exact sumN_nonneg (fun c hc => by have := has_b hv c; split <;> omega)
        · have := sumN_le (f := fun i => if P S i < 0 then has S u i else 0) (g := fun _ => 1000000000) (n := j) (fun c hc => by have := has_b hv c; split <;> omega)
          rw [e9] at this; exact this
      have hb2 : 0 ≤ sumN (gI u) j ∧ sumN (gI u) j ≤ 1000000000 * j := by
        constructor
        · exact sumN_nonneg (fun c hc => (hv.nn (i := c) (by omega)).1)
        · have := sumN_le (f := gI u) (g := fun _ => 1000000000) (n := j) (fun c hc => (hv.nn (i := c) (by omega)).2)
          rw [e9] at this; exact this
      have hbj := has_b hv j
      have hnj := hv.nn hlt
      rw [cont_eq (sumN (fun i => if P S i < 0 then has S u i else 0) (j + 1)) (by
        intro k7
        rw [seat_idx hlt]
        simp only [Option.bind_some]
        by_cases h : P S j < 0
        · rw [bifT (decide_eq_true (show (seat S j).1 < 0 from h)), wrapI (by omega) (by omega)]
          simp only [sumN, if_pos h]
        · rw [bifF (decide_eq_false (show ¬ (seat S j).1 < 0 from h))]
          simp only [sumN, if_neg h, Int.add_zero])]
      have l1 := fun k => l4_1_eq (R := R) S u hv hL j hlt k FUEL 0 (by omega) (fuel_lt (by omega)) true (by simp)
      simp only [Int.natCast_zero, sumN] at l1
      rw [l1]
      have hfull := has_eq hv.1.up u hlt
      have hval : (if LeafP S (j : Int) then gI u j else sumN (fun c => if P S c = (j : Int) then has S u c else 0) S.length) = has S u j := by
        by_cases hl : LeafP S (j : Int)
        · rw [if_pos hl, hfull, sumN_none (fun c hc => if_neg (hl c hc))]; omega
        · rw [if_neg hl, hfull]
          have := (hv.2.2.1 j hlt).2.2
          have : gI u j = 0 := by
            by_cases h0 : 0 < gI u j
            · exact absurd (this h0) hl
            · omega
          omega
      rw [cont_eq (has S u j) (by
        intro k14
        by_cases hl : LeafP S (j : Int)
        · rw [if_pos hl] at hval
          rw [bifT (decide_eq_true hl), hval]
        · rw [if_neg hl] at hval
          rw [bifF (decide_eq_false hl), hval])]
      rw [bne_same]
      have hlf : leafS S (j : Int) = decide (LeafP S (j : Int)) := by
        unfold leafS; rw [decide_eq_decide]; exact ⟨fun h => h.2.2, fun h => ⟨hv.1, hin.2, h⟩⟩
      simp only [beq_self_eq_true, cond_true, m19_eq S (show S.length ≤ 4294967296 by omega), hlf, Option.bind_some, Bool.not_true, Bool.or_self, cond_false]
      rw [wrapI (x := sumN (gI u) j + gI u j) (by omega) (by omega), wrapI (x := (j : Int) + 1) (by omega) (by omega)]
      exact l4_2_eq S u hv hL k1 k2 n (j + 1) hlt hn1

theorem sums (S : List T35) (u : List Int) : m4 S u = some true := by
  unfold m4
  rw [small, m9_eq]
  simp only [Option.bind_some]
  by_cases h : Few S u
  · rw [decide_eq_true h]
    have hL : S.length ≤ 20000 := by have := h.1; omega
    rw [m23_eq S u hL]
    by_cases hv : Valid S u
    · rw [decide_eq_true hv]
      simp only [Bool.not_true, beq_self_eq_true, cond_true, Option.bind_some, Bool.or_self, cond_false]
      have := l4_2_eq S u hv h.1 (fun y16 y17 => some (true && (y16 == y17))) (some false) FUEL 0 (by omega) (fuel_lt (by omega))
      simp only [Int.natCast_zero, sumN] at this
      rw [this]
      simp
    · rw [decide_eq_false hv]
      rfl
  · rw [decide_eq_false h]
    rfl

end Go.Proofs.Ytndflpanccagbaa
