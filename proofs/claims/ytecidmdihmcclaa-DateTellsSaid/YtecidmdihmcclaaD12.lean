/- Dates: the law of the reference, whole. -/
import Derived.Test.YtecidmdihmcclaaD11
namespace Go.Proofs.Ytecidmdihmcclaa
open Go Go.Eng
set_option linter.unusedVariables false
set_option linter.unusedSimpArgs false

theorem l23_1_eq {R : Type} (k : Int → Int → Int → Option R) : ∀ (n : Nat) (t y m : Int), t < n → 1 ≤ n → 1 ≤ m → m ≤ 12 → 0 ≤ y → y ≤ 100000 + (10000 - t) → t ≤ 10000 → -10000 ≤ t →
    ∃ t' y' m', l23_1 k n t y m = k t' y' m' ∧ 1 ≤ m' ∧ m' ≤ 12 ∧ 12 * y' + m' + t' = 12 * y + m + t ∧ (0 ≤ t → t' = 0) ∧ (t ≤ 0 → t' = t)
  | 0, t, y, m, h, h0, h1, h2, h3, h4, h5, h6 => by omega
  | n + 1, t, y, m, h, h0, h1, h2, h3, h4, h5, h6 => by
    unfold l23_1 s23_1
    by_cases c : t > 0
    · rw [bifT (decide_eq_true c)]
      simp only [cont]
      rw [wrapI (x := m + 1) (by omega) (by omega)]
      by_cases c2 : m = 12
      · subst c2
        simp (disch := omega) only [wrapI, show ((12 : Int) + 1 == 13) = true from rfl, cond_true]
        obtain ⟨t', y', m', e, a1, a2, a3, a4, a5⟩ := l23_1_eq k n (t - 1) (y + 1) 1 (by omega) (by omega) (by omega) (by omega) (by omega) (by omega) (by omega) (by omega)
        exact ⟨t', y', m', e, a1, a2, by omega, fun _ => a4 (by omega), fun _ => by omega⟩
      · rw [beq_eq_false_iff_ne.2 (show m + 1 ≠ 13 by omega)]
        simp (disch := omega) only [wrapI, cond_false]
        obtain ⟨t', y', m', e, a1, a2, a3, a4, a5⟩ := l23_1_eq k n (t - 1) y (m + 1) (by omega) (by omega) (by omega) (by omega) (by omega) (by omega) (by omega) (by omega)
        exact ⟨t', y', m', e, a1, a2, by omega, fun _ => a4 (by omega), fun _ => by omega⟩
    · rw [bifF (decide_eq_false c)]
      exact ⟨t, y, m, rfl, h1, h2, rfl, fun _ => by omega, fun _ => rfl⟩

theorem l23_2_eq {R : Type} (k : Int → Int → Option R) : ∀ (n : Nat) (t y m : Int), -t < n → 1 ≤ n → 1 ≤ m → m ≤ 12 → y ≤ 100000 → -100000 - (10000 + t) ≤ y → t ≤ 0 → -10000 ≤ t →
    ∃ y' m', l23_2 k n t y m = k y' m' ∧ 1 ≤ m' ∧ m' ≤ 12 ∧ 12 * y' + m' = 12 * y + m + t
  | 0, t, y, m, h, h0, h1, h2, h3, h4, h5, h6 => by omega
  | n + 1, t, y, m, h, h0, h1, h2, h3, h4, h5, h6 => by
    unfold l23_2 s23_2
    by_cases c : t < 0
    · rw [bifT (decide_eq_true c)]
      simp only [cont]
      rw [wrapI (x := m - 1) (by omega) (by omega)]
      by_cases c2 : m = 1
      · subst c2
        simp (disch := omega) only [wrapI, show ((1 : Int) - 1 == 0) = true from rfl, cond_true]
        obtain ⟨y', m', e, a1, a2, a3⟩ := l23_2_eq k n (t + 1) (y - 1) 12 (by omega) (by omega) (by omega) (by omega) (by omega) (by omega) (by omega) (by omega)
        exact ⟨y', m', e, a1, a2, by omega⟩
      · rw [beq_eq_false_iff_ne.2 (show m - 1 ≠ 0 by omega)]
        simp (disch := omega) only [wrapI, cond_false]
        obtain ⟨y', m', e, a1, a2, a3⟩ := l23_2_eq k n (t + 1) y (m - 1) (by omega) (by omega) (by omega) (by omega) (by omega) (by omega) (by omega) (by omega)
        exact ⟨y', m', e, a1, a2, by omega⟩
    · rw [bifF (decide_eq_false c)]
      exact ⟨y, m, rfl, h1, h2, by omega⟩

theorem m23_eq (day n : Int) : m23 day n = m22 day n := by
  by_cases h : 0 ≤ day ∧ day ≤ 200000
  · by_cases hn : n < -10000 ∨ n > 10000
    · rw [m22_bad (.inr hn)]
      unfold m23
      obtain ⟨y, M, d, e, _⟩ := m10_eq h.1 h.2
      rw [m11_eq, e]
      simp only [Option.bind_some]
      rw [bifT (by simp <;> omega)]
    · obtain ⟨y, M, d, _, hi, _⟩ := m10_eq h.1 h.2
      obtain ⟨y1, y2⟩ := hi.ys h.1 h.2
      have hM := hi.m
      have hd := hi.d1
      have hF := FUEL_eq
      rw [m22_eq hi h.1 h.2 (by omega) (by omega)]
      unfold m23
      rw [m11_eq, m10_of hi h.1 h.2]
      simp only [Option.bind_some]
      rw [bifF (by simp <;> omega)]
      obtain ⟨t', y', m', e, a1, a2, a3, a4, a5⟩ := l23_1_eq (fun y3 y4 y5 => l23_2 (fun y7 y8 => (m17 y7 y8).bind fun r9 => (m9 y7 y8 (bif decide (r9 < d) then r9 else d)).bind fun r10 => some ((r10.1, r10.2.1, ()) : Int × Int × Unit)) FUEL y3 y4 y5) FUEL n y (M + 1) (by omega) (by omega) (by omega) (by omega) (by omega) (by omega) (by omega) (by omega)
      rw [e]
      have ht : t' ≤ 0 ∧ -10000 ≤ t' := by
        rcases Int.lt_or_le 0 n with c | c
        · have := a4 (by omega); omega
        · have := a5 c; omega
      obtain ⟨y2', m2', e2, b1, b2, b3⟩ := l23_2_eq (fun y7 y8 => (m17 y7 y8).bind fun r9 => (m9 y7 y8 (bif decide (r9 < d) then r9 else d)).bind fun r10 => some ((r10.1, r10.2.1, ()) : Int × Int × Unit)) FUEL t' y' m' (by omega) (by omega) (by omega) (by omega) (by omega) (by omega) (by omega) (by omega)
      rw [e2]
      have hl := last_bounds y2' m2'
      rw [m17_eq]
      simp only [Option.bind_some]
      rw [min_eq, m9_eq _ _ _ (by omega)]
      simp only [Option.bind_some]
      unfold addS
      have q1 : (12 * y + (M : Int) + n) / 12 = y2' := by omega
      have q2 : (12 * y + (M : Int) + n) % 12 + 1 = m2' := by omega
      rw [q1, q2]
  · rw [m22_bad (.inl h)]
    unfold m23
    rw [m11_eq, m10_bad h]
    rfl

theorem tells (y m d day n : Int) (s : List UInt8) (hd : -9223372036854775808 ≤ d) : m3 y m d day n s = some true := by
  unfold m3
  rw [small, m8_eq, m9_eq _ _ _ hd, m11_eq, m12_eq, m13_eq, m14_eq, m15_eq, m16_eq, m17_eq, m19_eq, m21_eq, m23_eq]
  have e10 : ∃ x, m10 day = some x := by
    by_cases h : 0 ≤ day ∧ day ≤ 200000
    · obtain ⟨y, M, d, e, _⟩ := m10_eq h.1 h.2; exact ⟨_, e⟩
    · exact ⟨_, m10_bad h⟩
  obtain ⟨x, e10⟩ := e10
  have e20 : ∃ x, m20 day = some x := by
    by_cases h : 0 ≤ day ∧ day ≤ 200000
    · obtain ⟨y, M, d, e, hi, _⟩ := m10_eq h.1 h.2; exact ⟨_, m20_of hi h.1 h.2⟩
    · exact ⟨_, m20_bad h⟩
  obtain ⟨z, e20⟩ := e20
  have e22 : ∃ x, m22 day n = some x := by
    by_cases h : 0 ≤ day ∧ day ≤ 200000
    · by_cases hn : n < -10000 ∨ n > 10000
      · exact ⟨_, m22_bad (.inr hn)⟩
      · obtain ⟨y, M, d, e, hi, _⟩ := m10_eq h.1 h.2; exact ⟨_, m22_eq hi h.1 h.2 (by omega) (by omega)⟩
    · exact ⟨_, m22_bad (.inl h)⟩
  obtain ⟨w, e22⟩ := e22
  rw [e10, m18_eq, e20, e22]
  simp only [Option.bind_some, beq_self_eq_true, Bool.and_self, cond_true, Bool.and_true]
  cases (decide (n > 2000) && decide (n ≤ 10000) || decide (n < -2000) && decide (n ≥ -10000)) <;> rfl

end Go.Proofs.Ytecidmdihmcclaa
