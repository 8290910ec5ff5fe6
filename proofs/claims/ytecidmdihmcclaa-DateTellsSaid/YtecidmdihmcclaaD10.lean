/- Dates: the reference answers the same. -/
import Derived.Test.YtecidmdihmcclaaD9
namespace Go.Proofs.Ytecidmdihmcclaa
open Go Go.Eng
set_option linter.unusedVariables false
set_option linter.unusedSimpArgs false

theorem l9_eq {R : Type} (y : Int) (M : Nat) (hM : M ≤ 11) (k : Int → Option R) : ∀ (n j : Nat) (acc : Int), j ≤ M → M - j < n → 0 ≤ acc → acc ≤ 1000000 + cum y j →
    l9_1 y (M + 1) k n acc (j + 1) = k (acc + (cum y M - cum y j))
  | 0, j, acc, _, h, _, _ => by omega
  | n + 1, j, acc, hj, hn, h0, h1 => by
    have hc := cum_le y (n := j) (by omega)
    unfold l9_1 s9_1
    by_cases h : j = M
    · subst h
      rw [bifF (decide_eq_false (by omega))]
      congr 1
      omega
    · rw [bifT (decide_eq_true (by omega)), m17_eq]
      have hl := last_bounds y (j + 1)
      simp (disch := omega) only [Option.bind_some, wrapI]
      have e : (j : Int) + 1 + 1 = ((j + 1 : Nat) : Int) + 1 := by omega
      rw [e, l9_eq y M hM k n (j + 1) (acc + last y (j + 1)) (by omega) (by omega) (by omega) (by simp only [cum]; omega)]
      congr 1
      simp only [cum]
      omega

theorem l9_2_eq {R : Type} (y t0 : Int) (h0 : 0 ≤ t0) (h1 : t0 ≤ 1000) (k : Int → Option R) : ∀ (n : Nat) (j : Int), 1900 ≤ j → j ≤ y → bef j ≤ 200400 → 1 ≤ n → 200001 < t0 + bef j + n →
    ∃ j', 1900 ≤ j' ∧ l9_2 y k n (t0 + bef j) j = k (t0 + bef j') ∧ (j' = y ∨ (j' < y ∧ t0 + bef j' > 200000))
  | 0, j, _, _, _, h, _ => by omega
  | n + 1, j, hj, hy, hb, hn, hf => by
    unfold l9_2 s9_2
    by_cases c : j < y ∧ t0 + bef j ≤ 200000
    · rw [bifT (by simpa using c), m27_eq]
      have hs := bef_succ j
      have hyb := year_b j
      have hj3 : j ≤ 3000 := by
        rcases Int.lt_or_le 3000 j with c | c
        · have := bef_mono (a := 1900) (b := j) (by omega)
          rw [bef_1900] at this
          omega
        · exact c
      have hb0 := bef_b hj hj3
      simp (disch := omega) only [Option.bind_some, wrapI]
      have e : t0 + bef j + year j = t0 + bef (j + 1) := by omega
      rw [e]
      exact l9_2_eq y t0 h0 h1 k n (j + 1) (by omega) (by omega) (by omega) (by omega) (by omega)
    · rw [bifF (by simp <;> omega)]
      exact ⟨j, hj, rfl, by omega⟩

theorem m9_eq (y m d : Int) (hd : -9223372036854775808 ≤ d) : m9 y m d = some (ofS y m d) := by
  unfold m9
  rw [m17_eq, bind_guard]
  by_cases hm : 1 ≤ m ∧ m ≤ 12
  · rw [decide_eq_false (show ¬ m < 1 by omega), decide_eq_false (show ¬ m > 12 by omega)]
    by_cases h1 : d < 1
    · rw [decide_eq_true h1]
      unfold ofS
      rw [if_pos (.inl h1)]
      rfl
    · rw [decide_eq_false h1]
      simp only [beq_self_eq_true, cond_true, Bool.false_or]
      by_cases h2 : d > last y m
      · rw [decide_eq_true h2]
        unfold ofS
        rw [if_pos (.inr h2)]
        rfl
      · rw [decide_eq_false h2]
        simp only [cond_false]
        have hl := last_bounds y m
        obtain ⟨M, rfl⟩ : ∃ M : Nat, m = (M : Int) + 1 := ⟨(m - 1).toNat, by omega⟩
        have e0 : ((M : Int) + 1 - 1).toNat = M := by omega
        have hc := cum_le y (n := M) (by omega)
        have hc0 := cum_nonneg y M
        rw [wrapI (x := d - 1) (by omega) (by omega)]
        have := l9_eq y M (by omega) (fun y3 => l9_2 y (fun y5 => bif (decide (y < 1900) || decide (y5 > 200000)) then some ((0, 3, ()) : Int × Int × Unit) else some (y5, 0, ())) FUEL y3 1900) FUEL 0 (d - 1) (by omega) (fuel_lt (by omega)) (by omega) (by simp only [cum]; omega)
        simp only [Int.natCast_zero, Int.zero_add] at this
        rw [this]
        unfold ofS
        rw [if_neg (by omega), e0]
        have e1 : d - 1 + (cum y M - cum y 0) = (d - 1 + cum y M) + bef 1900 := by rw [bef_1900]; simp only [cum]; omega
        rw [e1]
        by_cases hy : y < 1900
        · rw [if_pos (.inl hy)]
          obtain ⟨q, hq⟩ := fuel_s 1 (by omega)
          rw [hq]
          unfold l9_2 s9_2
          rw [bifF (by simp <;> omega)]
          rw [decide_eq_true hy]
          rfl
        · have hF := FUEL_eq
          obtain ⟨j', a1, a2, a3⟩ := l9_2_eq y (d - 1 + cum y M) (by omega) (by omega) (fun y5 => bif (decide (y < 1900) || decide (y5 > 200000)) then some ((0, 3, ()) : Int × Int × Unit) else some (y5, 0, ())) FUEL 1900 (by omega) (by omega) (by rw [bef_1900]; omega) (by omega) (by rw [bef_1900]; omega)
          rw [a2]
          rw [decide_eq_false hy]
          simp only [Bool.false_or]
          by_cases c : d - 1 + cum y M + bef j' > 200000
          · rw [bifT (decide_eq_true c)]
            have hmm := bef_mono (a := j') (b := y) (by omega)
            by_cases hy3 : y < 1900 ∨ y > 3000
            · rw [if_pos hy3]
            · rw [if_neg hy3, if_neg (by omega)]
          · rw [bifF (decide_eq_false c)]
            have : j' = y := by omega
            subst this
            have hb3 := bef_mono (a := 1900) (b := j') (by omega)
            rw [bef_1900] at hb3
            rw [if_neg (by omega), if_pos (by omega)]
            congr 2
            omega
  · unfold ofS
    have hl := (last_bounds y m).2.2.2 hm
    rw [if_pos (by omega)]
    rw [bifT]
    simp
    omega

theorem l11_1_eq {R : Type} (day : Int) (h0 : 0 ≤ day) (hd : day ≤ 200000) (k : Int → Int → Option R) : ∀ (n : Nat) (y : Int), 1900 ≤ y → bef y ≤ day → day < bef y + n → ∃ Y, 1900 ≤ Y ∧ bef Y ≤ day ∧ day < bef (Y + 1) ∧ l11_1 k n (day - bef y) y = k (day - bef Y) Y
  | 0, y, _, _, h => by omega
  | n + 1, y, h1, h2, h3 => by
    have hy : y ≤ 3000 := by
      rcases Int.lt_or_le 3000 y with c | c
      · have := bef_mono (a := 1900) (b := y) (by omega)
        rw [bef_1900] at this
        omega
      · exact c
    have hb := bef_b h1 hy
    have hs := bef_succ y
    have hyb := year_b y
    unfold l11_1 s11_1
    simp (disch := omega) only [wrapI, m27_eq, Option.bind_some]
    by_cases h : day - bef y ≥ year y
    · rw [bifT (decide_eq_true h), show day - bef y - year y = day - bef (y + 1) by omega]
      exact l11_1_eq day h0 hd k n (y + 1) (by omega) (by omega) (by omega)
    · rw [bifF (decide_eq_false h)]
      exact ⟨y, h1, h2, by omega, rfl⟩

theorem l11_2_eq {R : Type} (y : Int) (k : Int → Int → Option R) : ∀ (n j : Nat) (r : Int), j ≤ 11 → 12 - j ≤ n → 0 ≤ r → r < cum y 12 - cum y j → ∃ (M : Nat) (d : Int), M ≤ 11 ∧ 0 ≤ d ∧ d < last y (M + 1) ∧ r + cum y j = cum y M + d ∧ l11_2 y k n r (j + 1) = k d (M + 1)
  | 0, j, r, hj, hn, _, _ => by omega
  | n + 1, j, r, hj, hn, h0, h1 => by
    have hc12 := cum_le y (n := 12) (by omega)
    have hcj := cum_nonneg y j
    unfold l11_2 s11_2
    rw [m17_eq]
    simp only [Option.bind_some]
    have hl := last_bounds y (j + 1)
    by_cases h : r ≥ last y (j + 1)
    · rw [bifT (decide_eq_true h)]
      simp (disch := omega) only [wrapI]
      have e : (j : Int) + 1 + 1 = ((j + 1 : Nat) : Int) + 1 := by omega
      rw [e]
      have hlt : j + 1 ≤ 11 := by
        rcases Nat.lt_or_ge 11 (j + 1) with c | c
        · have : j = 11 := by omega
          subst this
          have : cum y 12 = cum y 11 + last y ((11 : Nat) + 1) := rfl
          omega
        · exact c
      obtain ⟨M, d, a1, a2, a3, a4, a5⟩ := l11_2_eq y k n (j + 1) (r - last y (j + 1)) hlt (by omega) (by omega) (by simp only [cum]; simp only [cum] at h1; omega)
      refine ⟨M, d, a1, a2, a3, ?_, a5⟩
      simp only [cum] at a4
      omega
    · rw [bifF (decide_eq_false h)]
      exact ⟨j, r, hj, h0, by omega, by omega, rfl⟩

theorem m11_eq (day : Int) : m11 day = m10 day := by
  by_cases h : 0 ≤ day ∧ day ≤ 200000
  · unfold m11
    rw [bifF (by simp <;> omega)]
    have hF := FUEL_eq
    obtain ⟨Y, a0, a1, a2, a3⟩ := l11_1_eq day h.1 h.2 (fun y3 y4 => l11_2 y4 (fun y7 y8 => some ((y4, y8, IntKind.i64.wrap (y7 + 1), 0, ()) : Int × Int × Int × Int × Unit)) FUEL y3 1) FUEL 1900 (by omega) (by rw [bef_1900]; exact h.1) (by rw [bef_1900]; omega)
    rw [bef_1900, Int.sub_zero] at a3
    rw [a3]
    have hs := bef_succ Y
    obtain ⟨M, d, b1, b2, b3, b4, b5⟩ := l11_2_eq Y (fun y7 y8 => some ((Y, y8, IntKind.i64.wrap (y7 + 1), 0, ()) : Int × Int × Int × Int × Unit)) FUEL 0 (day - bef Y) (by omega) (fuel_le (by omega)) (by omega) (by
      rw [cum_12]
      simp only [cum]
      omega)
    simp only [Int.natCast_zero, Int.zero_add] at b5
    rw [b5]
    have hl := last_bounds Y (M + 1)
    rw [wrapI (x := d + 1) (by omega) (by omega)]
    simp only [cum] at b4
    rw [m10_of (y := Y) (M := M) (d := d + 1) ⟨b1, by omega, by omega, by omega⟩ h.1 h.2]
  · rw [m10_bad h]
    unfold m11
    rw [bifT (by simp <;> omega)]

end Go.Proofs.Ytecidmdihmcclaa
