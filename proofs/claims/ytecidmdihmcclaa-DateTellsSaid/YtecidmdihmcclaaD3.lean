/- Dates: the day of a date, the date of a day. -/
import Derived.Test.YtecidmdihmcclaaD2
namespace Go.Proofs.Ytecidmdihmcclaa
open Go Go.Eng
set_option linter.unusedVariables false

theorem cum_le (y : Int) {n : Nat} (h : n ≤ 12) : cum y n ≤ 366 := by
  have := cum_mono y h
  have := cum_12 y
  have := year_b y
  omega

theorem bef_b {y : Int} (h1 : 1900 ≤ y) (h2 : y ≤ 3000) : 0 ≤ bef y ∧ bef y ≤ 402600 := by
  have := bef_mono (a := 1900) (b := y) h1
  rw [bef_1900] at this
  omega

/-- The day of a date. -/
def ofS (y m d : Int) : Int × Int × Unit :=
  if d < 1 ∨ d > last y m then (0, 23, ()) else if y < 1900 ∨ y > 3000 then (0, 3, ()) else
  if 0 ≤ bef y + cum y (m - 1).toNat + d - 1 ∧ bef y + cum y (m - 1).toNat + d - 1 ≤ 200000 then (bef y + cum y (m - 1).toNat + d - 1, 0, ()) else (0, 3, ())

theorem l8_eq {R : Type} (y : Int) (M : Nat) (hM : M ≤ 11) (k : Int → Option R) : ∀ (n j : Nat) (acc : Int), j ≤ M → M - j < n → 0 ≤ acc → acc ≤ 1000000 + cum y j →
    l8_1 y (M + 1) k n acc (j + 1) = k (acc + (cum y M - cum y j))
  | 0, j, acc, _, h, _, _ => by omega
  | n + 1, j, acc, hj, hn, h0, h1 => by
    have hc := cum_le y (n := j) (by omega)
    unfold l8_1 s8_1
    by_cases h : j = M
    · subst h
      rw [bifF (decide_eq_false (by omega))]
      congr 1
      omega
    · rw [bifT (decide_eq_true (by omega)), m16_eq]
      have hl := last_bounds y (j + 1)
      simp (disch := omega) only [Option.bind_some, wrapI]
      have e : (j : Int) + 1 + 1 = ((j + 1 : Nat) : Int) + 1 := by omega
      rw [e, l8_eq y M hM k n (j + 1) (acc + last y (j + 1)) (by omega) (by omega) (by omega) (by simp only [cum]; omega)]
      congr 1
      simp only [cum]
      omega

theorem m26_eq (d : Int) : m26 d = some (decide (0 ≤ d ∧ d ≤ 200000)) := by
  unfold m26
  by_cases h1 : 0 ≤ d <;> by_cases h2 : d ≤ 200000 <;> simp [h1, h2]

theorem bind_guard {α β : Type} (c : Bool) (a d : α) (f : α → Option β) : (bif c then some a else some d).bind f = f (bif c then a else d) := by cases c <;> rfl

theorem m8_eq (y m d : Int) : m8 y m d = some (ofS y m d) := by
  unfold m8 ofS
  rw [m16_eq, bind_guard]
  by_cases h1 : d < 1
  · rw [if_pos (.inl h1)]
    rw [decide_eq_true h1]
    rfl
  · rw [decide_eq_false h1]
    simp only [beq_self_eq_true, cond_true, Bool.false_or]
    by_cases h2 : d > last y m
    · rw [if_pos (.inr h2), decide_eq_true h2]
      rfl
    · rw [if_neg (by omega), decide_eq_false h2]
      simp only [cond_false]
      by_cases h3 : y < 1900 ∨ y > 3000
      · rw [if_pos h3, bifT (by simpa using h3)]
      · rw [if_neg h3, bifF (by simp; omega), m25_eq y (by omega) (by omega)]
        have hb := bef_b (y := y) (by omega) (by omega)
        have hm : 1 ≤ m ∧ m ≤ 12 := by
          have := (last_bounds y m).2.2.2
          by_cases h : 1 ≤ m ∧ m ≤ 12
          · exact h
          · have := this h; omega
        have hl := last_bounds y m
        simp (disch := omega) only [Option.bind_some, wrapI]
        obtain ⟨M, rfl⟩ : ∃ M : Nat, m = (M : Int) + 1 := ⟨(m - 1).toNat, by omega⟩
        have e0 : ((M : Int) + 1 - 1).toNat = M := by omega
        have hc := cum_le y (n := M) (by omega)
        have hc0 := cum_nonneg y M
        have := l8_eq y M (by omega) (fun y4 => (m26 y4).bind fun r5 => bif !r5 then some ((0, 3, ()) : Int × Int × Unit) else some (y4, 0, ())) FUEL 0 (bef y + d - 1) (by omega) (fuel_lt (by omega)) (by omega) (by simp only [cum]; omega)
        simp only [Int.natCast_zero, Int.zero_add] at this
        rw [this, show bef y + d - 1 + (cum y M - cum y 0) = bef y + cum y M + d - 1 by simp only [cum]; omega, e0, m26_eq]
        simp only [Option.bind_some]
        split
        · rename_i h; rw [decide_eq_true h]; rfl
        · rename_i h; rw [decide_eq_false h]; rfl

/-! ### The date of a day -/

/-- The date of a day, by what it is. -/
structure IsDate (day y : Int) (M : Nat) (d : Int) : Prop where
  m : M ≤ 11
  d1 : 1 ≤ d
  d2 : d ≤ last y (M + 1)
  day : day = bef y + cum y M + d - 1

theorem IsDate.year {day y d : Int} {M : Nat} (h : IsDate day y M d) : bef y ≤ day ∧ day < bef (y + 1) := by
  have h1 := cum_nonneg y M
  have h2 := cum_mono y (n := M + 1) (k := 12) (by have := h.m; omega)
  rw [cum_12] at h2
  rw [bef_succ]
  simp only [cum] at h2
  have h3 := h.day
  have h4 := h.d1
  have h5 := h.d2
  omega

theorem IsDate.uniq {day y d y' d' : Int} {M M' : Nat} (h : IsDate day y M d) (k : IsDate day y' M' d') : y = y' ∧ M = M' ∧ d = d' := by
  obtain ⟨h1, h2⟩ := h.year
  obtain ⟨k1, k2⟩ := k.year
  have hy := bef_uniq h1 h2 k1 k2
  subst hy
  have hM : M = M' := by
    have a1 := h.day
    have a2 := h.d1
    have a3 := h.d2
    have b1 := k.day
    have b2 := k.d1
    have b3 := k.d2
    rcases Nat.lt_trichotomy M M' with c | c | c
    · have := cum_mono y (n := M + 1) (k := M') (by omega)
      simp only [cum] at this
      omega
    · exact c
    · have := cum_mono y (n := M' + 1) (k := M) (by omega)
      simp only [cum] at this
      omega
  subst hM
  have a1 := h.day
  have b1 := k.day
  exact ⟨rfl, rfl, by omega⟩

theorem IsDate.of {day y d : Int} {M : Nat} (h : IsDate day y M d) (h0 : 0 ≤ day) (h1 : day ≤ 200000) : ofS y (M + 1) d = (day, 0, ()) := by
  unfold ofS
  have e0 : ((M : Int) + 1 - 1).toNat = M := by omega
  have a1 := h.d1
  have a2 := h.d2
  have a3 := h.day
  obtain ⟨b1, b2⟩ := h.year
  have y1 : 1900 ≤ y := by
    rcases Int.lt_or_le y 1900 with c | c
    · have := bef_mono (a := y + 1) (b := 1900) (by omega)
      rw [bef_1900] at this
      omega
    · exact c
  have y2 : y ≤ 3000 := by
    rcases Int.lt_or_le 3000 y with c | c
    · have := bef_mono (a := 1900) (b := y) (by omega)
      rw [bef_1900] at this
      omega
    · exact c
  rw [if_neg (by omega), if_neg (by omega), e0, if_pos (by omega)]
  rw [show bef y + cum y M + d - 1 = day by omega]

theorem l10_1_eq {R : Type} (day : Int) (hd : day ≤ 200000) (k : Int → Option R) : ∀ (n : Nat) (y : Int), 1900 ≤ y → bef y ≤ day → day < bef y + n → ∃ Y, 1900 ≤ Y ∧ bef Y ≤ day ∧ day < bef (Y + 1) ∧ l10_1 day k n y = k Y
  | 0, y, _, _, h => by omega
  | n + 1, y, h0, h1, h2 => by
    have hy : y ≤ 3000 := by
      rcases Int.lt_or_le 3000 y with c | c
      · have := bef_mono (a := 1900) (b := y) (by omega)
        rw [bef_1900] at this
        omega
      · exact c
    unfold l10_1 s10_1
    simp (disch := omega) only [wrapI, m25_eq, Option.bind_some]
    by_cases h : bef (y + 1) ≤ day
    · rw [bifT (decide_eq_true h)]
      have := bef_succ y
      have := year_b y
      exact l10_1_eq day hd k n (y + 1) (by omega) h (by omega)
    · rw [bifF (decide_eq_false h)]
      exact ⟨y, h0, h1, by omega, rfl⟩

theorem l10_2_eq {R : Type} (y : Int) (k : Int → Int → Option R) : ∀ (n j : Nat) (r : Int), j ≤ 11 → 12 - j ≤ n → 0 ≤ r → r < cum y 12 - cum y j → ∃ (M : Nat) (d : Int), M ≤ 11 ∧ 0 ≤ d ∧ d < last y (M + 1) ∧ r + cum y j = cum y M + d ∧ l10_2 y k n (j + 1) r = k (M + 1) d
  | 0, j, r, hj, hn, _, _ => by omega
  | n + 1, j, r, hj, hn, h0, h1 => by
    have hc12 := cum_le y (n := 12) (by omega)
    have hcj := cum_nonneg y j
    unfold l10_2 s10_2
    rw [m16_eq]
    simp only [Option.bind_some]
    have hl := last_bounds y (j + 1)
    by_cases h : r ≥ last y (j + 1)
    · rw [bifT (decide_eq_true h)]
      simp (disch := omega) only [wrapI]
      have e : (j : Int) + 1 + 1 = ((j + 1 : Nat) : Int) + 1 := by omega
      rw [e]
      have hlt : j + 1 ≤ 11 := by
        rcases Nat.lt_or_ge 11 (j + 1) with c | c
        · have : j = 11 := by omega
          subst this
          have : cum y 12 = cum y 11 + last y ((11 : Nat) + 1) := rfl
          omega
        · exact c
      obtain ⟨M, d, a1, a2, a3, a4, a5⟩ := l10_2_eq y k n (j + 1) (r - last y (j + 1)) hlt (by omega) (by omega) (by simp only [cum]; simp only [cum] at h1; omega)
      refine ⟨M, d, a1, a2, a3, ?_, a5⟩
      simp only [cum] at a4
      omega
    · rw [bifF (decide_eq_false h)]
      exact ⟨j, r, hj, h0, by omega, by omega, rfl⟩

theorem m10_bad {day : Int} (h : ¬ (0 ≤ day ∧ day ≤ 200000)) : m10 day = some (0, 0, 0, 3, ()) := by
  unfold m10
  rw [m26_eq, decide_eq_false h]
  rfl

theorem m10_eq {day : Int} (h0 : 0 ≤ day) (h1 : day ≤ 200000) : ∃ (y : Int) (M : Nat) (d : Int), m10 day = some (y, (M : Int) + 1, d, 0, ()) ∧ IsDate day y M d ∧ 1900 ≤ y ∧ y ≤ 3000 := by
  unfold m10
  rw [m26_eq, decide_eq_true ⟨h0, h1⟩]
  simp only [Option.bind_some, Bool.not_true, cond_false]
  rw [tdiv_pos _ h0]
  simp (disch := omega) only [wrapI]
  have hb := bef_mono (a := 1900) (b := 1900 + day / 366) (by omega)
  rw [bef_1900] at hb
  obtain ⟨Y, a0, a1, a2, a3⟩ := l10_1_eq day h1 (fun y3 => (m25 y3).bind fun r4 => l10_2 y3 (fun y7 y8 => some (y3, y7, IntKind.i64.wrap (y8 + 1), (0 : Int), ())) FUEL 1 (IntKind.i64.wrap (day - r4))) FUEL (1900 + day / 366) (by omega) (by omega) (by
    have := FUEL_eq; omega)
  rw [a3]
  have y2 : Y ≤ 3000 := by
    rcases Int.lt_or_le 3000 Y with c | c
    · have := bef_mono (a := 1900) (b := Y) (by omega)
      rw [bef_1900] at this
      omega
    · exact c
  have hb2 := bef_b a0 y2
  rw [m25_eq Y (by omega) (by omega)]
  simp only [Option.bind_some]
  rw [wrapI (x := day - bef Y) (by omega) (by omega)]
  have hs := bef_succ Y
  obtain ⟨M, d, b1, b2, b3, b4, b5⟩ := l10_2_eq Y (fun y7 y8 => some (Y, y7, IntKind.i64.wrap (y8 + 1), (0 : Int), ())) FUEL 0 (day - bef Y) (by omega) (fuel_le (by omega)) (by omega) (by
    rw [cum_12]
    simp only [cum]
    omega)
  simp only [Int.natCast_zero, Int.zero_add] at b5
  rw [b5]
  have hl := last_bounds Y (M + 1)
  rw [wrapI (x := d + 1) (by omega) (by omega)]
  simp only [cum] at b4
  exact ⟨Y, M, d + 1, rfl, ⟨b1, by omega, by omega, by omega⟩, a0, y2⟩

end Go.Proofs.Ytecidmdihmcclaa
