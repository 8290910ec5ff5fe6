/- Dates: what the functions answer, as plain functions. -/
import Derived.Test.YtecidmdihmcclaaM
import Derived.Test.YtecidmdihmcclaaE31
namespace Go.Proofs.Ytecidmdihmcclaa
open Go Go.Eng
set_option linter.unusedVariables false

theorem tm0 (a b : Int) : (Int.tmod a b == 0) = (a % b == 0) := by
  rw [Bool.eq_iff_iff, beq_iff_eq, beq_iff_eq, ← Int.dvd_iff_tmod_eq_zero, Int.dvd_iff_emod_eq_zero]

def leap (y : Int) : Bool := (y % 4 == 0) && ((y % 100 != 0) || (y % 400 == 0))

theorem m14_eq (y : Int) : m14 y = some (leap y) := by
  have h : (Int.tmod y 100 != 0) = (y % 100 != 0) := by rw [bne, bne, tm0]
  unfold m14 leap
  rw [h, tm0, tm0, asrtT, asrtT]

theorem leap_iff (y : Int) : leap y = true ↔ y % 4 = 0 ∧ (y % 100 ≠ 0 ∨ y % 400 = 0) := by
  unfold leap
  simp

theorem m15_eq (y : Int) : m15 y = some (leap y) := by
  unfold m15
  rw [tm0, tm0, tm0]
  cases h : (y % 100 == 0) with
  | true =>
    simp only [cond_true, Option.some.injEq]
    rw [Bool.eq_iff_iff, leap_iff]
    simp at h ⊢
    omega
  | false =>
    simp only [cond_false, Option.some.injEq]
    rw [Bool.eq_iff_iff, leap_iff]
    simp at h ⊢
    omega

def feb (y : Int) : Int := if leap y = true then 29 else 28

def last (y m : Int) : Int :=
  if m = 1 then 31 else if m = 2 then feb y else if m = 3 then 31 else if m = 4 then 30 else if m = 5 then 31 else if m = 6 then 30 else
  if m = 7 then 31 else if m = 8 then 31 else if m = 9 then 30 else if m = 10 then 31 else if m = 11 then 30 else if m = 12 then 31 else 0

theorem m16_eq (y m : Int) : m16 y m = some (last y m) := by
  unfold m16 last
  rw [m14_eq]
  by_cases h1 : m = 1; · subst h1; rfl
  by_cases h3 : m = 3; · subst h3; rfl
  by_cases h5 : m = 5; · subst h5; rfl
  by_cases h7 : m = 7; · subst h7; rfl
  by_cases h8 : m = 8; · subst h8; rfl
  by_cases h10 : m = 10; · subst h10; rfl
  by_cases h12 : m = 12; · subst h12; rfl
  by_cases h4 : m = 4; · subst h4; rfl
  by_cases h6 : m = 6; · subst h6; rfl
  by_cases h9 : m = 9; · subst h9; rfl
  by_cases h11 : m = 11; · subst h11; rfl
  have e : ∀ k : Int, m ≠ k → (m == k) = false := fun k h => beq_eq_false_iff_ne.2 h
  simp only [cont, e 1 h1, e 3 h3, e 5 h5, e 7 h7, e 8 h8, e 10 h10, e 12 h12, e 4 h4, e 6 h6, e 9 h9, e 11 h11, cond_false, Option.bind_some, if_neg h1, if_neg h3, if_neg h5, if_neg h7, if_neg h8, if_neg h10, if_neg h12, if_neg h4, if_neg h6, if_neg h9, if_neg h11]
  by_cases h2 : m = 2
  · subst h2
    unfold feb
    cases leap y <;> rfl
  · rw [e 2 h2, if_neg h2]; rfl

theorem m17_eq (y m : Int) : m17 y m = some (last y m) := by
  by_cases h : 1 ≤ m ∧ m ≤ 12
  · have hm : m = 1 ∨ m = 2 ∨ m = 3 ∨ m = 4 ∨ m = 5 ∨ m = 6 ∨ m = 7 ∨ m = 8 ∨ m = 9 ∨ m = 10 ∨ m = 11 ∨ m = 12 := by omega
    unfold m17
    rw [m15_eq]
    rcases hm with h | h | h | h | h | h | h | h | h | h | h | h <;> subst h
    all_goals try rfl
    unfold last feb
    cases leap y <;> rfl
  · unfold m17 last
    have : (decide (m < 1) || decide (m > 12)) = true := by
      simp; omega
    rw [this]
    simp only [cond_true]
    rw [if_neg (by omega), if_neg (by omega), if_neg (by omega), if_neg (by omega), if_neg (by omega), if_neg (by omega), if_neg (by omega), if_neg (by omega), if_neg (by omega), if_neg (by omega), if_neg (by omega), if_neg (by omega)]

theorem last_bounds (y m : Int) : 0 ≤ last y m ∧ last y m ≤ 31 ∧ (1 ≤ m ∧ m ≤ 12 → 28 ≤ last y m) ∧ (¬ (1 ≤ m ∧ m ≤ 12) → last y m = 0) := by
  unfold last feb
  repeat' split
  all_goals omega

/-- Days before a year. -/
def bef (y : Int) : Int := 365 * (y - 1900) + (y - 1) / 4 - (y - 1) / 100 + (y - 1) / 400 - 460

theorem m25_eq (y : Int) (h1 : 1 ≤ y) (h2 : y ≤ 1000000000) : m25 y = some (bef y) := by
  unfold m25 bef
  rw [show IntKind.i64.wrap (y - 1) = y - 1 from wrapI (by omega) (by omega)]
  rw [tdiv_pos _ (by omega), tdiv_pos _ (by omega), tdiv_pos _ (by omega)]
  simp (disch := omega) only [wrapI]
  congr 1
  omega

def year (y : Int) : Int := if leap y = true then 366 else 365

theorem m27_eq (y : Int) : m27 y = some (year y) := by
  unfold m27 year
  rw [m15_eq]
  cases leap y <;> rfl

theorem year_b (y : Int) : 365 ≤ year y ∧ year y ≤ 366 := by unfold year; split <;> omega

theorem bef_succ (y : Int) : bef (y + 1) = bef y + year y := by
  unfold bef year
  by_cases h : leap y = true
  · rw [if_pos h]; rw [leap_iff] at h; omega
  · rw [if_neg h]; rw [leap_iff] at h; omega

theorem bef_1900 : bef 1900 = 0 := by decide +kernel

theorem bef_mono {a b : Int} (h : a ≤ b) : bef a + 365 * (b - a) ≤ bef b ∧ bef b ≤ bef a + 366 * (b - a) := by
  obtain ⟨n, rfl⟩ : ∃ n : Nat, b = a + n := ⟨(b - a).toNat, by omega⟩
  clear h
  induction n with
  | zero => simp
  | succ n ih =>
    have h1 := bef_succ (a + n)
    have h2 := year_b (a + n)
    have e : a + ((n + 1 : Nat) : Int) = a + n + 1 := by omega
    rw [e, h1]
    omega

theorem bef_lt {a b : Int} (h : a < b) : bef a < bef b := by
  have := bef_mono (a := a) (b := b) (by omega)
  omega

theorem bef_uniq {a b d : Int} (h1 : bef a ≤ d) (h2 : d < bef (a + 1)) (h3 : bef b ≤ d) (h4 : d < bef (b + 1)) : a = b := by
  rcases Int.lt_trichotomy a b with h | h | h
  · have := bef_mono (a := a + 1) (b := b) (by omega); omega
  · exact h
  · have := bef_mono (a := b + 1) (b := a) (by omega); omega

/-- The days of the months before. -/
def cum (y : Int) : Nat → Int
  | 0 => 0
  | n + 1 => cum y n + last y (n + 1)

theorem cum_12 (y : Int) : cum y 12 = year y := by
  simp only [cum, last, feb, year]
  simp
  split <;> omega

theorem cum_nonneg (y : Int) (n : Nat) : 0 ≤ cum y n := by
  induction n with
  | zero => exact Int.le_refl 0
  | succ n ih => have := (last_bounds y (n + 1)).1; simp only [cum]; omega

theorem cum_mono (y : Int) {n k : Nat} (h : n ≤ k) : cum y n ≤ cum y k := by
  obtain ⟨d, rfl⟩ : ∃ d, k = n + d := ⟨k - n, by omega⟩
  induction d with
  | zero => exact Int.le_refl _
  | succ d ih =>
    have := ih (by omega)
    have h2 := (last_bounds y ((n + d : Nat) + 1)).1
    show cum y n ≤ cum y (n + d) + last y ((n + d : Nat) + 1)
    omega

end Go.Proofs.Ytecidmdihmcclaa
