/- Lemmas over models (carried over from another seat). -/
import Derived.Test.YtdobcidinpjkoaaM
import Derived.Test.YtdobcidinpjkoaaE32
namespace Go.Proofs.Ytdobcidinpjkoaa
open Go Go.Eng
set_option linter.unusedVariables false
set_option linter.unusedSimpArgs false

def leap (y : Int) : Bool := (y % 4 == 0) && ((y % 100 != 0) || (y % 400 == 0))

theorem m42_eq (y : Int) : m42 y = some (leap y) := by
  have h : (Int.tmod y 100 != 0) = (y % 100 != 0) := by rw [bne, bne, tm0]
  unfold m42 leap
  rw [h, tm0, tm0, asrtT, asrtT]

theorem leap_iff (y : Int) : leap y = true ↔ y % 4 = 0 ∧ (y % 100 ≠ 0 ∨ y % 400 = 0) := by
  unfold leap
  simp

theorem m46_eq (y : Int) : m46 y = some (leap y) := by
  unfold m46
  rw [tm0, tm0, tm0]
  cases h : (y % 100 == 0) with
  | true =>
    simp only [cond_true, Option.some.injEq]
    rw [Bool.eq_iff_iff, leap_iff]
    simp at h ⊢
    omega
  | false =>
    simp only [cond_false, Option.some.injEq]
    rw [Bool.eq_iff_iff, leap_iff]
    simp at h ⊢
    omega

def feb (y : Int) : Int := if leap y = true then 29 else 28

def last (y m : Int) : Int :=
  if m = 1 then 31 else if m = 2 then feb y else if m = 3 then 31 else if m = 4 then 30 else if m = 5 then 31 else if m = 6 then 30 else
  if m = 7 then 31 else if m = 8 then 31 else if m = 9 then 30 else if m = 10 then 31 else if m = 11 then 30 else if m = 12 then 31 else 0

theorem m37_eq (y m : Int) : m37 y m = some (last y m) := by
  unfold m37 last
  rw [m42_eq]
  by_cases h1 : m = 1; · subst h1; rfl
  by_cases h3 : m = 3; · subst h3; rfl
  by_cases h5 : m = 5; · subst h5; rfl
  by_cases h7 : m = 7; · subst h7; rfl
  by_cases h8 : m = 8; · subst h8; rfl
  by_cases h10 : m = 10; · subst h10; rfl
  by_cases h12 : m = 12; · subst h12; rfl
  by_cases h4 : m = 4; · subst h4; rfl
  by_cases h6 : m = 6; · subst h6; rfl
  by_cases h9 : m = 9; · subst h9; rfl
  by_cases h11 : m = 11; · subst h11; rfl
  have e : ∀ k : Int, m ≠ k → (m == k) = false := fun k h => beq_eq_false_iff_ne.2 h
  simp only [cont, e 1 h1, e 3 h3, e 5 h5, e 7 h7, e 8 h8, e 10 h10, e 12 h12, e 4 h4, e 6 h6, e 9 h9, e 11 h11, cond_false, Option.bind_some, if_neg h1, if_neg h3, if_neg h5, if_neg h7, if_neg h8, if_neg h10, if_neg h12, if_neg h4, if_neg h6, if_neg h9, if_neg h11]
  by_cases h2 : m = 2
  · subst h2
    unfold feb
    cases leap y <;> rfl
  · rw [e 2 h2, if_neg h2]; rfl

theorem m41_eq (y m : Int) : m41 y m = some (last y m) := by
  by_cases h : 1 ≤ m ∧ m ≤ 12
  · have hm : m = 1 ∨ m = 2 ∨ m = 3 ∨ m = 4 ∨ m = 5 ∨ m = 6 ∨ m = 7 ∨ m = 8 ∨ m = 9 ∨ m = 10 ∨ m = 11 ∨ m = 12 := by omega
    unfold m41
    rw [m46_eq]
    rcases hm with h | h | h | h | h | h | h | h | h | h | h | h <;> subst h
    all_goals try rfl
    unfold last feb
    cases leap y <;> rfl
  · unfold m41 last
    have : (decide (m < 1) || decide (m > 12)) = true := by
      simp; omega
    rw [this]
    simp only [cond_true]
    rw [if_neg (by omega), if_neg (by omega), if_neg (by omega), if_neg (by omega), if_neg (by omega), if_neg (by omega), if_neg (by omega), if_neg (by omega), if_neg (by omega), if_neg (by omega), if_neg (by omega), if_neg (by omega)]

theorem last_bounds (y m : Int) : 0 ≤ last y m ∧ last y m ≤ 31 ∧ (1 ≤ m ∧ m ≤ 12 → 28 ≤ last y m) ∧ (¬ (1 ≤ m ∧ m ≤ 12) → last y m = 0) := by
  unfold last feb
  repeat' split
  all_goals omega

/-- Days before a year. -/
def bef (y : Int) : Int := 365 * (y - 1900) + (y - 1) / 4 - (y - 1) / 100 + (y - 1) / 400 - 460

theorem m36_eq (y : Int) (h1 : 1 ≤ y) (h2 : y ≤ 1000000000) : m36 y = some (bef y) := by
  unfold m36 bef
  rw [show IntKind.i64.wrap (y - 1) = y - 1 from wrapI (by omega) (by omega)]
  rw [tdiv_pos _ (by omega), tdiv_pos _ (by omega), tdiv_pos _ (by omega)]
  simp (disch := omega) only [wrapI]
  congr 1
  omega

def year (y : Int) : Int := if leap y = true then 366 else 365

theorem m40_eq (y : Int) : m40 y = some (year y) := by
  unfold m40 year
  rw [m46_eq]
  cases leap y <;> rfl

theorem year_b (y : Int) : 365 ≤ year y ∧ year y ≤ 366 := by unfold year; split <;> omega

theorem bef_succ (y : Int) : bef (y + 1) = bef y + year y := by
  unfold bef year
  by_cases h : leap y = true
  · rw [if_pos h]; rw [leap_iff] at h; omega
  · rw [if_neg h]; rw [leap_iff] at h; omega

theorem bef_1900 : bef 1900 = 0 := by decide +kernel

theorem bef_mono {a b : Int} (h : a ≤ b) : bef a + 365 * (b - a) ≤ bef b ∧ bef b ≤ bef a + 366 * (b - a) := by
  obtain ⟨n, rfl⟩ : ∃ n : Nat, b = a + n := ⟨(b - a).toNat, by omega⟩
  clear h
  induction n with
  | zero => simp
  | succ n ih =>
    have h1 := bef_succ (a + n)
    have h2 := year_b (a + n)
    have e : a + ((n + 1 : Nat) : Int) = a + n + 1 := by omega
    rw [e, h1]
    omega

theorem bef_lt {a b : Int} (h : a < b) : bef a < bef b := by
  have := bef_mono (a := a) (b := b) (by omega)
  omega

theorem bef_uniq {a b d : Int} (h1 : bef a ≤ d) (h2 : d < bef (a + 1)) (h3 : bef b ≤ d) (h4 : d < bef (b + 1)) : a = b := by
  rcases Int.lt_trichotomy a b with h | h | h
  · have := bef_mono (a := a + 1) (b := b) (by omega); omega
  · exact h
  · have := bef_mono (a := b + 1) (b := a) (by omega); omega

/-- The days of the months before. -/
def cum (y : Int) : Nat → Int
  | 0 => 0
  | n + 1 => cum y n + last y (n + 1)

theorem cum_12 (y : Int) : cum y 12 = year y := by
  simp only [cum, last, feb, year]
  simp
  split <;> omega

theorem cum_nonneg (y : Int) (n : Nat) : 0 ≤ cum y n := by
  induction n with
  | zero => exact Int.le_refl 0
  | succ n ih => have := (last_bounds y (n + 1)).1; simp only [cum]; omega

theorem cum_mono (y : Int) {n k : Nat} (h : n ≤ k) : cum y n ≤ cum y k := by
  obtain ⟨d, rfl⟩ : ∃ d, k = n + d := ⟨k - n, by omega⟩
  induction d with
  | zero => exact Int.le_refl _
  | succ d ih =>
    have := ih (by omega)
    have h2 := (last_bounds y ((n + d : Nat) + 1)).1
    show cum y n ≤ cum y (n + d) + last y ((n + d : Nat) + 1)
    omega

theorem cum_le (y : Int) {n : Nat} (h : n ≤ 12) : cum y n ≤ 366 := by
  have := cum_mono y h
  have := cum_12 y
  have := year_b y
  omega

theorem bef_b {y : Int} (h1 : 1900 ≤ y) (h2 : y ≤ 3000) : 0 ≤ bef y ∧ bef y ≤ 402600 := by
  have := bef_mono (a := 1900) (b := y) h1
  rw [bef_1900] at this
  omega

/-- The day of a date. -/
def ofS (y m d : Int) : Int × Int × Unit :=
  if d < 1 ∨ d > last y m then (0, 23, ()) else if y < 1900 ∨ y > 3000 then (0, 3, ()) else
  if 0 ≤ bef y + cum y (m - 1).toNat + d - 1 ∧ bef y + cum y (m - 1).toNat + d - 1 ≤ 200000 then (bef y + cum y (m - 1).toNat + d - 1, 0, ()) else (0, 3, ())

theorem m35_eq (d : Int) : m35 d = some (decide (0 ≤ d ∧ d ≤ 200000)) := by
  unfold m35
  by_cases h1 : 0 ≤ d <;> by_cases h2 : d ≤ 200000 <;> simp [h1, h2]

/-- The date of a day, by what it is. -/
structure IsDate (day y : Int) (M : Nat) (d : Int) : Prop where
  m : M ≤ 11
  d1 : 1 ≤ d
  d2 : d ≤ last y (M + 1)
  day : day = bef y + cum y M + d - 1

theorem IsDate.year {day y d : Int} {M : Nat} (h : IsDate day y M d) : bef y ≤ day ∧ day < bef (y + 1) := by
  have h1 := cum_nonneg y M
  have h2 := cum_mono y (n := M + 1) (k := 12) (by have := h.m; omega)
  rw [cum_12] at h2
  rw [bef_succ]
  simp only [cum] at h2
  have h3 := h.day
  have h4 := h.d1
  have h5 := h.d2
  omega

theorem IsDate.uniq {day y d y' d' : Int} {M M' : Nat} (h : IsDate day y M d) (k : IsDate day y' M' d') : y = y' ∧ M = M' ∧ d = d' := by
  obtain ⟨h1, h2⟩ := h.year
  obtain ⟨k1, k2⟩ := k.year
  have hy := bef_uniq h1 h2 k1 k2
  subst hy
  have hM : M = M' := by
    have a1 := h.day
    have a2 := h.d1
    have a3 := h.d2
    have b1 := k.day
    have b2 := k.d1
    have b3 := k.d2
    rcases Nat.lt_trichotomy M M' with c | c | c
    · have := cum_mono y (n := M + 1) (k := M') (by omega)
      simp only [cum] at this
      omega
    · exact c
    · have := cum_mono y (n := M' + 1) (k := M) (by omega)
      simp only [cum] at this
      omega
  subst hM
  have a1 := h.day
  have b1 := k.day
  exact ⟨rfl, rfl, by omega⟩

theorem IsDate.of {day y d : Int} {M : Nat} (h : IsDate day y M d) (h0 : 0 ≤ day) (h1 : day ≤ 200000) : ofS y (M + 1) d = (day, 0, ()) := by
  unfold ofS
  have e0 : ((M : Int) + 1 - 1).toNat = M := by omega
  have a1 := h.d1
  have a2 := h.d2
  have a3 := h.day
  obtain ⟨b1, b2⟩ := h.year
  have y1 : 1900 ≤ y := by
    rcases Int.lt_or_le y 1900 with c | c
    · have := bef_mono (a := y + 1) (b := 1900) (by omega)
      rw [bef_1900] at this
      omega
    · exact c
  have y2 : y ≤ 3000 := by
    rcases Int.lt_or_le 3000 y with c | c
    · have := bef_mono (a := 1900) (b := y) (by omega)
      rw [bef_1900] at this
      omega
    · exact c
  rw [if_neg (by omega), if_neg (by omega), e0, if_pos (by omega)]
  rw [show bef y + cum y M + d - 1 = day by omega]

theorem l22_1_eq {R : Type} (day : Int) (hd : day ≤ 200000) (k : Int → Option R) : ∀ (n : Nat) (y : Int), 1900 ≤ y → bef y ≤ day → day < bef y + n → ∃ Y, 1900 ≤ Y ∧ bef Y ≤ day ∧ day < bef (Y + 1) ∧ l22_1 day k n y = k Y
  | 0, y, _, _, h => by omega
  | n + 1, y, h0, h1, h2 => by
    have hy : y ≤ 3000 := by
      rcases Int.lt_or_le 3000 y with c | c
      · have := bef_mono (a := 1900) (b := y) (by omega)
        rw [bef_1900] at this
        omega
      · exact c
    unfold l22_1 s22_1
    simp (disch := omega) only [wrapI, m36_eq, Option.bind_some]
    by_cases h : bef (y + 1) ≤ day
    · rw [bifT (decide_eq_true h)]
      have := bef_succ y
      have := year_b y
      exact l22_1_eq day hd k n (y + 1) (by omega) h (by omega)
    · rw [bifF (decide_eq_false h)]
      exact ⟨y, h0, h1, by omega, rfl⟩

theorem l22_2_eq {R : Type} (y : Int) (k : Int → Int → Option R) : ∀ (n j : Nat) (r : Int), j ≤ 11 → 12 - j ≤ n → 0 ≤ r → r < cum y 12 - cum y j → ∃ (M : Nat) (d : Int), M ≤ 11 ∧ 0 ≤ d ∧ d < last y (M + 1) ∧ r + cum y j = cum y M + d ∧ l22_2 y k n (j + 1) r = k (M + 1) d
  | 0, j, r, hj, hn, _, _ => by omega
  | n + 1, j, r, hj, hn, h0, h1 => by
    have hc12 := cum_le y (n := 12) (by omega)
    have hcj := cum_nonneg y j
    unfold l22_2 s22_2
    rw [m37_eq]
    simp only [Option.bind_some]
    have hl := last_bounds y (j + 1)
    by_cases h : r ≥ last y (j + 1)
    · rw [bifT (decide_eq_true h)]
      simp (disch := omega) only [wrapI]
      have e : (j : Int) + 1 + 1 = ((j + 1 : Nat) : Int) + 1 := by omega
      rw [e]
      have hlt : j + 1 ≤ 11 := by
        rcases Nat.lt_or_ge 11 (j + 1) with c | c
        · have : j = 11 := by omega
          subst this
          have : cum y 12 = cum y 11 + last y ((11 : Nat) + 1) := rfl
          omega
        · exact c
      obtain ⟨M, d, a1, a2, a3, a4, a5⟩ := l22_2_eq y k n (j + 1) (r - last y (j + 1)) hlt (by omega) (by omega) (by simp only [cum]; simp only [cum] at h1; omega)
      refine ⟨M, d, a1, a2, a3, ?_, a5⟩
      simp only [cum] at a4
      omega
    · rw [bifF (decide_eq_false h)]
      exact ⟨j, r, hj, h0, by omega, by omega, rfl⟩

theorem m22_bad {day : Int} (h : ¬ (0 ≤ day ∧ day ≤ 200000)) : m22 day = some (0, 0, 0, 3, ()) := by
  unfold m22
  rw [m35_eq, decide_eq_false h]
  rfl

theorem m22_eq {day : Int} (h0 : 0 ≤ day) (h1 : day ≤ 200000) : ∃ (y : Int) (M : Nat) (d : Int), m22 day = some (y, (M : Int) + 1, d, 0, ()) ∧ IsDate day y M d ∧ 1900 ≤ y ∧ y ≤ 3000 := by
  unfold m22
  rw [m35_eq, decide_eq_true ⟨h0, h1⟩]
  simp only [Option.bind_some, Bool.not_true, cond_false]
  rw [tdiv_pos _ h0]
  simp (disch := omega) only [wrapI]
  have hb := bef_mono (a := 1900) (b := 1900 + day / 366) (by omega)
  rw [bef_1900] at hb
  obtain ⟨Y, a0, a1, a2, a3⟩ := l22_1_eq day h1 (fun y3 => (m36 y3).bind fun r4 => l22_2 y3 (fun y7 y8 => some (y3, y7, IntKind.i64.wrap (y8 + 1), (0 : Int), ())) FUEL 1 (IntKind.i64.wrap (day - r4))) FUEL (1900 + day / 366) (by omega) (by omega) (by
    have := FUEL_eq; omega)
  rw [a3]
  have y2 : Y ≤ 3000 := by
    rcases Int.lt_or_le 3000 Y with c | c
    · have := bef_mono (a := 1900) (b := Y) (by omega)
      rw [bef_1900] at this
      omega
    · exact c
  have hb2 := bef_b a0 y2
  rw [m36_eq Y (by omega) (by omega)]
  simp only [Option.bind_some]
  rw [wrapI (x := day - bef Y) (by omega) (by omega)]
  have hs := bef_succ Y
  obtain ⟨M, d, b1, b2, b3, b4, b5⟩ := l22_2_eq Y (fun y7 y8 => some (Y, y7, IntKind.i64.wrap (y8 + 1), (0 : Int), ())) FUEL 0 (day - bef Y) (by omega) (fuel_le (by omega)) (by omega) (by
    rw [cum_12]
    simp only [cum]
    omega)
  simp only [Int.natCast_zero, Int.zero_add] at b5
  rw [b5]
  have hl := last_bounds Y (M + 1)
  rw [wrapI (x := d + 1) (by omega) (by omega)]
  simp only [cum] at b4
  exact ⟨Y, M, d + 1, rfl, ⟨b1, by omega, by omega, by omega⟩, a0, y2⟩

theorem IsDate.ys {day y d : Int} {M : Nat} (h : IsDate day y M d) (h0 : 0 ≤ day) (h1 : day ≤ 200000) : 1900 ≤ y ∧ y ≤ 2600 := by
  obtain ⟨b1, b2⟩ := h.year
  constructor
  · rcases Int.lt_or_le y 1900 with c | c
    · have := bef_mono (a := y + 1) (b := 1900) (by omega)
      rw [bef_1900] at this
      omega
    · exact c
  · rcases Int.lt_or_le 2600 y with c | c
    · have := bef_mono (a := 1900) (b := y) (by omega)
      rw [bef_1900] at this
      omega
    · exact c

theorem m22_of {day y d : Int} {M : Nat} (h : IsDate day y M d) (h0 : 0 ≤ day) (h1 : day ≤ 200000) : m22 day = some (y, (M : Int) + 1, d, 0, ()) := by
  obtain ⟨y', M', d', e, h', _⟩ := m22_eq h0 h1
  obtain ⟨rfl, rfl, rfl⟩ := h.uniq h'
  exact e

/-- The day so many months later. -/
def addS (y M d n : Int) : Int × Int × Unit := ofS ((12 * y + M + n) / 12) ((12 * y + M + n) % 12 + 1) (min d (last ((12 * y + M + n) / 12) ((12 * y + M + n) % 12 + 1)))

/-- Where the months lead. -/
theorem addS_eq {day y d n : Int} {M : Nat} (h : IsDate day y M d) (h0 : 0 ≤ day) (h1 : day ≤ 200000) (n0 : -10000 ≤ n) (n1 : n ≤ 10000) :
    ∃ (a y' : Int) (M' : Nat), IsDate a y' M' (min d (last y' (M' + 1))) ∧ 12 * y' + M' = 12 * y + M + n ∧ addS y M d n = (if 0 ≤ a ∧ a ≤ 200000 then (a, 0, ()) else (0, 3, ())) := by
  obtain ⟨y1, y2⟩ := h.ys h0 h1
  have hm := h.m
  obtain ⟨M', hM'⟩ : ∃ M' : Nat, (12 * y + M + n) % 12 = M' := ⟨((12 * y + M + n) % 12).toNat, by omega⟩
  have hl := last_bounds ((12 * y + M + n) / 12) ((M' : Int) + 1)
  have hd := h.d1
  have hdl := (last_bounds y (M + 1)).2.1
  have hd2 := h.d2
  refine ⟨bef ((12 * y + M + n) / 12) + cum ((12 * y + M + n) / 12) M' + min d (last ((12 * y + M + n) / 12) (M' + 1)) - 1, (12 * y + M + n) / 12, M', ⟨by omega, by omega, by omega, rfl⟩, by omega, ?_⟩
  unfold addS
  rw [hM']
  unfold ofS
  have e0 : ((M' : Int) + 1 - 1).toNat = M' := by omega
  rw [if_neg (by omega), e0]
  by_cases hy : (12 * y + M + n) / 12 < 1900 ∨ (12 * y + M + n) / 12 > 3000
  · rw [if_pos hy]
    rw [if_neg]
    have hc := cum_nonneg ((12 * y + M + n) / 12) M'
    have hc2 := cum_le ((12 * y + M + n) / 12) (n := M') (by omega)
    have hc3 := cum_mono ((12 * y + M + n) / 12) (n := M' + 1) (k := 12) (by omega)
    rw [cum_12] at hc3
    simp only [cum] at hc3
    have hs := bef_succ ((12 * y + M + n) / 12)
    rcases hy with c | c
    · have := bef_mono (a := (12 * y + M + n) / 12 + 1) (b := 1900) (by omega)
      rw [bef_1900] at this
      omega
    · have := bef_mono (a := 1900) (b := (12 * y + M + n) / 12) (by omega)
      rw [bef_1900] at this
      omega
  · rw [if_neg hy]

/-- The order of dates is that of days. -/
theorem IsDate.lt {a b y d y' d' : Int} {M M' : Nat} (h : IsDate a y M d) (k : IsDate b y' M' d') (hlt : 12 * y + M < 12 * y' + M' ∨ (12 * y + M = 12 * y' + M' ∧ d < d')) : a < b := by
  obtain ⟨h1, h2, h3, h4⟩ := h
  obtain ⟨k1, k2, k3, k4⟩ := k
  rcases Int.lt_trichotomy y y' with c | c | c
  · obtain ⟨e1, e2⟩ := IsDate.year ⟨h1, h2, h3, h4⟩
    obtain ⟨f1, f2⟩ := IsDate.year ⟨k1, k2, k3, k4⟩
    have := bef_mono (a := y + 1) (b := y') (by omega)
    omega
  · subst c
    rcases Nat.lt_trichotomy M M' with c | c | c
    · have := cum_mono y (n := M + 1) (k := M') (by omega)
      simp only [cum] at this
      omega
    · subst c; omega
    · omega
  · omega

theorem IsDate.le {a b y d y' d' : Int} {M M' : Nat} (h : IsDate a y M d) (k : IsDate b y' M' d') (hle : a ≤ b) : 12 * y + M < 12 * y' + M' ∨ (12 * y + M = 12 * y' + M' ∧ d ≤ d') := by
  rcases Int.lt_trichotomy (12 * y + M) (12 * y' + M') with c | c | c
  · exact .inl c
  · rcases Int.lt_or_le d' d with c2 | c2
    · have := k.lt h (.inr ⟨c.symm, c2⟩); omega
    · exact .inr ⟨c, c2⟩
  · have := k.lt h (.inl c); omega

theorem IsDate.mono {a b y d y' d' : Int} {M M' : Nat} (h : IsDate a y M d) (k : IsDate b y' M' d') (hle : 12 * y + M < 12 * y' + M' ∨ (12 * y + M = 12 * y' + M' ∧ d ≤ d')) : a ≤ b := by
  rcases Int.lt_or_le b a with c | c
  · rcases k.le h (by omega) with e | e
    · omega
    · have := h.day
      have := k.day
      have hM : M = M' ∧ y = y' := by have := h.m; have := k.m; omega
      obtain ⟨rfl, rfl⟩ := hM
      omega
  · exact c

theorem l34_1_eq {R : Type} (day : Int) (h0 : 0 ≤ day) (hd : day ≤ 200000) (k : Int → Int → Option R) : ∀ (n : Nat) (y : Int), 1900 ≤ y → bef y ≤ day → day < bef y + n → ∃ Y, 1900 ≤ Y ∧ bef Y ≤ day ∧ day < bef (Y + 1) ∧ l34_1 k n (day - bef y) y = k (day - bef Y) Y
  | 0, y, _, _, h => by omega
  | n + 1, y, h1, h2, h3 => by
    have hy : y ≤ 3000 := by
      rcases Int.lt_or_le 3000 y with c | c
      · have := bef_mono (a := 1900) (b := y) (by omega)
        rw [bef_1900] at this
        omega
      · exact c
    have hb := bef_b h1 hy
    have hs := bef_succ y
    have hyb := year_b y
    unfold l34_1 s34_1
    simp (disch := omega) only [wrapI, m40_eq, Option.bind_some]
    by_cases h : day - bef y ≥ year y
    · rw [bifT (decide_eq_true h), show day - bef y - year y = day - bef (y + 1) by omega]
      exact l34_1_eq day h0 hd k n (y + 1) (by omega) (by omega) (by omega)
    · rw [bifF (decide_eq_false h)]
      exact ⟨y, h1, h2, by omega, rfl⟩

theorem l34_2_eq {R : Type} (y : Int) (k : Int → Int → Option R) : ∀ (n j : Nat) (r : Int), j ≤ 11 → 12 - j ≤ n → 0 ≤ r → r < cum y 12 - cum y j → ∃ (M : Nat) (d : Int), M ≤ 11 ∧ 0 ≤ d ∧ d < last y (M + 1) ∧ r + cum y j = cum y M + d ∧ l34_2 y k n r (j + 1) = k d (M + 1)
  | 0, j, r, hj, hn, _, _ => by omega
  | n + 1, j, r, hj, hn, h0, h1 => by
    have hc12 := cum_le y (n := 12) (by omega)
    have hcj := cum_nonneg y j
    unfold l34_2 s34_2
    rw [m41_eq]
    simp only [Option.bind_some]
    have hl := last_bounds y (j + 1)
    by_cases h : r ≥ last y (j + 1)
    · rw [bifT (decide_eq_true h)]
      simp (disch := omega) only [wrapI]
      have e : (j : Int) + 1 + 1 = ((j + 1 : Nat) : Int) + 1 := by omega
      rw [e]
      have hlt : j + 1 ≤ 11 := by
        rcases Nat.lt_or_ge 11 (j + 1) with c | c
        · have : j = 11 := by omega
          subst this
          have : cum y 12 = cum y 11 + last y ((11 : Nat) + 1) := rfl
          omega
        · exact c
      obtain ⟨M, d, a1, a2, a3, a4, a5⟩ := l34_2_eq y k n (j + 1) (r - last y (j + 1)) hlt (by omega) (by omega) (by simp only [cum]; simp only [cum] at h1; omega)
      refine ⟨M, d, a1, a2, a3, ?_, a5⟩
      simp only [cum] at a4
      omega
    · rw [bifF (decide_eq_false h)]
      exact ⟨j, r, hj, h0, by omega, by omega, rfl⟩

theorem m34_eq (day : Int) : m34 day = m22 day := by
  by_cases h : 0 ≤ day ∧ day ≤ 200000
  · unfold m34
    rw [bifF (by simp <;> omega)]
    have hF := FUEL_eq
    obtain ⟨Y, a0, a1, a2, a3⟩ := l34_1_eq day h.1 h.2 (fun y3 y4 => l34_2 y4 (fun y7 y8 => some ((y4, y8, IntKind.i64.wrap (y7 + 1), 0, ()) : Int × Int × Int × Int × Unit)) FUEL y3 1) FUEL 1900 (by omega) (by rw [bef_1900]; exact h.1) (by rw [bef_1900]; omega)
    rw [bef_1900, Int.sub_zero] at a3
    rw [a3]
    have hs := bef_succ Y
    obtain ⟨M, d, b1, b2, b3, b4, b5⟩ := l34_2_eq Y (fun y7 y8 => some ((Y, y8, IntKind.i64.wrap (y7 + 1), 0, ()) : Int × Int × Int × Int × Unit)) FUEL 0 (day - bef Y) (by omega) (fuel_le (by omega)) (by omega) (by
      rw [cum_12]
      simp only [cum]
      omega)
    simp only [Int.natCast_zero, Int.zero_add] at b5
    rw [b5]
    have hl := last_bounds Y (M + 1)
    rw [wrapI (x := d + 1) (by omega) (by omega)]
    simp only [cum] at b4
    rw [m22_of (y := Y) (M := M) (d := d + 1) ⟨b1, by omega, by omega, by omega⟩ h.1 h.2]
  · rw [m22_bad h]
    unfold m34
    rw [bifT (by simp <;> omega)]

end Go.Proofs.Ytdobcidinpjkoaa
