/- Lemmas over models (carried over from another seat). -/
import Derived.Test.YtophafggfmhooaaM
namespace Go.Proofs.Ytophafggfmhooaa
open Go Go.Eng
set_option linter.unusedVariables false
set_option linter.unusedSimpArgs false

def leap (y : Int) : Bool := (y % 4 == 0) && ((y % 100 != 0) || (y % 400 == 0))

theorem m39_eq (y : Int) : m39 y = some (leap y) := by
  have h : (Int.tmod y 100 != 0) = (y % 100 != 0) := by rw [bne, bne, tm0]
  unfold m39 leap
  rw [h, tm0, tm0, asrtT, asrtT]

theorem leap_iff (y : Int) : leap y = true ↔ y % 4 = 0 ∧ (y % 100 ≠ 0 ∨ y % 400 = 0) := by
  unfold leap
  simp

theorem m61_eq (y : Int) : m61 y = some (leap y) := by
  unfold m61
  rw [tm0, tm0, tm0]
  cases h : (y % 100 == 0) with
  | true =>
    simp only [cond_true, Option.some.injEq]
    rw [Bool.eq_iff_iff, leap_iff]
    simp at h ⊢
    omega
  | false =>
    simp only [cond_false, Option.some.injEq]
    rw [Bool.eq_iff_iff, leap_iff]
    simp at h ⊢
    omega

def feb (y : Int) : Int := if leap y = true then 29 else 28

def last (y m : Int) : Int :=
  if m = 1 then 31 else if m = 2 then feb y else if m = 3 then 31 else if m = 4 then 30 else if m = 5 then 31 else if m = 6 then 30 else
  if m = 7 then 31 else if m = 8 then 31 else if m = 9 then 30 else if m = 10 then 31 else if m = 11 then 30 else if m = 12 then 31 else 0

theorem m20_eq (y m : Int) : m20 y m = some (last y m) := by
  unfold m20 last
  rw [m39_eq]
  by_cases h1 : m = 1; · subst h1; rfl
  by_cases h3 : m = 3; · subst h3; rfl
  by_cases h5 : m = 5; · subst h5; rfl
  by_cases h7 : m = 7; · subst h7; rfl
  by_cases h8 : m = 8; · subst h8; rfl
  by_cases h10 : m = 10; · subst h10; rfl
  by_cases h12 : m = 12; · subst h12; rfl
  by_cases h4 : m = 4; · subst h4; rfl
  by_cases h6 : m = 6; · subst h6; rfl
  by_cases h9 : m = 9; · subst h9; rfl
  by_cases h11 : m = 11; · subst h11; rfl
  have e : ∀ k : Int, m ≠ k → (m == k) = false := fun k h => beq_eq_false_iff_ne.2 h
  simp only [cont, e 1 h1, e 3 h3, e 5 h5, e 7 h7, e 8 h8, e 10 h10, e 12 h12, e 4 h4, e 6 h6, e 9 h9, e 11 h11, cond_false, Option.bind_some, if_neg h1, if_neg h3, if_neg h5, if_neg h7, if_neg h8, if_neg h10, if_neg h12, if_neg h4, if_neg h6, if_neg h9, if_neg h11]
  by_cases h2 : m = 2
  · subst h2
    unfold feb
    cases leap y <;> rfl
  · rw [e 2 h2, if_neg h2]; rfl

theorem m55_eq (y m : Int) : m55 y m = some (last y m) := by
  by_cases h : 1 ≤ m ∧ m ≤ 12
  · have hm : m = 1 ∨ m = 2 ∨ m = 3 ∨ m = 4 ∨ m = 5 ∨ m = 6 ∨ m = 7 ∨ m = 8 ∨ m = 9 ∨ m = 10 ∨ m = 11 ∨ m = 12 := by omega
    unfold m55
    rw [m61_eq]
    rcases hm with h | h | h | h | h | h | h | h | h | h | h | h <;> subst h
    all_goals try rfl
    unfold last feb
    cases leap y <;> rfl
  · unfold m55 last
    have : (decide (m < 1) || decide (m > 12)) = true := by
      simp; omega
    rw [this]
    simp only [cond_true]
    rw [if_neg (by omega), if_neg (by omega), if_neg (by omega), if_neg (by omega), if_neg (by omega), if_neg (by omega), if_neg (by omega), if_neg (by omega), if_neg (by omega), if_neg (by omega), if_neg (by omega), if_neg (by omega)]

theorem last_bounds (y m : Int) : 0 ≤ last y m ∧ last y m ≤ 31 ∧ (1 ≤ m ∧ m ≤ 12 → 28 ≤ last y m) ∧ (¬ (1 ≤ m ∧ m ≤ 12) → last y m = 0) := by
  unfold last feb
  repeat' split
  all_goals omega

/-- Days before a year. -/
def bef (y : Int) : Int := 365 * (y - 1900) + (y - 1) / 4 - (y - 1) / 100 + (y - 1) / 400 - 460

theorem m38_eq (y : Int) (h1 : 1 ≤ y) (h2 : y ≤ 1000000000) : m38 y = some (bef y) := by
  unfold m38 bef
  rw [show IntKind.i64.wrap (y - 1) = y - 1 from wrapI (by omega) (by omega)]
  rw [tdiv_pos _ (by omega), tdiv_pos _ (by omega), tdiv_pos _ (by omega)]
  simp (disch := omega) only [wrapI]
  congr 1
  omega

def year (y : Int) : Int := if leap y = true then 366 else 365

theorem m57_eq (y : Int) : m57 y = some (year y) := by
  unfold m57 year
  rw [m61_eq]
  cases leap y <;> rfl

theorem year_b (y : Int) : 365 ≤ year y ∧ year y ≤ 366 := by unfold year; split <;> omega

theorem bef_succ (y : Int) : bef (y + 1) = bef y + year y := by
  unfold bef year
  by_cases h : leap y = true
  · rw [if_pos h]; rw [leap_iff] at h; omega
  · rw [if_neg h]; rw [leap_iff] at h; omega

theorem bef_1900 : bef 1900 = 0 := by decide +kernel

theorem bef_mono {a b : Int} (h : a ≤ b) : bef a + 365 * (b - a) ≤ bef b ∧ bef b ≤ bef a + 366 * (b - a) := by
  obtain ⟨n, rfl⟩ : ∃ n : Nat, b = a + n := ⟨(b - a).toNat, by omega⟩
  clear h
  induction n with
  | zero => simp
  | succ n ih =>
    have h1 := bef_succ (a + n)
    have h2 := year_b (a + n)
    have e : a + ((n + 1 : Nat) : Int) = a + n + 1 := by omega
    rw [e, h1]
    omega

theorem bef_lt {a b : Int} (h : a < b) : bef a < bef b := by
  have := bef_mono (a := a) (b := b) (by omega)
  omega

theorem bef_uniq {a b d : Int} (h1 : bef a ≤ d) (h2 : d < bef (a + 1)) (h3 : bef b ≤ d) (h4 : d < bef (b + 1)) : a = b := by
  rcases Int.lt_trichotomy a b with h | h | h
  · have := bef_mono (a := a + 1) (b := b) (by omega); omega
  · exact h
  · have := bef_mono (a := b + 1) (b := a) (by omega); omega

/-- The days of the months before. -/
def cum (y : Int) : Nat → Int
  | 0 => 0
  | n + 1 => cum y n + last y (n + 1)

theorem cum_12 (y : Int) : cum y 12 = year y := by
  simp only [cum, last, feb, year]
  simp
  split <;> omega

theorem cum_nonneg (y : Int) (n : Nat) : 0 ≤ cum y n := by
  induction n with
  | zero => exact Int.le_refl 0
  | succ n ih => have := (last_bounds y (n + 1)).1; simp only [cum]; omega

theorem cum_mono (y : Int) {n k : Nat} (h : n ≤ k) : cum y n ≤ cum y k := by
  obtain ⟨d, rfl⟩ : ∃ d, k = n + d := ⟨k - n, by omega⟩
  induction d with
  | zero => exact Int.le_refl _
  | succ d ih =>
    have := ih (by omega)
    have h2 := (last_bounds y ((n + d : Nat) + 1)).1
    show cum y n ≤ cum y (n + d) + last y ((n + d : Nat) + 1)
    omega

theorem cum_le (y : Int) {n : Nat} (h : n ≤ 12) : cum y n ≤ 366 := by
  have := cum_mono y h
  have := cum_12 y
  have := year_b y
  omega

theorem bef_b {y : Int} (h1 : 1900 ≤ y) (h2 : y ≤ 3000) : 0 ≤ bef y ∧ bef y ≤ 402600 := by
  have := bef_mono (a := 1900) (b := y) h1
  rw [bef_1900] at this
  omega

/-- The day of a date. -/
def ofS (y m d : Int) : Int × Int × Unit :=
  if d < 1 ∨ d > last y m then (0, 23, ()) else if y < 1900 ∨ y > 3000 then (0, 3, ()) else
  if 0 ≤ bef y + cum y (m - 1).toNat + d - 1 ∧ bef y + cum y (m - 1).toNat + d - 1 ≤ 200000 then (bef y + cum y (m - 1).toNat + d - 1, 0, ()) else (0, 3, ())

theorem l40_eq {R : Type} (y : Int) (M : Nat) (hM : M ≤ 11) (k : Int → Option R) : ∀ (n j : Nat) (acc : Int), j ≤ M → M - j < n → 0 ≤ acc → acc ≤ 1000000 + cum y j →
    l40_1 y (M + 1) k n acc (j + 1) = k (acc + (cum y M - cum y j))
  | 0, j, acc, _, h, _, _ => by omega
  | n + 1, j, acc, hj, hn, h0, h1 => by
    have hc := cum_le y (n := j) (by omega)
    unfold l40_1 s40_1
    by_cases h : j = M
    · subst h
      rw [bifF (decide_eq_false (by omega))]
      congr 1
      omega
    · rw [bifT (decide_eq_true (by omega)), m20_eq]
      have hl := last_bounds y (j + 1)
      simp (disch := omega) only [Option.bind_some, wrapI]
      have e : (j : Int) + 1 + 1 = ((j + 1 : Nat) : Int) + 1 := by omega
      rw [e, l40_eq y M hM k n (j + 1) (acc + last y (j + 1)) (by omega) (by omega) (by omega) (by simp only [cum]; omega)]
      congr 1
      simp only [cum]
      omega

theorem m37_eq (d : Int) : m37 d = some (decide (0 ≤ d ∧ d ≤ 200000)) := by
  unfold m37
  by_cases h1 : 0 ≤ d <;> by_cases h2 : d ≤ 200000 <;> simp [h1, h2]

theorem m40_eq (y m d : Int) : m40 y m d = some (ofS y m d) := by
  unfold m40 ofS
  rw [m20_eq, bind_guard]
  by_cases h1 : d < 1
  · rw [if_pos (.inl h1)]
    rw [decide_eq_true h1]
    rfl
  · rw [decide_eq_false h1]
    simp only [beq_self_eq_true, cond_true, Bool.false_or]
    by_cases h2 : d > last y m
    · rw [if_pos (.inr h2), decide_eq_true h2]
      rfl
    · rw [if_neg (by omega), decide_eq_false h2]
      simp only [cond_false]
      by_cases h3 : y < 1900 ∨ y > 3000
      · rw [if_pos h3, bifT (by simpa using h3)]
      · rw [if_neg h3, bifF (by simp; omega), m38_eq y (by omega) (by omega)]
        have hb := bef_b (y := y) (by omega) (by omega)
        have hm : 1 ≤ m ∧ m ≤ 12 := by
          have := (last_bounds y m).2.2.2
          by_cases h : 1 ≤ m ∧ m ≤ 12
          · exact h
          · have := this h; omega
        have hl := last_bounds y m
        simp (disch := omega) only [Option.bind_some, wrapI]
        obtain ⟨M, rfl⟩ : ∃ M : Nat, m = (M : Int) + 1 := ⟨(m - 1).toNat, by omega⟩
        have e0 : ((M : Int) + 1 - 1).toNat = M := by omega
        have hc := cum_le y (n := M) (by omega)
        have hc0 := cum_nonneg y M
        have := l40_eq y M (by omega) (fun y4 => (m37 y4).bind fun r5 => bif !r5 then some ((0, 3, ()) : Int × Int × Unit) else some (y4, 0, ())) FUEL 0 (bef y + d - 1) (by omega) (fuel_lt (by omega)) (by omega) (by simp only [cum]; omega)
        simp only [Int.natCast_zero, Int.zero_add] at this
        rw [this, show bef y + d - 1 + (cum y M - cum y 0) = bef y + cum y M + d - 1 by simp only [cum]; omega, e0, m37_eq]
        simp only [Option.bind_some]
        split
        · rename_i h; rw [decide_eq_true h]; rfl
        · rename_i h; rw [decide_eq_false h]; rfl

/-- The date of a day, by what it is. -/
structure IsDate (day y : Int) (M : Nat) (d : Int) : Prop where
  m : M ≤ 11
  d1 : 1 ≤ d
  d2 : d ≤ last y (M + 1)
  day : day = bef y + cum y M + d - 1

theorem IsDate.year {day y d : Int} {M : Nat} (h : IsDate day y M d) : bef y ≤ day ∧ day < bef (y + 1) := by
  have h1 := cum_nonneg y M
  have h2 := cum_mono y (n := M + 1) (k := 12) (by have := h.m; omega)
  rw [cum_12] at h2
  rw [bef_succ]
  simp only [cum] at h2
  have h3 := h.day
  have h4 := h.d1
  have h5 := h.d2
  omega

theorem IsDate.uniq {day y d y' d' : Int} {M M' : Nat} (h : IsDate day y M d) (k : IsDate day y' M' d') : y = y' ∧ M = M' ∧ d = d' := by
  obtain ⟨h1, h2⟩ := h.year
  obtain ⟨k1, k2⟩ := k.year
  have hy := bef_uniq h1 h2 k1 k2
  subst hy
  have hM : M = M' := by
    have a1 := h.day
    have a2 := h.d1
    have a3 := h.d2
    have b1 := k.day
    have b2 := k.d1
    have b3 := k.d2
    rcases Nat.lt_trichotomy M M' with c | c | c
    · have := cum_mono y (n := M + 1) (k := M') (by omega)
      simp only [cum] at this
      omega
    · exact c
    · have := cum_mono y (n := M' + 1) (k := M) (by omega)
      simp only [cum] at this
      omega
  subst hM
  have a1 := h.day
  have b1 := k.day
  exact ⟨rfl, rfl, by omega⟩

theorem IsDate.of {day y d : Int} {M : Nat} (h : IsDate day y M d) (h0 : 0 ≤ day) (h1 : day ≤ 200000) : ofS y (M + 1) d = (day, 0, ()) := by
  unfold ofS
  have e0 : ((M : Int) + 1 - 1).toNat = M := by omega
  have a1 := h.d1
  have a2 := h.d2
  have a3 := h.day
  obtain ⟨b1, b2⟩ := h.year
  have y1 : 1900 ≤ y := by
    rcases Int.lt_or_le y 1900 with c | c
    · have := bef_mono (a := y + 1) (b := 1900) (by omega)
      rw [bef_1900] at this
      omega
    · exact c
  have y2 : y ≤ 3000 := by
    rcases Int.lt_or_le 3000 y with c | c
    · have := bef_mono (a := 1900) (b := y) (by omega)
      rw [bef_1900] at this
      omega
    · exact c
  rw [if_neg (by omega), if_neg (by omega), e0, if_pos (by omega)]
  rw [show bef y + cum y M + d - 1 = day by omega]

theorem l19_1_eq {R : Type} (day : Int) (hd : day ≤ 200000) (k : Int → Option R) : ∀ (n : Nat) (y : Int), 1900 ≤ y → bef y ≤ day → day < bef y + n → ∃ Y, 1900 ≤ Y ∧ bef Y ≤ day ∧ day < bef (Y + 1) ∧ l19_1 day k n y = k Y
  | 0, y, _, _, h => by omega
  | n + 1, y, h0, h1, h2 => by
    have hy : y ≤ 3000 := by
      rcases Int.lt_or_le 3000 y with c | c
      · have := bef_mono (a := 1900) (b := y) (by omega)
        rw [bef_1900] at this
        omega
      · exact c
    unfold l19_1 s19_1
    simp (disch := omega) only [wrapI, m38_eq, Option.bind_some]
    by_cases h : bef (y + 1) ≤ day
    · rw [bifT (decide_eq_true h)]
      have := bef_succ y
      have := year_b y
      exact l19_1_eq day hd k n (y + 1) (by omega) h (by omega)
    · rw [bifF (decide_eq_false h)]
      exact ⟨y, h0, h1, by omega, rfl⟩

theorem l19_2_eq {R : Type} (y : Int) (k : Int → Int → Option R) : ∀ (n j : Nat) (r : Int), j ≤ 11 → 12 - j ≤ n → 0 ≤ r → r < cum y 12 - cum y j → ∃ (M : Nat) (d : Int), M ≤ 11 ∧ 0 ≤ d ∧ d < last y (M + 1) ∧ r + cum y j = cum y M + d ∧ l19_2 y k n (j + 1) r = k (M + 1) d
  | 0, j, r, hj, hn, _, _ => by omega
  | n + 1, j, r, hj, hn, h0, h1 => by
    have hc12 := cum_le y (n := 12) (by omega)
    have hcj := cum_nonneg y j
    unfold l19_2 s19_2
    rw [m20_eq]
    simp only [Option.bind_some]
    have hl := last_bounds y (j + 1)
    by_cases h : r ≥ last y (j + 1)
    · rw [bifT (decide_eq_true h)]
      simp (disch := omega) only [wrapI]
      have e : (j : Int) + 1 + 1 = ((j + 1 : Nat) : Int) + 1 := by omega
      rw [e]
      have hlt : j + 1 ≤ 11 := by
        rcases Nat.lt_or_ge 11 (j + 1) with c | c
        · have : j = 11 := by omega
          subst this
          have : cum y 12 = cum y 11 + last y ((11 : Nat) + 1) := rfl
          omega
        · exact c
      obtain ⟨M, d, a1, a2, a3, a4, a5⟩ := l19_2_eq y k n (j + 1) (r - last y (j + 1)) hlt (by omega) (by omega) (by simp only [cum]; simp only [cum] at h1; omega)
      refine ⟨M, d, a1, a2, a3, ?_, a5⟩
      simp only [cum] at a4
      omega
    · rw [bifF (decide_eq_false h)]
      exact ⟨j, r, hj, h0, by omega, by omega, rfl⟩

theorem m19_bad {day : Int} (h : ¬ (0 ≤ day ∧ day ≤ 200000)) : m19 day = some (0, 0, 0, 3, ()) := by
  unfold m19
  rw [m37_eq, decide_eq_false h]
  rfl

theorem m19_eq {day : Int} (h0 : 0 ≤ day) (h1 : day ≤ 200000) : ∃ (y : Int) (M : Nat) (d : Int), m19 day = some (y, (M : Int) + 1, d, 0, ()) ∧ IsDate day y M d ∧ 1900 ≤ y ∧ y ≤ 3000 := by
  unfold m19
  rw [m37_eq, decide_eq_true ⟨h0, h1⟩]
  simp only [Option.bind_some, Bool.not_true, cond_false]
  rw [tdiv_pos _ h0]
  simp (disch := omega) only [wrapI]
  have hb := bef_mono (a := 1900) (b := 1900 + day / 366) (by omega)
  rw [bef_1900] at hb
  obtain ⟨Y, a0, a1, a2, a3⟩ := l19_1_eq day h1 (fun y3 => (m38 y3).bind fun r4 => l19_2 y3 (fun y7 y8 => some (y3, y7, IntKind.i64.wrap (y8 + 1), (0 : Int), ())) FUEL 1 (IntKind.i64.wrap (day - r4))) FUEL (1900 + day / 366) (by omega) (by omega) (by
    have := FUEL_eq; omega)
  rw [a3]
  have y2 : Y ≤ 3000 := by
    rcases Int.lt_or_le 3000 Y with c | c
    · have := bef_mono (a := 1900) (b := Y) (by omega)
      rw [bef_1900] at this
      omega
    · exact c
  have hb2 := bef_b a0 y2
  rw [m38_eq Y (by omega) (by omega)]
  simp only [Option.bind_some]
  rw [wrapI (x := day - bef Y) (by omega) (by omega)]
  have hs := bef_succ Y
  obtain ⟨M, d, b1, b2, b3, b4, b5⟩ := l19_2_eq Y (fun y7 y8 => some (Y, y7, IntKind.i64.wrap (y8 + 1), (0 : Int), ())) FUEL 0 (day - bef Y) (by omega) (fuel_le (by omega)) (by omega) (by
    rw [cum_12]
    simp only [cum]
    omega)
  simp only [Int.natCast_zero, Int.zero_add] at b5
  rw [b5]
  have hl := last_bounds Y (M + 1)
  rw [wrapI (x := d + 1) (by omega) (by omega)]
  simp only [cum] at b4
  exact ⟨Y, M, d + 1, rfl, ⟨b1, by omega, by omega, by omega⟩, a0, y2⟩

theorem IsDate.ys {day y d : Int} {M : Nat} (h : IsDate day y M d) (h0 : 0 ≤ day) (h1 : day ≤ 200000) : 1900 ≤ y ∧ y ≤ 2600 := by
  obtain ⟨b1, b2⟩ := h.year
  constructor
  · rcases Int.lt_or_le y 1900 with c | c
    · have := bef_mono (a := y + 1) (b := 1900) (by omega)
      rw [bef_1900] at this
      omega
    · exact c
  · rcases Int.lt_or_le 2600 y with c | c
    · have := bef_mono (a := 1900) (b := y) (by omega)
      rw [bef_1900] at this
      omega
    · exact c

theorem m19_of {day y d : Int} {M : Nat} (h : IsDate day y M d) (h0 : 0 ≤ day) (h1 : day ≤ 200000) : m19 day = some (y, (M : Int) + 1, d, 0, ()) := by
  obtain ⟨y', M', d', e, h', _⟩ := m19_eq h0 h1
  obtain ⟨rfl, rfl, rfl⟩ := h.uniq h'
  exact e

/-- The day so many months later. -/
def addS (y M d n : Int) : Int × Int × Unit := ofS ((12 * y + M + n) / 12) ((12 * y + M + n) % 12 + 1) (min d (last ((12 * y + M + n) / 12) ((12 * y + M + n) % 12 + 1)))

theorem m21_bad {day n : Int} (h : ¬ (0 ≤ day ∧ day ≤ 200000) ∨ n < -10000 ∨ n > 10000) : m21 day n = some (0, 3, ()) := by
  unfold m21
  by_cases hd : 0 ≤ day ∧ day ≤ 200000
  · obtain ⟨y, M, d, e, _⟩ := m19_eq hd.1 hd.2
    rw [e]
    simp only [Option.bind_some]
    rw [bifT (by simp; omega)]
  · rw [m19_bad hd]
    rfl

theorem m21_eq {day y d n : Int} {M : Nat} (h : IsDate day y M d) (h0 : 0 ≤ day) (h1 : day ≤ 200000) (n0 : -10000 ≤ n) (n1 : n ≤ 10000) : m21 day n = some (addS y M d n) := by
  unfold m21
  obtain ⟨y1, y2⟩ := h.ys h0 h1
  have hm := h.m
  rw [m19_of h h0 h1]
  simp only [Option.bind_some]
  rw [bifF (by simp; omega)]
  simp (disch := omega) only [wrapI]
  have e : 12 * y + ((M : Int) + 1) - 1 + n = 12 * y + M + n := by omega
  rw [e, tdiv_pos _ (by omega), tmod_pos _ (by omega)]
  simp (disch := omega) only [wrapI]
  rw [m20_eq]
  simp only [Option.bind_some]
  rw [min_eq, m40_eq]
  rfl

/-- Where the months lead. -/
theorem addS_eq {day y d n : Int} {M : Nat} (h : IsDate day y M d) (h0 : 0 ≤ day) (h1 : day ≤ 200000) (n0 : -10000 ≤ n) (n1 : n ≤ 10000) :
    ∃ (a y' : Int) (M' : Nat), IsDate a y' M' (min d (last y' (M' + 1))) ∧ 12 * y' + M' = 12 * y + M + n ∧ addS y M d n = (if 0 ≤ a ∧ a ≤ 200000 then (a, 0, ()) else (0, 3, ())) := by
  obtain ⟨y1, y2⟩ := h.ys h0 h1
  have hm := h.m
  obtain ⟨M', hM'⟩ : ∃ M' : Nat, (12 * y + M + n) % 12 = M' := ⟨((12 * y + M + n) % 12).toNat, by omega⟩
  have hl := last_bounds ((12 * y + M + n) / 12) ((M' : Int) + 1)
  have hd := h.d1
  have hdl := (last_bounds y (M + 1)).2.1
  have hd2 := h.d2
  refine ⟨bef ((12 * y + M + n) / 12) + cum ((12 * y + M + n) / 12) M' + min d (last ((12 * y + M + n) / 12) (M' + 1)) - 1, (12 * y + M + n) / 12, M', ⟨by omega, by omega, by omega, rfl⟩, by omega, ?_⟩
  unfold addS
  rw [hM']
  unfold ofS
  have e0 : ((M' : Int) + 1 - 1).toNat = M' := by omega
  rw [if_neg (by omega), e0]
  by_cases hy : (12 * y + M + n) / 12 < 1900 ∨ (12 * y + M + n) / 12 > 3000
  · rw [if_pos hy]
    rw [if_neg]
    have hc := cum_nonneg ((12 * y + M + n) / 12) M'
    have hc2 := cum_le ((12 * y + M + n) / 12) (n := M') (by omega)
    have hc3 := cum_mono ((12 * y + M + n) / 12) (n := M' + 1) (k := 12) (by omega)
    rw [cum_12] at hc3
    simp only [cum] at hc3
    have hs := bef_succ ((12 * y + M + n) / 12)
    rcases hy with c | c
    · have := bef_mono (a := (12 * y + M + n) / 12 + 1) (b := 1900) (by omega)
      rw [bef_1900] at this
      omega
    · have := bef_mono (a := 1900) (b := (12 * y + M + n) / 12) (by omega)
      rw [bef_1900] at this
      omega
  · rw [if_neg hy]

/-- The order of dates is that of days. -/
theorem IsDate.lt {a b y d y' d' : Int} {M M' : Nat} (h : IsDate a y M d) (k : IsDate b y' M' d') (hlt : 12 * y + M < 12 * y' + M' ∨ (12 * y + M = 12 * y' + M' ∧ d < d')) : a < b := by
  obtain ⟨h1, h2, h3, h4⟩ := h
  obtain ⟨k1, k2, k3, k4⟩ := k
  rcases Int.lt_trichotomy y y' with c | c | c
  · obtain ⟨e1, e2⟩ := IsDate.year ⟨h1, h2, h3, h4⟩
    obtain ⟨f1, f2⟩ := IsDate.year ⟨k1, k2, k3, k4⟩
    have := bef_mono (a := y + 1) (b := y') (by omega)
    omega
  · subst c
    rcases Nat.lt_trichotomy M M' with c | c | c
    · have := cum_mono y (n := M + 1) (k := M') (by omega)
      simp only [cum] at this
      omega
    · subst c; omega
    · omega
  · omega

theorem IsDate.le {a b y d y' d' : Int} {M M' : Nat} (h : IsDate a y M d) (k : IsDate b y' M' d') (hle : a ≤ b) : 12 * y + M < 12 * y' + M' ∨ (12 * y + M = 12 * y' + M' ∧ d ≤ d') := by
  rcases Int.lt_trichotomy (12 * y + M) (12 * y' + M') with c | c | c
  · exact .inl c
  · rcases Int.lt_or_le d' d with c2 | c2
    · have := k.lt h (.inr ⟨c.symm, c2⟩); omega
    · exact .inr ⟨c, c2⟩
  · have := k.lt h (.inl c); omega

theorem IsDate.mono {a b y d y' d' : Int} {M M' : Nat} (h : IsDate a y M d) (k : IsDate b y' M' d') (hle : 12 * y + M < 12 * y' + M' ∨ (12 * y + M = 12 * y' + M' ∧ d ≤ d')) : a ≤ b := by
  rcases Int.lt_or_le b a with c | c
  · rcases k.le h (by omega) with e | e
    · omega
    · have := h.day
      have := k.day
      have hM : M = M' ∧ y = y' := by have := h.m; have := k.m; omega
      obtain ⟨rfl, rfl⟩ := hM
      omega
  · exact c

theorem l54_eq {R : Type} (y : Int) (M : Nat) (hM : M ≤ 11) (k : Int → Option R) : ∀ (n j : Nat) (acc : Int), j ≤ M → M - j < n → 0 ≤ acc → acc ≤ 1000000 + cum y j →
    l54_1 y (M + 1) k n acc (j + 1) = k (acc + (cum y M - cum y j))
  | 0, j, acc, _, h, _, _ => by omega
  | n + 1, j, acc, hj, hn, h0, h1 => by
    have hc := cum_le y (n := j) (by omega)
    unfold l54_1 s54_1
    by_cases h : j = M
    · subst h
      rw [bifF (decide_eq_false (by omega))]
      congr 1
      omega
    · rw [bifT (decide_eq_true (by omega)), m55_eq]
      have hl := last_bounds y (j + 1)
      simp (disch := omega) only [Option.bind_some, wrapI]
      have e : (j : Int) + 1 + 1 = ((j + 1 : Nat) : Int) + 1 := by omega
      rw [e, l54_eq y M hM k n (j + 1) (acc + last y (j + 1)) (by omega) (by omega) (by omega) (by simp only [cum]; omega)]
      congr 1
      simp only [cum]
      omega

theorem l54_2_eq {R : Type} (y t0 : Int) (h0 : 0 ≤ t0) (h1 : t0 ≤ 1000) (k : Int → Option R) : ∀ (n : Nat) (j : Int), 1900 ≤ j → j ≤ y → bef j ≤ 200400 → 1 ≤ n → 200001 < t0 + bef j + n →
    ∃ j', 1900 ≤ j' ∧ l54_2 y k n (t0 + bef j) j = k (t0 + bef j') ∧ (j' = y ∨ (j' < y ∧ t0 + bef j' > 200000))
  | 0, j, _, _, _, h, _ => by omega
  | n + 1, j, hj, hy, hb, hn, hf => by
    unfold l54_2 s54_2
    by_cases c : j < y ∧ t0 + bef j ≤ 200000
    · rw [bifT (by simpa using c), m57_eq]
      have hs := bef_succ j
      have hyb := year_b j
      have hj3 : j ≤ 3000 := by
        rcases Int.lt_or_le 3000 j with c | c
        · have := bef_mono (a := 1900) (b := j) (by omega)
          rw [bef_1900] at this
          omega
        · exact c
      have hb0 := bef_b hj hj3
      simp (disch := omega) only [Option.bind_some, wrapI]
      have e : t0 + bef j + year j = t0 + bef (j + 1) := by omega
      rw [e]
      exact l54_2_eq y t0 h0 h1 k n (j + 1) (by omega) (by omega) (by omega) (by omega) (by omega)
    · rw [bifF (by simp <;> omega)]
      exact ⟨j, hj, rfl, by omega⟩

theorem m54_eq (y m d : Int) (hd : -9223372036854775808 ≤ d) : m54 y m d = some (ofS y m d) := by
  unfold m54
  rw [m55_eq, bind_guard]
  by_cases hm : 1 ≤ m ∧ m ≤ 12
  · rw [decide_eq_false (show ¬ m < 1 by omega), decide_eq_false (show ¬ m > 12 by omega)]
    by_cases h1 : d < 1
    · rw [decide_eq_true h1]
      unfold ofS
      rw [if_pos (.inl h1)]
      rfl
    · rw [decide_eq_false h1]
      simp only [beq_self_eq_true, cond_true, Bool.false_or]
      by_cases h2 : d > last y m
      · rw [decide_eq_true h2]
        unfold ofS
        rw [if_pos (.inr h2)]
        rfl
      · rw [decide_eq_false h2]
        simp only [cond_false]
        have hl := last_bounds y m
        obtain ⟨M, rfl⟩ : ∃ M : Nat, m = (M : Int) + 1 := ⟨(m - 1).toNat, by omega⟩
        have e0 : ((M : Int) + 1 - 1).toNat = M := by omega
        have hc := cum_le y (n := M) (by omega)
        have hc0 := cum_nonneg y M
        rw [wrapI (x := d - 1) (by omega) (by omega)]
        have := l54_eq y M (by omega) (fun y3 => l54_2 y (fun y5 => bif (decide (y < 1900) || decide (y5 > 200000)) then some ((0, 3, ()) : Int × Int × Unit) else some (y5, 0, ())) FUEL y3 1900) FUEL 0 (d - 1) (by omega) (fuel_lt (by omega)) (by omega) (by simp only [cum]; omega)
        simp only [Int.natCast_zero, Int.zero_add] at this
        rw [this]
        unfold ofS
        rw [if_neg (by omega), e0]
        have e1 : d - 1 + (cum y M - cum y 0) = (d - 1 + cum y M) + bef 1900 := by rw [bef_1900]; simp only [cum]; omega
        rw [e1]
        by_cases hy : y < 1900
        · rw [if_pos (.inl hy)]
          obtain ⟨q, hq⟩ := fuel_s 1 (by omega)
          rw [hq]
          unfold l54_2 s54_2
          rw [bifF (by simp <;> omega)]
          rw [decide_eq_true hy]
          rfl
        · have hF := FUEL_eq
          obtain ⟨j', a1, a2, a3⟩ := l54_2_eq y (d - 1 + cum y M) (by omega) (by omega) (fun y5 => bif (decide (y < 1900) || decide (y5 > 200000)) then some ((0, 3, ()) : Int × Int × Unit) else some (y5, 0, ())) FUEL 1900 (by omega) (by omega) (by rw [bef_1900]; omega) (by omega) (by rw [bef_1900]; omega)
          rw [a2]
          rw [decide_eq_false hy]
          simp only [Bool.false_or]
          by_cases c : d - 1 + cum y M + bef j' > 200000
          · rw [bifT (decide_eq_true c)]
            have hmm := bef_mono (a := j') (b := y) (by omega)
            by_cases hy3 : y < 1900 ∨ y > 3000
            · rw [if_pos hy3]
            · rw [if_neg hy3, if_neg (by omega)]
          · rw [bifF (decide_eq_false c)]
            have : j' = y := by omega
            subst this
            have hb3 := bef_mono (a := 1900) (b := j') (by omega)
            rw [bef_1900] at hb3
            rw [if_neg (by omega), if_pos (by omega)]
            congr 2
            omega
  · unfold ofS
    have hl := (last_bounds y m).2.2.2 hm
    rw [if_pos (by omega)]
    rw [bifT]
    simp
    omega

theorem l51_1_eq {R : Type} (day : Int) (h0 : 0 ≤ day) (hd : day ≤ 200000) (k : Int → Int → Option R) : ∀ (n : Nat) (y : Int), 1900 ≤ y → bef y ≤ day → day < bef y + n → ∃ Y, 1900 ≤ Y ∧ bef Y ≤ day ∧ day < bef (Y + 1) ∧ l51_1 k n (day - bef y) y = k (day - bef Y) Y
  | 0, y, _, _, h => by omega
  | n + 1, y, h1, h2, h3 => by
    have hy : y ≤ 3000 := by
      rcases Int.lt_or_le 3000 y with c | c
      · have := bef_mono (a := 1900) (b := y) (by omega)
        rw [bef_1900] at this
        omega
      · exact c
    have hb := bef_b h1 hy
    have hs := bef_succ y
    have hyb := year_b y
    unfold l51_1 s51_1
    simp (disch := omega) only [wrapI, m57_eq, Option.bind_some]
    by_cases h : day - bef y ≥ year y
    · rw [bifT (decide_eq_true h), show day - bef y - year y = day - bef (y + 1) by omega]
      exact l51_1_eq day h0 hd k n (y + 1) (by omega) (by omega) (by omega)
    · rw [bifF (decide_eq_false h)]
      exact ⟨y, h1, h2, by omega, rfl⟩

theorem l51_2_eq {R : Type} (y : Int) (k : Int → Int → Option R) : ∀ (n j : Nat) (r : Int), j ≤ 11 → 12 - j ≤ n → 0 ≤ r → r < cum y 12 - cum y j → ∃ (M : Nat) (d : Int), M ≤ 11 ∧ 0 ≤ d ∧ d < last y (M + 1) ∧ r + cum y j = cum y M + d ∧ l51_2 y k n r (j + 1) = k d (M + 1)
  | 0, j, r, hj, hn, _, _ => by omega
  | n + 1, j, r, hj, hn, h0, h1 => by
    have hc12 := cum_le y (n := 12) (by omega)
    have hcj := cum_nonneg y j
    unfold l51_2 s51_2
    rw [m55_eq]
    simp only [Option.bind_some]
    have hl := last_bounds y (j + 1)
    by_cases h : r ≥ last y (j + 1)
    · rw [bifT (decide_eq_true h)]
      simp (disch := omega) only [wrapI]
      have e : (j : Int) + 1 + 1 = ((j + 1 : Nat) : Int) + 1 := by omega
      rw [e]
      have hlt : j + 1 ≤ 11 := by
        rcases Nat.lt_or_ge 11 (j + 1) with c | c
        · have : j = 11 := by omega
          subst this
          have : cum y 12 = cum y 11 + last y ((11 : Nat) + 1) := rfl
          omega
        · exact c
      obtain ⟨M, d, a1, a2, a3, a4, a5⟩ := l51_2_eq y k n (j + 1) (r - last y (j + 1)) hlt (by omega) (by omega) (by simp only [cum]; simp only [cum] at h1; omega)
      refine ⟨M, d, a1, a2, a3, ?_, a5⟩
      simp only [cum] at a4
      omega
    · rw [bifF (decide_eq_false h)]
      exact ⟨j, r, hj, h0, by omega, by omega, rfl⟩

theorem m51_eq (day : Int) : m51 day = m19 day := by
  by_cases h : 0 ≤ day ∧ day ≤ 200000
  · unfold m51
    rw [bifF (by simp <;> omega)]
    have hF := FUEL_eq
    obtain ⟨Y, a0, a1, a2, a3⟩ := l51_1_eq day h.1 h.2 (fun y3 y4 => l51_2 y4 (fun y7 y8 => some ((y4, y8, IntKind.i64.wrap (y7 + 1), 0, ()) : Int × Int × Int × Int × Unit)) FUEL y3 1) FUEL 1900 (by omega) (by rw [bef_1900]; exact h.1) (by rw [bef_1900]; omega)
    rw [bef_1900, Int.sub_zero] at a3
    rw [a3]
    have hs := bef_succ Y
    obtain ⟨M, d, b1, b2, b3, b4, b5⟩ := l51_2_eq Y (fun y7 y8 => some ((Y, y8, IntKind.i64.wrap (y7 + 1), 0, ()) : Int × Int × Int × Int × Unit)) FUEL 0 (day - bef Y) (by omega) (fuel_le (by omega)) (by omega) (by
      rw [cum_12]
      simp only [cum]
      omega)
    simp only [Int.natCast_zero, Int.zero_add] at b5
    rw [b5]
    have hl := last_bounds Y (M + 1)
    rw [wrapI (x := d + 1) (by omega) (by omega)]
    simp only [cum] at b4
    rw [m19_of (y := Y) (M := M) (d := d + 1) ⟨b1, by omega, by omega, by omega⟩ h.1 h.2]
  · rw [m19_bad h]
    unfold m51
    rw [bifT (by simp <;> omega)]

theorem l48_1_eq {R : Type} (k : Int → Int → Int → Option R) : ∀ (n : Nat) (t y m : Int), t < n → 1 ≤ n → 1 ≤ m → m ≤ 12 → 0 ≤ y → y ≤ 100000 + (10000 - t) → t ≤ 10000 → -10000 ≤ t →
    ∃ t' y' m', l48_1 k n t y m = k t' y' m' ∧ 1 ≤ m' ∧ m' ≤ 12 ∧ 12 * y' + m' + t' = 12 * y + m + t ∧ (0 ≤ t → t' = 0) ∧ (t ≤ 0 → t' = t)
  | 0, t, y, m, h, h0, h1, h2, h3, h4, h5, h6 => by omega
  | n + 1, t, y, m, h, h0, h1, h2, h3, h4, h5, h6 => by
    unfold l48_1 s48_1
    by_cases c : t > 0
    · rw [bifT (decide_eq_true c)]
      simp only [cont]
      rw [wrapI (x := m + 1) (by omega) (by omega)]
      by_cases c2 : m = 12
      · subst c2
        simp (disch := omega) only [wrapI, show ((12 : Int) + 1 == 13) = true from rfl, cond_true]
        obtain ⟨t', y', m', e, a1, a2, a3, a4, a5⟩ := l48_1_eq k n (t - 1) (y + 1) 1 (by omega) (by omega) (by omega) (by omega) (by omega) (by omega) (by omega) (by omega)
        exact ⟨t', y', m', e, a1, a2, by omega, fun _ => a4 (by omega), fun _ => by omega⟩
      · rw [beq_eq_false_iff_ne.2 (show m + 1 ≠ 13 by omega)]
        simp (disch := omega) only [wrapI, cond_false]
        obtain ⟨t', y', m', e, a1, a2, a3, a4, a5⟩ := l48_1_eq k n (t - 1) y (m + 1) (by omega) (by omega) (by omega) (by omega) (by omega) (by omega) (by omega) (by omega)
        exact ⟨t', y', m', e, a1, a2, by omega, fun _ => a4 (by omega), fun _ => by omega⟩
    · rw [bifF (decide_eq_false c)]
      exact ⟨t, y, m, rfl, h1, h2, rfl, fun _ => by omega, fun _ => rfl⟩

theorem l48_2_eq {R : Type} (k : Int → Int → Option R) : ∀ (n : Nat) (t y m : Int), -t < n → 1 ≤ n → 1 ≤ m → m ≤ 12 → y ≤ 100000 → -100000 - (10000 + t) ≤ y → t ≤ 0 → -10000 ≤ t →
    ∃ y' m', l48_2 k n t y m = k y' m' ∧ 1 ≤ m' ∧ m' ≤ 12 ∧ 12 * y' + m' = 12 * y + m + t
  | 0, t, y, m, h, h0, h1, h2, h3, h4, h5, h6 => by omega
  | n + 1, t, y, m, h, h0, h1, h2, h3, h4, h5, h6 => by
    unfold l48_2 s48_2
    by_cases c : t < 0
    · rw [bifT (decide_eq_true c)]
      simp only [cont]
      rw [wrapI (x := m - 1) (by omega) (by omega)]
      by_cases c2 : m = 1
      · subst c2
        simp (disch := omega) only [wrapI, show ((1 : Int) - 1 == 0) = true from rfl, cond_true]
        obtain ⟨y', m', e, a1, a2, a3⟩ := l48_2_eq k n (t + 1) (y - 1) 12 (by omega) (by omega) (by omega) (by omega) (by omega) (by omega) (by omega) (by omega)
        exact ⟨y', m', e, a1, a2, by omega⟩
      · rw [beq_eq_false_iff_ne.2 (show m - 1 ≠ 0 by omega)]
        simp (disch := omega) only [wrapI, cond_false]
        obtain ⟨y', m', e, a1, a2, a3⟩ := l48_2_eq k n (t + 1) y (m - 1) (by omega) (by omega) (by omega) (by omega) (by omega) (by omega) (by omega) (by omega)
        exact ⟨y', m', e, a1, a2, by omega⟩
    · rw [bifF (decide_eq_false c)]
      exact ⟨y, m, rfl, h1, h2, by omega⟩

theorem m48_eq (day n : Int) : m48 day n = m21 day n := by
  by_cases h : 0 ≤ day ∧ day ≤ 200000
  · by_cases hn : n < -10000 ∨ n > 10000
    · rw [m21_bad (.inr hn)]
      unfold m48
      obtain ⟨y, M, d, e, _⟩ := m19_eq h.1 h.2
      rw [m51_eq, e]
      simp only [Option.bind_some]
      rw [bifT (by simp <;> omega)]
    · obtain ⟨y, M, d, _, hi, _⟩ := m19_eq h.1 h.2
      obtain ⟨y1, y2⟩ := hi.ys h.1 h.2
      have hM := hi.m
      have hd := hi.d1
      have hF := FUEL_eq
      rw [m21_eq hi h.1 h.2 (by omega) (by omega)]
      unfold m48
      rw [m51_eq, m19_of hi h.1 h.2]
      simp only [Option.bind_some]
      rw [bifF (by simp <;> omega)]
      obtain ⟨t', y', m', e, a1, a2, a3, a4, a5⟩ := l48_1_eq (fun y3 y4 y5 => l48_2 (fun y7 y8 => (m55 y7 y8).bind fun r9 => (m54 y7 y8 (bif decide (r9 < d) then r9 else d)).bind fun r10 => some ((r10.1, r10.2.1, ()) : Int × Int × Unit)) FUEL y3 y4 y5) FUEL n y (M + 1) (by omega) (by omega) (by omega) (by omega) (by omega) (by omega) (by omega) (by omega)
      rw [e]
      have ht : t' ≤ 0 ∧ -10000 ≤ t' := by
        rcases Int.lt_or_le 0 n with c | c
        · have := a4 (by omega); omega
        · have := a5 c; omega
      obtain ⟨y2', m2', e2, b1, b2, b3⟩ := l48_2_eq (fun y7 y8 => (m55 y7 y8).bind fun r9 => (m54 y7 y8 (bif decide (r9 < d) then r9 else d)).bind fun r10 => some ((r10.1, r10.2.1, ()) : Int × Int × Unit)) FUEL t' y' m' (by omega) (by omega) (by omega) (by omega) (by omega) (by omega) (by omega) (by omega)
      rw [e2]
      have hl := last_bounds y2' m2'
      rw [m55_eq]
      simp only [Option.bind_some]
      rw [min_eq, m54_eq _ _ _ (by omega)]
      simp only [Option.bind_some]
      unfold addS
      have q1 : (12 * y + (M : Int) + n) / 12 = y2' := by omega
      have q2 : (12 * y + (M : Int) + n) % 12 + 1 = m2' := by omega
      rw [q1, q2]
  · rw [m21_bad (.inl h)]
    unfold m48
    rw [m51_eq, m19_bad h]
    rfl

end Go.Proofs.Ytophafggfmhooaa
