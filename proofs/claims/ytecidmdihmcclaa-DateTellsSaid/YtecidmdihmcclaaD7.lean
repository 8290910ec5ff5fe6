/- Dates: months. -/
import Derived.Test.YtecidmdihmcclaaD6
namespace Go.Proofs.Ytecidmdihmcclaa
open Go Go.Eng
set_option linter.unusedVariables false
set_option linter.unusedSimpArgs false

/-- The order of dates is that of days. -/
theorem IsDate.lt {a b y d y' d' : Int} {M M' : Nat} (h : IsDate a y M d) (k : IsDate b y' M' d') (hlt : 12 * y + M < 12 * y' + M' ∨ (12 * y + M = 12 * y' + M' ∧ d < d')) : a < b := by
  obtain ⟨h1, h2, h3, h4⟩ := h
  obtain ⟨k1, k2, k3, k4⟩ := k
  rcases Int.lt_trichotomy y y' with c | c | c
  · obtain ⟨e1, e2⟩ := IsDate.year ⟨h1, h2, h3, h4⟩
    obtain ⟨f1, f2⟩ := IsDate.year ⟨k1, k2, k3, k4⟩
    have := bef_mono (a := y + 1) (b := y') (by omega)
    omega
  · subst c
    rcases Nat.lt_trichotomy M M' with c | c | c
    · have := cum_mono y (n := M + 1) (k := M') (by omega)
      simp only [cum] at this
      omega
    · subst c; omega
    · omega
  · omega

theorem IsDate.le {a b y d y' d' : Int} {M M' : Nat} (h : IsDate a y M d) (k : IsDate b y' M' d') (hle : a ≤ b) : 12 * y + M < 12 * y' + M' ∨ (12 * y + M = 12 * y' + M' ∧ d ≤ d') := by
  rcases Int.lt_trichotomy (12 * y + M) (12 * y' + M') with c | c | c
  · exact .inl c
  · rcases Int.lt_or_le d' d with c2 | c2
    · have := k.lt h (.inr ⟨c.symm, c2⟩); omega
    · exact .inr ⟨c, c2⟩
  · have := k.lt h (.inl c); omega

theorem IsDate.mono {a b y d y' d' : Int} {M M' : Nat} (h : IsDate a y M d) (k : IsDate b y' M' d') (hle : 12 * y + M < 12 * y' + M' ∨ (12 * y + M = 12 * y' + M' ∧ d ≤ d')) : a ≤ b := by
  rcases Int.lt_or_le b a with c | c
  · rcases k.le h (by omega) with e | e
    · omega
    · have := h.day
      have := k.day
      have hM : M = M' ∧ y = y' := by have := h.m; have := k.m; omega
      obtain ⟨rfl, rfl⟩ := hM
      omega
  · exact c

theorem months (day n more later : Int) (hd : -9223372036854775808 ≤ day ∧ day ≤ 9223372036854775807) (hn : -32768 ≤ n ∧ n ≤ 32767) (hm : -32768 ≤ more ∧ more ≤ 32767) (hl : 0 ≤ later ∧ later ≤ 255) : m5 day n more later = some true := by
  unfold m5
  rw [small]
  simp (disch := omega) only [Option.bind_some, wrapI]
  have tb : ∀ x : Int, -32768 ≤ x ∧ x ≤ 32767 → -500 < Int.tmod x 500 ∧ Int.tmod x 500 < 500 := by
    intro x hx
    rcases Int.lt_or_le x 0 with c | c
    · have e : Int.tmod x 500 = -((-x) % 500) := by
        rw [show x = -(-x) by omega, Int.neg_tmod, tmod_pos _ (by omega)]
        simp
      rw [e]; omega
    · rw [tmod_pos _ c]; omega
  have b1 := tb n hn
  have b2 := tb more hm
  generalize Int.tmod n 500 = N at *
  generalize Int.tmod more 500 = K at *
  by_cases h : 0 ≤ day ∧ day ≤ 200000
  · obtain ⟨y, M, d, _, hi, _⟩ := m10_eq h.1 h.2
    obtain ⟨y1, y2⟩ := hi.ys h.1 h.2
    have hM := hi.m
    have hd1 := hi.d1
    have hd2 := hi.d2
    have hdl := last_bounds y (M + 1)
    obtain ⟨a, y', M', ha, e1, e2⟩ := addS_eq hi h.1 h.2 (n := N) (by omega) (by omega)
    rw [m22_eq hi h.1 h.2 (by omega) (by omega), e2]
    by_cases hr : 0 ≤ a ∧ a ≤ 200000
    · rw [if_pos hr]
      simp only [Option.bind_some, bne_eq, cond_false]
      obtain ⟨y1', y2'⟩ := ha.ys hr.1 hr.2
      have hM' := ha.m
      have hl' := last_bounds y' (M' + 1)
      rw [m10_of hi h.1 h.2, m10_of ha hr.1 hr.2]
      simp (disch := omega) only [Option.bind_some, bne_eq, Bool.false_or, beq_self_eq_true, wrapI, asrtT, m16_eq]
      rw [show (12 * y' + (↑M' + 1) != 12 * y + (↑M + 1) + N) = false by simp; omega]
      simp only [beq_self_eq_true, cond_true, Option.bind_some, Bool.false_or, min_eq]
      rw [bne_eq]
      simp only [cond_false]
      -- the later day
      have later' : ∃ x e, m22 (day + later) N = some (x, e, ()) ∧ ((e == 0) && decide (x < a)) = false := by
        by_cases hz : 0 ≤ day + later ∧ day + later ≤ 200000
        · obtain ⟨z, Mz, dz, _, hz1, _⟩ := m10_eq hz.1 hz.2
          obtain ⟨a2, y3, M3, ha2, f1, f2⟩ := addS_eq hz1 hz.1 hz.2 (n := N) (by omega) (by omega)
          rw [m22_eq hz1 hz.1 hz.2 (by omega) (by omega), f2]
          by_cases hr2 : 0 ≤ a2 ∧ a2 ≤ 200000
          · rw [if_pos hr2]
            refine ⟨_, _, rfl, ?_⟩
            have : a ≤ a2 := by
              refine ha.mono ha2 ?_
              rcases hi.le hz1 (by omega) with c | c
              · left; omega
              · right
                refine ⟨by omega, ?_⟩
                have hM3 := ha2.m
                have : M' = M3 ∧ y' = y3 := by omega
                obtain ⟨rfl, rfl⟩ := this
                omega
            rw [decide_eq_false (by omega)]
            rfl
          · rw [if_neg hr2]; exact ⟨_, _, rfl, rfl⟩
        · rw [m22_bad (.inl hz)]; exact ⟨_, _, rfl, rfl⟩
      obtain ⟨x, e, q1, q2⟩ := later'
      rw [q1]
      simp only [Option.bind_some, q2, cond_false]
      by_cases hb : d > 28
      · rw [decide_eq_true hb]; rfl
      · rw [decide_eq_false hb]
        simp only [cond_false]
        have hmin : min d (last y' (M' + 1)) = d := by omega
        rw [hmin] at ha
        obtain ⟨u, yu, Mu, hu, g1, g2⟩ := addS_eq ha hr.1 hr.2 (n := K) (by omega) (by omega)
        obtain ⟨v, yv, Mv, hv, g3, g4⟩ := addS_eq hi h.1 h.2 (n := N + K) (by omega) (by omega)
        obtain ⟨w, yw, Mw, hw, g5, g6⟩ := addS_eq ha hr.1 hr.2 (n := -N) (by omega) (by omega)
        have hMu := hu.m
        have hMv := hv.m
        have hMw := hw.m
        have q1 : Mu = Mv ∧ yu = yv := by omega
        obtain ⟨rfl, rfl⟩ := q1
        have q2 : Mw = M ∧ yw = y := by omega
        obtain ⟨rfl, rfl⟩ := q2
        have e3 : u = v := by rw [hu.day, hv.day]
        have e4 : w = day := by
          rw [hw.day, hi.day]
          omega
        subst e3
        subst e4
        rw [m22_eq ha hr.1 hr.2 (by omega) (by omega), m22_eq hi h.1 h.2 (by omega) (by omega), show (0 : Int) - N = -N by omega, m22_eq ha hr.1 hr.2 (by omega) (by omega), g2, g4, g6, if_pos h]
        simp
    · rw [if_neg hr]; rfl
  · rw [m22_bad (.inl h)]
    rfl

end Go.Proofs.Ytecidmdihmcclaa
