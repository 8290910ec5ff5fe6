/- Dates: months added; the next day. -/
import Derived.Test.YtecidmdihmcclaaD3
namespace Go.Proofs.Ytecidmdihmcclaa
open Go Go.Eng
set_option linter.unusedVariables false
set_option linter.unusedSimpArgs false

theorem IsDate.ys {day y d : Int} {M : Nat} (h : IsDate day y M d) (h0 : 0 ≤ day) (h1 : day ≤ 200000) : 1900 ≤ y ∧ y ≤ 2600 := by
  obtain ⟨b1, b2⟩ := h.year
  constructor
  · rcases Int.lt_or_le y 1900 with c | c
    · have := bef_mono (a := y + 1) (b := 1900) (by omega)
      rw [bef_1900] at this
      omega
    · exact c
  · rcases Int.lt_or_le 2600 y with c | c
    · have := bef_mono (a := 1900) (b := y) (by omega)
      rw [bef_1900] at this
      omega
    · exact c

theorem m10_of {day y d : Int} {M : Nat} (h : IsDate day y M d) (h0 : 0 ≤ day) (h1 : day ≤ 200000) : m10 day = some (y, (M : Int) + 1, d, 0, ()) := by
  obtain ⟨y', M', d', e, h', _⟩ := m10_eq h0 h1
  obtain ⟨rfl, rfl, rfl⟩ := h.uniq h'
  exact e

theorem min_eq (a b : Int) : (bif decide (b < a) then b else a) = min a b := by
  by_cases h : b < a
  · rw [decide_eq_true h]; simp only [cond_true]; omega
  · rw [decide_eq_false h]; simp only [cond_false]; omega

/-- The day so many months later. -/
def addS (y M d n : Int) : Int × Int × Unit := ofS ((12 * y + M + n) / 12) ((12 * y + M + n) % 12 + 1) (min d (last ((12 * y + M + n) / 12) ((12 * y + M + n) % 12 + 1)))

theorem m22_bad {day n : Int} (h : ¬ (0 ≤ day ∧ day ≤ 200000) ∨ n < -10000 ∨ n > 10000) : m22 day n = some (0, 3, ()) := by
  unfold m22
  by_cases hd : 0 ≤ day ∧ day ≤ 200000
  · obtain ⟨y, M, d, e, _⟩ := m10_eq hd.1 hd.2
    rw [e]
    simp only [Option.bind_some]
    rw [bifT (by simp; omega)]
  · rw [m10_bad hd]
    rfl

theorem m22_eq {day y d n : Int} {M : Nat} (h : IsDate day y M d) (h0 : 0 ≤ day) (h1 : day ≤ 200000) (n0 : -10000 ≤ n) (n1 : n ≤ 10000) : m22 day n = some (addS y M d n) := by
  unfold m22
  obtain ⟨y1, y2⟩ := h.ys h0 h1
  have hm := h.m
  rw [m10_of h h0 h1]
  simp only [Option.bind_some]
  rw [bifF (by simp; omega)]
  simp (disch := omega) only [wrapI]
  have e : 12 * y + ((M : Int) + 1) - 1 + n = 12 * y + M + n := by omega
  rw [e, tdiv_pos _ (by omega), tmod_pos _ (by omega)]
  simp (disch := omega) only [wrapI]
  rw [m16_eq]
  simp only [Option.bind_some]
  rw [min_eq, m8_eq]
  rfl

/-- Where the months lead. -/
theorem addS_eq {day y d n : Int} {M : Nat} (h : IsDate day y M d) (h0 : 0 ≤ day) (h1 : day ≤ 200000) (n0 : -10000 ≤ n) (n1 : n ≤ 10000) :
    ∃ (a y' : Int) (M' : Nat), IsDate a y' M' (min d (last y' (M' + 1))) ∧ 12 * y' + M' = 12 * y + M + n ∧ addS y M d n = (if 0 ≤ a ∧ a ≤ 200000 then (a, 0, ()) else (0, 3, ())) := by
  obtain ⟨y1, y2⟩ := h.ys h0 h1
  have hm := h.m
  obtain ⟨M', hM'⟩ : ∃ M' : Nat, (12 * y + M + n) % 12 = M' := ⟨((12 * y + M + n) % 12).toNat, by omega⟩
  have hl := last_bounds ((12 * y + M + n) / 12) ((M' : Int) + 1)
  have hd := h.d1
  have hdl := (last_bounds y (M + 1)).2.1
  have hd2 := h.d2
  refine ⟨bef ((12 * y + M + n) / 12) + cum ((12 * y + M + n) / 12) M' + min d (last ((12 * y + M + n) / 12) (M' + 1)) - 1, (12 * y + M + n) / 12, M', ⟨by omega, by omega, by omega, rfl⟩, by omega, ?_⟩
  unfold addS
  rw [hM']
  unfold ofS
  have e0 : ((M' : Int) + 1 - 1).toNat = M' := by omega
  rw [if_neg (by omega), e0]
  by_cases hy : (12 * y + M + n) / 12 < 1900 ∨ (12 * y + M + n) / 12 > 3000
  · rw [if_pos hy]
    rw [if_neg]
    have hc := cum_nonneg ((12 * y + M + n) / 12) M'
    have hc2 := cum_le ((12 * y + M + n) / 12) (n := M') (by omega)
    have hc3 := cum_mono ((12 * y + M + n) / 12) (n := M' + 1) (k := 12) (by omega)
    rw [cum_12] at hc3
    simp only [cum] at hc3
    have hs := bef_succ ((12 * y + M + n) / 12)
    rcases hy with c | c
    · have := bef_mono (a := (12 * y + M + n) / 12 + 1) (b := 1900) (by omega)
      rw [bef_1900] at this
      omega
    · have := bef_mono (a := 1900) (b := (12 * y + M + n) / 12) (by omega)
      rw [bef_1900] at this
      omega
  · rw [if_neg hy]

theorem m18_eq (d : Int) : m18 d = some (if 0 ≤ d ∧ d ≤ 200000 then d % 7 else -1) := by
  unfold m18
  rw [m26_eq]
  by_cases h : 0 ≤ d ∧ d ≤ 200000
  · rw [decide_eq_true h, if_pos h, tmod_pos _ h.1]; rfl
  · rw [decide_eq_false h, if_neg h]; rfl

end Go.Proofs.Ytecidmdihmcclaa
