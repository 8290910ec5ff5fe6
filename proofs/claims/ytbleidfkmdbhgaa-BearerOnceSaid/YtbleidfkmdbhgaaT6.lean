/- Bearer: a lost piece. -/
import Derived.Test.YtbleidfkmdbhgaaT5
namespace Go.Proofs.Ytbleidfkmdbhgaa
open Go Go.Eng
set_option linter.unusedVariables false
set_option linter.unusedSimpArgs false

theorem doC_at {l : List T35} {k p c w d : Int} {x : T35} (hR : rightC l = true) (hA : argB k w d = true) (hp : 0 ≤ p) (hx : l[p.toNat]? = some x) :
    doC l k p c w d = bif errX x k c w d == 0 then (l.set p.toNat (effX x k c w d), bif k == 0 then x.2.1 else 0, 0, ()) else ([], 0, errX x k c w d, ()) := by
  unfold doC
  rw [hR, hA, idx_pos hp, hx]
  rfl

theorem errX_pay {is un lo se : Int} {pd : List Bool} {c w d : Int} (h0 : 0 ≤ c) (h1 : pd[c.toNat]? = some false) :
    errX (is, un, pd, lo, se, ()) 0 c w d = bif (lo != -1) && (se != w) then 18 else bif (lo != -1) && decide (d < lo + 365) then 20 else 0 := by
  have hlt := (List.getElem?_eq_some_iff.1 h1).1
  have e : (decide (c < 0) || decide (c ≥ (pd.length : Int))) = false := by simp; omega
  have hg : pd.getD c.toNat false = false := by rw [List.getD_eq_getElem?_getD, h1]; rfl
  unfold errX
  simp only [e, hg, cond_false, beq_self_eq_true, cond_true]

theorem bearerLost (l : List T35) (a1 a2 a3 a4 a5 a6 : Int) (h1 : 0 ≤ a1 ∧ a1 ≤ 255) (h2 : 0 ≤ a2 ∧ a2 ≤ 255) (h3 : 0 ≤ a3 ∧ a3 ≤ 65535) (h4 : 0 ≤ a4 ∧ a4 ≤ 65535) (h5 : 0 ≤ a5 ∧ a5 ≤ 65535) (h6 : 0 ≤ a6 ∧ a6 ≤ 65535) : m5 l a1 a2 a3 a4 a5 a6 = some true := by
  unfold m5
  rw [small_true, Option.bind_some, m8_eq, Option.bind_some, m14_eq, bind_guard]
  cases hF : fewC l with
  | false => rfl
  | true =>
  cases hR : rightC l with
  | false => rfl
  | true =>
  have hl := right_len hR
  simp only [Bool.not_true, beq_self_eq_true, cond_true, Bool.false_or]
  cases hn : ((List.length l : Int) == 0) with
  | true => rfl
  | false =>
  have hn0 : (List.length l : Int) ≠ 0 := by simpa using hn
  simp only [cond_false, bne, hn, Bool.not_false, asrtT]
  simp only [← bne.eq_def]
  rw [wrapI (x := a1) (by omega) (by omega), wrapI (x := a2) (by omega) (by omega), wrapI (x := a3) (by omega) (by omega), wrapI (x := a4) (by omega) (by omega), wrapI (x := a5) (by omega) (by omega), wrapI (x := a6) (by omega) (by omega), wrapI (x := a5 + a6) (by omega) (by omega)]
  rw [tmod_pos _ h1.1, tmod_pos _ h3.1, tmod_pos _ h4.1]
  have hp0 : 0 ≤ a1 % (List.length l : Int) := Int.emod_nonneg _ hn0
  have hp1 : a1 % (List.length l : Int) < (List.length l : Int) := Int.emod_lt_of_pos _ (by omega)
  have hA : 0 ≤ a3 % 20000 ∧ a3 % 20000 < 20000 := by omega
  have hB : 0 ≤ a4 % 20000 ∧ a4 % 20000 < 20000 := by omega
  generalize a1 % (List.length l : Int) = p at hp0 hp1
  generalize a3 % 20000 = A at hA
  generalize a4 % 20000 = B at hB
  have hx := List.getElem?_eq_getElem (l := l) (i := p.toNat) (by omega)
  generalize l[p.toNat] = x at hx
  have hok := right_at hR hx
  have hlt := (List.getElem?_eq_some_iff.1 hx).1
  obtain ⟨is, un, pd, lo, se, _⟩ := x
  have hok' := hok
  simp only [okP, decide_eq_true_eq] at hok'
  have hix : idx l p = some (is, un, pd, lo, se, ()) := by rw [idx_pos hp0]; exact hx
  have hig : ∀ (gc : Bool), idxG gc ((0, 0, ([] : List Bool), 0, 0, ()) : T35) l p = some (bif gc then (is, un, pd, lo, se, ()) else (0, 0, [], 0, 0, ())) := by
    intro gc
    cases gc
    · rfl
    · exact hix
  simp only [hix, hig, Option.bind_some]
  cases hlo : (lo != -1) with
  | true => rfl
  | false =>
  have hlo' : lo = -1 := by simpa using hlo
  have hse : se = -1 := hok'.2.2.2.2.2.2.2.2.2 hlo'
  simp only [beq_self_eq_true, cond_true, Bool.false_or]
  cases hpl : ((List.length pd : Int) == 0) with
  | true => rfl
  | false =>
  have hpl0 : (List.length pd : Int) ≠ 0 := by simpa using hpl
  simp only [cond_false, bne, hpl, Bool.not_false, asrtT]
  simp only [← bne.eq_def]
  rw [tmod_pos _ h2.1]
  have hc0 : 0 ≤ a2 % (List.length pd : Int) := Int.emod_nonneg _ hpl0
  have hc1 : a2 % (List.length pd : Int) < (List.length pd : Int) := Int.emod_lt_of_pos _ (by omega)
  generalize a2 % (List.length pd : Int) = c at hc0 hc1
  have hy := List.getElem?_eq_getElem (l := pd) (i := c.toNat) (by omega)
  generalize pd[c.toNat] = y at hy
  have hiy : idx pd c = some y := by rw [idx_pos hc0]; exact hy
  simp only [hiy, Option.bind_some]
  cases y with
  | true => rfl
  | false =>
  subst hlo'
  subst hse
  simp only [cond_false]
  -- reported
  have hok1 : okP (is, un, pd, a5, -1, ()) = true := by simp only [okP, decide_eq_true_eq]; omega
  have hR1 : rightC (l.set p.toNat (is, un, pd, a5, -1, ())) = true := set_right hR hok1
  have hx1 : (l.set p.toNat ((is, un, pd, a5, -1, ()) : T35))[p.toNat]? = some (is, un, pd, a5, -1, ()) := List.getElem?_set_self hlt
  have hok2 : okP (is, un, pd, a5, A, ()) = true := by simp only [okP, decide_eq_true_eq]; omega
  have hR2 : rightC (l.set p.toNat (is, un, pd, a5, A, ())) = true := set_right hR hok2
  have hx2 : (l.set p.toNat ((is, un, pd, a5, A, ()) : T35))[p.toNat]? = some (is, un, pd, a5, A, ()) := List.getElem?_set_self hlt
  have hx3 : (l.set p.toNat ((is, un, pd, -1, -1, ()) : T35))[p.toNat]? = some (is, un, pd, -1, -1, ()) := List.getElem?_set_self hlt
  have hR3 : rightC (l.set p.toNat (is, un, pd, -1, -1, ())) = true := set_right hR hok
  have a5n : (a5 != -1) = true := by simp; omega
  have a5e : (a5 == -1) = false := by simp; omega
  have e9 : m16 l p a5 = some (l.set p.toNat (is, un, pd, a5, -1, ()), 0, ()) := by
    rw [m16_c, doC_at hR (by simp [argB, dayB]; omega) hp0 hx]
    simp [errX, effX]
  have e10 : m17 (l.set p.toNat (is, un, pd, a5, -1, ())) p c A (a5 + a6) = some ([], 0, 18, ()) := by
    rw [m17_eq, doC_at hR1 (by simp [argB, dayB, seatB]; omega) hp0 hx1, errX_pay hc0 hy, a5n]
    have : ((-1 : Int) != A) = true := by simp; omega
    rw [this]
    rfl
  have e11 : m18 (l.set p.toNat (is, un, pd, a5, -1, ())) p A = some (l.set p.toNat (is, un, pd, a5, A, ()), 0, ()) := by
    rw [m18_c, doC_at hR1 (by simp [argB, seatB]; omega) hp0 hx1]
    simp [errX, effX, a5e, List.set_set]
  have e12 : m17 (l.set p.toNat (is, un, pd, a5, A, ())) p c A (a5 + a6) = some (bif decide (a6 < 365) then ([], 0, 20, ()) else (l.set p.toNat (is, un, pd.set c.toNat true, a5, A, ()), un, 0, ())) := by
    rw [m17_eq, doC_at hR2 (by simp [argB, dayB, seatB]; omega) hp0 hx2, errX_pay hc0 hy, a5n, bne_same]
    have : decide (a5 + a6 < a5 + 365) = decide (a6 < 365) := by rw [Bool.eq_iff_iff]; simp
    rw [this]
    cases decide (a6 < 365) <;> simp [effX, List.set_set]
  have e13 : m17 (l.set p.toNat (is, un, pd, a5, A, ())) p c B (a5 + a6) = some (bif A != B then ([], 0, 18, ()) else bif decide (a6 < 365) then ([], 0, 20, ()) else (l.set p.toNat (is, un, pd.set c.toNat true, a5, A, ()), un, 0, ())) := by
    rw [m17_eq, doC_at hR2 (by simp [argB, dayB, seatB]; omega) hp0 hx2, errX_pay hc0 hy, a5n]
    have : decide (a5 + a6 < a5 + 365) = decide (a6 < 365) := by rw [Bool.eq_iff_iff]; simp
    rw [this]
    cases (A != B) <;> cases decide (a6 < 365) <;> simp [effX, List.set_set]
  have e14 : m19 (l.set p.toNat (is, un, pd, a5, A, ())) p = some (l.set p.toNat (is, un, pd, -1, -1, ()), 0, ()) := by
    rw [m19_c, doC_at hR2 rfl hp0 hx2]
    simp [errX, effX, a5e, List.set_set]
  have e15 : m17 (l.set p.toNat (is, un, pd, -1, -1, ())) p c B a5 = some (l.set p.toNat (is, un, pd.set c.toNat true, -1, -1, ()), un, 0, ()) := by
    rw [m17_eq, doC_at hR3 (by simp [argB, dayB, seatB]; omega) hp0 hx3, errX_pay hc0 hy]
    simp [effX, List.set_set]
  simp only [e9, e10, e11, e12, e13, e14, e15, Option.bind_some, bne_same, Bool.or_self, beq_self_eq_true, cond_true, cond_false, Bool.true_and]
  cases h365 : decide (a6 < 365) with
  | true =>
    simp only [cond_true, beq_self_eq_true, Bool.true_and]
    cases hAB : (A != B) with
    | true => rfl
    | false =>
      have : (A == B) = true := by simpa using hAB
      rw [this]; rfl
  | false =>
    simp only [cond_false, beq_self_eq_true, cond_true, Bool.true_and]
    cases hAB : (A != B) <;> rfl


theorem wf_u16 {n : Int} (h : Wf (.int .u16) n) : 0 ≤ n ∧ n ≤ 65535 := by
  have h : (Lit.int .u16 n).wf = true := h
  simp [Lit.wf, IntKind.min, IntKind.max, IntKind.bits, IntKind.signed] at h
  omega

end Go.Proofs.Ytbleidfkmdbhgaa
