/- Part of a proof. -/
import Derived.Test.YtapalendgokfoaaA2
namespace Go.Proofs.Ytapalendgokfoaa
open Go Go.Eng
set_option linter.unusedVariables false

theorem m18_eq (t o : Int) (g : Bool) : m18 (t, o, g, ()) = some (if ¬ Rt t o then ((t, o, g, ()), 0, 1, ()) else if g = true then ((t, o, g, ()), 0, 7, ()) else ((0, o, true, ()), t, 0, ())) := by
  unfold m18
  rw [m20_eq]
  by_cases h : Rt t o <;> cases g <;> simp [h]

theorem m16_gone (o : Int) (q : T22) (n : Int) (h : Rt 0 o) (hn : Am n) : m16 (0, o, true, ()) q n = some ((0, o, true, ()), q, 7, ()) := by
  unfold m16
  rw [m10_eq]
  have : trF 0 o true n (-n) = ((0, o, true, ()), 7, ()) := by
    unfold trF
    rw [if_neg (fun k => k ⟨h, hn⟩ : ¬¬(Rt 0 o ∧ Am n))]
    rfl
  rw [this]
  rfl

theorem m16_to (o : Int) (q : T22) (n : Int) (h : Rt 0 o) (hn : Am n) : ∃ e, m16 q (0, o, true, ()) n = some (q, (0, o, true, ()), e, ()) ∧ (e != 0) = true := by
  obtain ⟨t2, o2, g2, u⟩ := q
  unfold m16
  rw [m10_eq, m8_eq]
  have : trF 0 o true n n = ((0, o, true, ()), 7, ()) := by
    unfold trF
    rw [if_neg (fun k => k ⟨h, hn⟩ : ¬¬(Rt 0 o ∧ Am n))]
    rfl
  rw [this]
  simp only [Option.bind_some]
  cases hc : ((trF t2 o2 g2 n (-n)).2.1 != 0) with
  | true => exact ⟨_, rfl, hc⟩
  | false => exact ⟨7, rfl, rfl⟩

theorem gone (p q : T22) (n : Int) : m6 p q n = some true := by
  obtain ⟨t, o, g, u⟩ := p
  obtain ⟨t2, o2, g2, u2⟩ := q
  unfold m6
  rw [small_eq, m20_eq, m20_eq, m18_eq]
  simp only [Option.bind_some]
  by_cases h : Rt t o
  · by_cases h2 : Rt t2 o2
    · by_cases hn : Am n
      · have hn' := hn
        obtain ⟨n1, n2⟩ := hn'
        have e1 : ¬ n < 1 := by omega
        have e2 : ¬ 1000000000000000 < n := by omega
        cases g with
        | true => simp [h, h2, e1, e2]
        | false =>
          have h0 : Rt 0 o := ⟨by omega, by omega, h.2.2⟩
          obtain ⟨e, k1, k2⟩ := m16_to o (t2, o2, g2, u2) n h0 hn
          have tr : ∀ b, trF 0 o true n b = ((0, o, true, ()), 7, ()) := fun b => by
            unfold trF
            rw [if_neg (fun k => k ⟨h0, hn⟩ : ¬¬(Rt 0 o ∧ Am n))]
            rfl
          have ow : ∀ b, owF 0 o true n b = ((0, o, true, ()), 7, ()) := fun b => by
            unfold owF
            rw [if_neg (fun k => k ⟨h0, hn⟩ : ¬¬(Rt 0 o ∧ Am n))]
            rfl
          simp only [h, h2, e1, e2, not_true_eq_false, if_false, decide_true, decide_false, Bool.not_true, Bool.or_false, cond_false, Bool.false_eq_true, gt_iff_lt, Bool.or_self, bne_self_eq_false, beq_self_eq_true, cond_true, Option.bind_some]
          rw [m8_eq, m10_eq, m12_eq, m14_eq, m16_gone o _ n h0 hn, m18_eq, k1, tr, tr, ow, ow]
          simp [h0, k2]
      · have : n < 1 ∨ 1000000000000000 < n := by unfold Am at hn; omega
        rcases this with e | e <;> simp [h, h2, e]
    · simp [h, h2]
  · simp [h]

end Go.Proofs.Ytapalendgokfoaa
