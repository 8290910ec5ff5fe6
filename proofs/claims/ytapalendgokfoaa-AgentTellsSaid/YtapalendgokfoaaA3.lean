/- Part of a proof. -/
import Derived.Test.YtapalendgokfoaaA2
namespace Go.Proofs.Ytapalendgokfoaa
open Go Go.Eng
set_option linter.unusedVariables false

theorem tells (p q : T22) (n : Int) : m3 p q n = some true := by
  obtain ⟨t, o, g, u⟩ := p
  unfold m3
  rw [m16_17, m18_19, small_eq, m8_eq, m9_eq, m10_eq, m11_eq, m12_eq, m13_eq, m14_eq, m15_eq, m20_eq, m21_eq]
  have h17 : ∃ x, m17 (t, o, g, u) q n = some x := by
    obtain ⟨t2, o2, g2, u2⟩ := q
    unfold m17
    rw [m11_eq, m9_eq]
    simp only [Option.bind_some]
    cases ((trF t o g n (-n)).2.1 != 0) with
    | true => exact ⟨_, rfl⟩
    | false =>
      cases ((trF t2 o2 g2 n n).2.1 != 0) with
      | true => exact ⟨_, rfl⟩
      | false => exact ⟨_, rfl⟩
  have h19 : ∃ x, m19 (t, o, g, u) = some x := by
    unfold m19
    rw [m21_eq]
    simp only [Option.bind_some]
    cases (!decide (Rt t o)) with
    | true => exact ⟨_, rfl⟩
    | false => cases g <;> exact ⟨_, rfl⟩
  obtain ⟨x, hx⟩ := h17
  obtain ⟨y, hy⟩ := h19
  rw [hx, hy]
  simp

end Go.Proofs.Ytapalendgokfoaa
