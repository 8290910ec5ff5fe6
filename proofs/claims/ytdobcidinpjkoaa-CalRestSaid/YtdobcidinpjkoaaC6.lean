/- CalTells: the plain law. -/
import Derived.Test.YtdobcidinpjkoaaC5
namespace Go.Proofs.Ytdobcidinpjkoaa
open Go Go.Eng
set_option linter.unusedVariables false
set_option linter.unusedSimpArgs false

/-- The small calendar. -/
def cal0 : T23 := ([5, 6], [30], ())

theorem cal0_right : RightC cal0 := by decide

theorem mon_of {day y d : Int} {M : Nat} (h : IsDate day y M d) (h0 : 0 ≤ day) (h1 : day ≤ 200000) : mon day = 12 * y + (M + 1) := by
  unfold mon ym
  rw [m22_of h h0 h1]

theorem mon_30 : mon 30 = 22801 := by
  rw [mon_of (y := 1900) (M := 0) (d := 31) ⟨by omega, by decide, by decide, by decide +kernel⟩ (by omega) (by omega)]
  rfl
theorem mon_31 : mon 31 = 22802 := by
  rw [mon_of (y := 1900) (M := 1) (d := 1) ⟨by omega, by decide, by decide, by decide +kernel⟩ (by omega) (by omega)]
  rfl

theorem up0_5 : up cal0 5 = (7, 0, ()) := up_of (by omega) (by omega) (by decide) (fun y h1 h2 => by
  rcases (show y = 5 ∨ y = 6 by omega) with rfl | rfl <;> decide)
theorem up0_30 : up cal0 30 = (31, 0, ()) := up_of (by omega) (by omega) (by decide) (fun y h1 h2 => by
  rcases (show y = 30 by omega) with rfl; decide)
theorem dn0_6 : dn cal0 6 = (4, 0, ()) := by decide
theorem dn0_30 : dn cal0 30 = (29, 0, ()) := by decide

theorem nxt_ok {c : T23} {d : Int} (hr : RightC c) (hd : Dy d) : nxt c d = up c d := if_pos ⟨hr, hd⟩
theorem bfr_ok {c : T23} {d : Int} (hr : RightC c) (hd : Dy d) : bfr c d = dn c d := if_pos ⟨hr, hd⟩
theorem adj_ok {c : T23} {d how : Int} (hr : RightC c) (hd : Dy d) (h0 : 0 ≤ how) (h1 : how < 4) : adj c d how = adjS c d how := if_pos ⟨hr, hd, h0, h1⟩
theorem bk_ok {c : T23} {d n : Int} (hr : RightC c) (hd : Dy d) (h0 : 0 ≤ n) (h1 : n ≤ 1000) : bk c d n = bkN c n.toNat d := if_pos ⟨hr, hd, h0, h1⟩

theorem m8_eq : m8 = some true := by
  have a1 : nxt cal0 5 = (7, 0, ()) := by rw [nxt_ok cal0_right (by decide), up0_5]
  have a2 : bfr cal0 6 = (4, 0, ()) := by rw [bfr_ok cal0_right (by decide), dn0_6]
  have a3 : nxt cal0 30 = (31, 0, ()) := by rw [nxt_ok cal0_right (by decide), up0_30]
  have a4 : adj cal0 30 2 = (29, 0, ()) := by
    rw [adj_ok cal0_right (by decide) (by omega) (by omega)]
    unfold adjS
    rw [up0_30, mon_31, mon_30, dn0_30]
    rfl
  have a5 : adj cal0 30 1 = (31, 0, ()) := by rw [adj_1, a3]
  have b1 : bk cal0 7 1 = (4, 0, ()) := by
    rw [bk_ok cal0_right (by decide) (by omega) (by omega)]
    decide
  have b2 : bk cal0 32 2 = (29, 0, ()) := by
    rw [bk_ok cal0_right (by decide) (by omega) (by omega)]
    decide
  have b3 : bk cal0 4 5 = (0, 3, ()) := by
    rw [bk_ok cal0_right (by decide) (by omega) (by omega)]
    decide
  have c1 : busS cal0 0 = true := by decide
  have c2 : busS cal0 5 = false := by decide
  have c3 : busS cal0 30 = false := by decide
  have c4 : decide (RightC cal0) = true := decide_eq_true cal0_right
  unfold m8
  rw [show m24 = some cal0 from rfl]
  simp only [Option.bind_some, m10_eq, m12_eq, m14_eq, m16_eq, m18_eq, m20_eq, a1, a2, a3, a4, a5, b1, b2, b3, c1, c2, c3, c4]
  rfl

theorem m9_eq (c : T23) : m9 c = some (decide ((List.length c.1 : Int) ≤ 20) && decide ((List.length c.2.1 : Int) ≤ 20)) := rfl

theorem calTells (c : T23) (d how n : Int) : m3 c d how n = some true := by
  unfold m3
  simp only [m8_eq, m9_eq, Option.bind_some, m10_eq, m11_eq, m12_eq, m13_eq, m14_eq, m15_eq, m16_eq, m17_eq, m18_eq, m19_eq, m20_eq, m21_eq]
  cases (decide ((List.length c.1 : Int) ≤ 20) && decide ((List.length c.2.1 : Int) ≤ 20)) with
  | false => rfl
  | true =>
    simp [bne_same]

end Go.Proofs.Ytdobcidinpjkoaa
