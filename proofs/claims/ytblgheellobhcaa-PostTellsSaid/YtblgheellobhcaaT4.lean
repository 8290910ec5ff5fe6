/- Post: the small examples. -/
import Derived.Test.YtblgheellobhcaaT3
namespace Go.Proofs.Ytblgheellobhcaa
open Go Go.Eng
set_option linter.unusedVariables false
set_option linter.unusedSimpArgs false

theorem m21_eq (i : Int) (h : 0 ≤ i) (h2 : i ≤ 100) : m21 i = some (i, 0, 0, 1, 10 + i, ()) := by
  unfold m21
  rw [wrapI (by omega) (by omega)]

def s4 : List T35 := [(0, 0, 0, 1, 10, ()), (1, 0, 0, 1, 11, ()), (2, 0, 0, 1, 12, ()), (3, 0, 0, 1, 13, ())]

theorem small_true : m7 = some true := by
  have e0 : (s4, (0 : Int), ([] : List Int), ()) = enc s4 [false, false, false, false] := rfl
  have h5 : m11 (s4, (0 : Int), ([] : List Int), ()) 1 = some (enc s4 [false, true, false, false], [], 0, ()) := by
    rw [e0]; exact m11_ok (S := s4) (H := [false, false, false, false]) (q := 1) rfl (by decide) (by decide) rfl
  have h6 : m11 (enc s4 [false, true, false, false]) 2 = some (enc s4 [false, true, true, false], [], 0, ()) :=
    m11_ok (S := s4) (H := [false, true, false, false]) (q := 2) rfl (by decide) (by decide) rfl
  have h7 : m11 (enc s4 [false, true, true, false]) 1 = some (([], 0, [], ()), [], 5, ()) :=
    m11_twice (S := s4) (H := [false, true, true, false]) (q := 1) rfl (by decide) rfl
  have h8 : m11 (enc s4 [false, true, true, false]) 0 = some (enc s4 [true, true, true, false], s4.take 3, 0, ()) :=
    m11_ok (S := s4) (H := [false, true, true, false]) (q := 0) rfl (by decide) (by decide) rfl
  have h9 : m11 (enc s4 [true, true, true, false]) 0 = some (([], 0, [], ()), [], 5, ()) :=
    m11_twice (S := s4) (H := [true, true, true, false]) (q := 0) rfl (by decide) rfl
  have h10 : m11 (enc s4 [true, true, true, false]) 9 = some (([], 0, [], ()), [], 4, ()) :=
    m11_out (S := s4) (H := [true, true, true, false]) rfl (by decide) (.inr (by decide))
  have h12 : m10 ([], (0 : Int), ([] : List Int), ()) (5, 0, 0, 1, 15, ()) = some (enc [(5, 0, 0, 1, 15, ())] [false], 0, ()) :=
    m10_eq (S := []) (H := []) rfl (by decide) _
  have h13 : m13 (enc s4 [false, true, true, false]) = some [0, 3] := m13_eq rfl (by decide)
  have h13b : m13 (enc s4 [true, true, true, false]) = some [3] := m13_eq rfl (by decide)
  have h12a : m12 (enc s4 [false, true, true, false]) = some s4 := m12_eq rfl (by decide)
  have h12b : m12 (enc s4 [true, true, true, false]) = some (s4.drop 3) := m12_eq rfl (by decide)
  have h9a : m9 (enc s4 [true, true, true, false]) = some true := m9_enc rfl (by decide)
  have h9b : m9 ([], (1 : Int), ([] : List Int), ()) = some false := m9_eq _ (by decide)
  have k1 : m16 (s4.take 3) (subl s4 0 3) = some true := m16_refl (s4.take 3) (by decide)
  have k2 : m16 (s4.drop 3) (subl s4 3 4) = some true := m16_refl (s4.drop 3) (by decide)
  have k3 := m18_refl [0, 3] (by decide)
  have k4 := m18_refl [3] (by decide)
  unfold m7
  rw [m21_eq 0 (by decide) (by decide), m21_eq 1 (by decide) (by decide), m21_eq 2 (by decide) (by decide), m21_eq 3 (by decide) (by decide)]
  simp only [Option.bind_some]
  show (m11 (s4, (0 : Int), ([] : List Int), ()) 1).bind _ = _
  rw [h5]; simp only [Option.bind_some]
  rw [h6]; simp only [Option.bind_some]
  rw [h7]; simp only [Option.bind_some]
  rw [h8]; simp only [Option.bind_some]
  rw [h9]; simp only [Option.bind_some]
  rw [h10]; simp only [Option.bind_some]
  rw [m21_eq 5 (by decide) (by decide)]; simp only [Option.bind_some]
  show (m10 ([], (0 : Int), ([] : List Int), ()) (5, 0, 0, 1, 15, ())).bind _ = _
  rw [h12]; simp only [Option.bind_some]
  show asrt true true _ = _
  rw [asrtT]
  show (m16 (s4.take 3) (subl s4 0 3)).bind _ = _
  rw [k1]; simp only [Option.bind_some, beq_self_eq_true, cond_true]
  rw [h13]; simp only [Option.bind_some, Bool.true_and]
  rw [k3]; simp only [Option.bind_some, Bool.true_and, beq_self_eq_true, cond_true]
  rw [h12a]; simp only [Option.bind_some, Bool.true_and, beq_self_eq_true, cond_true]
  show (m12 (enc s4 [true, true, true, false])).bind _ = _
  rw [h12b]; simp only [Option.bind_some, Bool.true_and, beq_self_eq_true, cond_true]
  show asrt true true ((m16 (s4.drop 3) (subl s4 3 4)).bind _) = _
  rw [asrtT, k2]; simp only [Option.bind_some, Bool.true_and, beq_self_eq_true, cond_true]
  show (m13 (enc s4 [true, true, true, false])).bind _ = _
  rw [h13b]; simp only [Option.bind_some, Bool.true_and, beq_self_eq_true, cond_true]
  show (m18 [3] [3]).bind _ = _
  rw [k4]; simp only [Option.bind_some, Bool.true_and, beq_self_eq_true, cond_true]
  show (m9 (enc s4 [true, true, true, false])).bind _ = _
  rw [h9a]; simp only [Option.bind_some, Bool.true_and, beq_self_eq_true, cond_true]
  show (m9 ([], (1 : Int), ([] : List Int), ())).bind _ = _
  rw [h9b]
  rfl

end Go.Proofs.Ytblgheellobhcaa
