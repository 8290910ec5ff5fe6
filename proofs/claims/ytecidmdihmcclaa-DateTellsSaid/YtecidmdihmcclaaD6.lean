/- Dates: reading; the small examples; the next day. -/
import Derived.Test.YtecidmdihmcclaaD5
namespace Go.Proofs.Ytecidmdihmcclaa
open Go Go.Eng
set_option linter.unusedVariables false
set_option linter.unusedSimpArgs false

theorem len10 {α : Type} {l : List α} (h : l.length = 10) : ∃ a b c d e f g i j k, l = [a, b, c, d, e, f, g, i, j, k] := by
  match l, h with
  | [a, b, c, d, e, f, g, i, j, k], _ => exact ⟨a, b, c, d, e, f, g, i, j, k, rfl⟩

/-- What Read answers. -/
def readS : List UInt8 → Int × Int × Unit
  | [a, b, c, d, e, f, g, i, j, k] =>
    if (e.toNat : Int) = 45 ∧ (i.toNat : Int) = 45 then
      match digs [a, b, c, d] 0, digs [f, g] 0, digs [j, k] 0 with
      | some y, some m, some d => ofS y m d
      | _, _, _ => (0, 2, ())
    else (0, 2, ())
  | _ => (0, 2, ())

theorem bne_ne {a b : Int} (h : a ≠ b) : (a != b) = true := by simp [h]
theorem bne_eq (a : Int) : (a != a) = false := by simp

theorem m12_eq (s : List UInt8) : m12 s = some (readS s) := by
  by_cases h : s.length = 10
  · obtain ⟨a, b, c, d, e, f, g, i, j, k, rfl⟩ := len10 h
    unfold m12
    have l10 : ((List.length [a, b, c, d, e, f, g, i, j, k] : Int) != 10) = false := rfl
    rw [l10]
    have i4 : idxG (false == false) (0 : UInt8) [a, b, c, d, e, f, g, i, j, k] 4 = some e := rfl
    rw [i4]
    simp only [Option.bind_some, Bool.false_or]
    by_cases he : (e.toNat : Int) = 45
    · rw [he, bne_eq]
      have i7 : idxG (false == false) (0 : UInt8) [a, b, c, d, e, f, g, i, j, k] 7 = some i := rfl
      rw [i7]
      simp only [Option.bind_some, Bool.false_or]
      by_cases hi : (i.toNat : Int) = 45
      · rw [hi, bne_eq]
        simp only [cond_false]
        have b1 : bounds true (List.length [a, b, c, d, e, f, g, i, j, k]) 0 4 = true := rfl
        have b2 : bounds true (List.length [a, b, c, d, e, f, g, i, j, k]) 5 7 = true := rfl
        have b3 : bounds true (List.length [a, b, c, d, e, f, g, i, j, k]) 8 (List.length [a, b, c, d, e, f, g, i, j, k] : Int) = true := rfl
        have s1 : subl [a, b, c, d, e, f, g, i, j, k] 0 4 = [a, b, c, d] := rfl
        have s2 : subl [a, b, c, d, e, f, g, i, j, k] 5 7 = [f, g] := rfl
        have s3 : subl [a, b, c, d, e, f, g, i, j, k] 8 (List.length [a, b, c, d, e, f, g, i, j, k] : Int) = [j, k] := rfl
        rw [b1, b2, b3, s1, s2, s3, asrtT, m28_eq _ (by simp), m28_eq _ (by simp), m28_eq _ (by simp)]
        simp only [Option.bind_some, asrtT, readS, he, hi, and_self, if_true]
        cases digs [a, b, c, d] 0 with
        | none => rfl
        | some y =>
          cases digs [f, g] 0 with
          | none => rfl
          | some m =>
            cases digs [j, k] 0 with
            | none => rfl
            | some d => simp only [m8_eq]; rfl
      · rw [bne_ne hi]
        simp only [readS, he, hi, and_false, if_false]
        rfl
    · rw [bne_ne he]
      simp only [readS, he, false_and, if_false]
      rfl
  · have e : readS s = (0, 2, ()) := by
      unfold readS
      split
      · exact absurd rfl h
      · rfl
    rw [e]
    unfold m12
    have : ((List.length s : Int) != 10) = true := bne_ne (by omega)
    rw [this]
    rfl

theorem small : m7 = some true := by
  have d59 : IsDate 59 1900 2 1 := ⟨by decide, by decide, by decide +kernel, by decide +kernel⟩
  have d30 : IsDate 30 1900 0 31 := ⟨by decide, by decide, by decide +kernel, by decide +kernel⟩
  have d58 : IsDate 58 1900 1 28 := ⟨by decide, by decide, by decide +kernel, by decide +kernel⟩
  have dx : IsDate 36583 2000 1 29 := ⟨by decide, by decide, by decide +kernel, by decide +kernel⟩
  unfold m7
  rw [m8_eq, m8_eq, m8_eq, m8_eq, m10_of d59 (by decide) (by decide), m22_eq d30 (by decide) (by decide) (by decide) (by decide), m22_eq d58 (by decide) (by decide) (by decide) (by decide), m12_eq, m12_eq, m18_eq, m20_of dx (by decide) (by decide), m14_eq, m14_eq, m16_eq]
  decide +kernel

theorem IsDate.next {day y d : Int} {M : Nat} (h : IsDate day y M d) :
    (d < last y (M + 1) → IsDate (day + 1) y M (d + 1)) ∧ (d = last y (M + 1) → M < 11 → IsDate (day + 1) y (M + 1) 1) ∧ (d = last y (M + 1) → M = 11 → IsDate (day + 1) (y + 1) 0 1) := by
  obtain ⟨h1, h2, h3, h4⟩ := h
  refine ⟨fun c => ⟨h1, by omega, by omega, by omega⟩, fun c c2 => ⟨by omega, by omega, ?_, ?_⟩, fun c c2 => ⟨by omega, by omega, ?_, ?_⟩⟩
  · have := last_bounds y (((M + 1 : Nat) : Int) + 1); omega
  · simp only [cum]; omega
  · have := last_bounds (y + 1) (((0 : Nat) : Int) + 1); omega
  · subst c2
    have := cum_12 y
    have e : cum y 12 = cum y 11 + last y ((11 : Nat) + 1) := rfl
    have := bef_succ y
    simp only [cum]
    omega

theorem next (day : Int) (h0 : -9223372036854775808 ≤ day) (h1 : day ≤ 9223372036854775807) : m4 day = some true := by
  unfold m4
  rw [small]
  by_cases hd : 0 ≤ day ∧ day ≤ 200000
  · obtain ⟨y, M, d, e, hi, _⟩ := m10_eq hd.1 hd.2
    have hm := hi.m
    have hd1 := hi.d1
    have hd2 := hi.d2
    obtain ⟨y1, y2⟩ := hi.ys hd.1 hd.2
    rw [e]
    simp only [Option.bind_some]
    rw [bifF (by simp <;> omega), m8_eq, hi.of hd.1 hd.2, m16_eq, m18_eq, if_pos hd]
    have hw : 0 ≤ day % 7 ∧ day % 7 ≤ 6 := by omega
    simp only [Option.bind_some, bne_eq, beq_self_eq_true, cond_true, Bool.false_or, decide_eq_false (show ¬ d < 1 by omega), decide_eq_false (show ¬ d > last y (M + 1) by omega), decide_eq_false (show ¬ day % 7 < 0 by omega), decide_eq_false (show ¬ day % 7 > 6 by omega), cond_false]
    by_cases hl : day = 200000
    · subst hl; rfl
    · rw [show (day == 200000) = false from beq_eq_false_iff_ne.2 hl]
      simp only [cond_false]
      rw [wrapI (x := day + 1) (by omega) (by omega), m18_eq, if_pos (by omega)]
      obtain ⟨n1, n2, n3⟩ := hi.next
      by_cases c1 : d < last y (M + 1)
      · rw [m10_of (n1 c1) (by omega) (by omega)]
        simp (disch := omega) only [Option.bind_some, bne_eq, beq_self_eq_true, cond_true, Bool.false_or, wrapI, asrtT, tmod_pos, show ((7 : Int) != 0) = true from rfl]
        have hl31 := last_bounds y (M + 1)
        rw [bifF (by simp <;> omega), bifT (by simpa using c1), wrapI (x := d + 1) (by omega) (by omega)]
        simp
      · by_cases c2 : M < 11
        · rw [m10_of (n2 (by omega) c2) (by omega) (by omega)]
          simp (disch := omega) only [Option.bind_some, bne_eq, beq_self_eq_true, cond_true, Bool.false_or, wrapI, asrtT, tmod_pos, show ((7 : Int) != 0) = true from rfl]
          rw [bifF (by simp <;> omega), bifF (by simpa using c1), bifT (by simp <;> omega)]
          simp (disch := omega) [wrapI]
        · rw [m10_of (n3 (by omega) (by omega)) (by omega) (by omega)]
          simp (disch := omega) only [Option.bind_some, bne_eq, beq_self_eq_true, cond_true, Bool.false_or, wrapI, asrtT, tmod_pos, show ((7 : Int) != 0) = true from rfl]
          rw [bifF (by simp <;> omega), bifF (by simpa using c1), bifF (by simp <;> omega)]
          simp (disch := omega) [wrapI]
  · rw [m10_bad hd, m18_eq, if_neg hd, m20_bad hd]
    simp only [Option.bind_some]
    rw [bifT (by simp <;> omega)]
    rfl

end Go.Proofs.Ytecidmdihmcclaa
