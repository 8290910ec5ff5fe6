/- Dates: the law of the reference. -/
import Derived.Test.YtecidmdihmcclaaD10
namespace Go.Proofs.Ytecidmdihmcclaa
open Go Go.Eng
set_option linter.unusedVariables false
set_option linter.unusedSimpArgs false

/-! ### Read -/

theorem s13_dig {R : Type} {s : List UInt8} {kn : Int → Int → List Int → Option R} {k1 : Int → List Int → Option R} {k2 : Option R} {t : Int} {j : Nat} {o : List Int} {c : UInt8}
    (hc : s[j]? = some c) (h4 : j ≠ 4) (h7 : j ≠ 7) (hj : j ≤ 100) : s13_1 s kn k1 k2 t j o = if isD c = true then kn (stepD t c) ((j + 1 : Nat) : Int) o else k2 := by
  have hl : j < s.length := (List.getElem?_eq_some_iff.1 hc).1
  unfold s13_1
  rw [bifT (decide_eq_true (by omega))]
  have e4 : ((j : Int) == 4) = false := beq_eq_false_iff_ne.2 (by omega)
  have e7 : ((j : Int) == 7) = false := beq_eq_false_iff_ne.2 (by omega)
  simp only [cont, e4, e7, Bool.or_false, cond_false, idx_nat, hc, Option.bind_some]
  have hw : IntKind.i64.wrap ((j : Int) + 1) = ((j + 1 : Nat) : Int) := by rw [wrapI (by omega) (by omega)]; omega
  by_cases h1 : (c.toNat : Int) < 48
  · rw [decide_eq_true h1]
    have : isD c = false := by unfold isD; rw [decide_eq_true h1]; rfl
    rw [this]
    rfl
  · rw [decide_eq_false h1]
    simp only [idxG, beq_self_eq_true, cond_true, idx_nat, hc, Option.bind_some, Bool.false_or]
    by_cases h2 : (c.toNat : Int) > 57
    · rw [decide_eq_true h2]
      have : isD c = false := by unfold isD; rw [decide_eq_true h2]; simp
      rw [this]
      rfl
    · rw [decide_eq_false h2]
      have : isD c = true := by unfold isD; rw [decide_eq_false h1, decide_eq_false h2]; rfl
      rw [this]
      simp only [cond_false, if_true, hw]
      rfl

theorem s13_dash {R : Type} {s : List UInt8} {kn : Int → Int → List Int → Option R} {k1 : Int → List Int → Option R} {k2 : Option R} {t : Int} {j : Nat} {o : List Int} {c : UInt8}
    (hc : s[j]? = some c) (h : j = 4 ∨ j = 7) (ho : o.length ≤ 100) : s13_1 s kn k1 k2 t j o = if (c.toNat : Int) = 45 then kn 0 ((j + 1 : Nat) : Int) (o ++ [t]) else k2 := by
  have hl : j < s.length := (List.getElem?_eq_some_iff.1 hc).1
  unfold s13_1
  rw [bifT (decide_eq_true (by omega))]
  have e4 : (((j : Int) == 4) || ((j : Int) == 7)) = true := by rcases h with h | h <;> subst h <;> rfl
  have hw : IntKind.i64.wrap ((j : Int) + 1) = ((j + 1 : Nat) : Int) := by rw [wrapI (by omega) (by omega)]; omega
  simp only [cont, e4, cond_true, idx_nat, hc, Option.bind_some]
  by_cases h1 : (c.toNat : Int) = 45
  · rw [h1, bne_eq, if_pos rfl, hw]
    simp only [cond_false]
    rw [asrtP]
    intro _
    have : List.length (α := Int) [t] = 1 := rfl
    rw [this]
    exact decide_eq_true (by unfold LIM; omega)
  · rw [bne_ne h1, if_neg h1]
    rfl

theorem s13_end {R : Type} {s : List UInt8} {kn : Int → Int → List Int → Option R} {k1 : Int → List Int → Option R} {k2 : Option R} {t : Int} {o : List Int} :
    s13_1 s kn k1 k2 t (s.length : Int) o = k1 t o := by
  unfold s13_1
  rw [bifF (by simp)]

theorem l13_s {R : Type} (s : List UInt8) (k1 : Int → List Int → Option R) (k2 : Option R) (n : Nat) (t j : Int) (o : List Int) : l13_1 s k1 k2 (n + 1) t j o = s13_1 s (l13_1 s k1 k2 n) k1 k2 t j o := rfl

theorem fuel11 : ∃ m, FUEL = m + 1 + 1 + 1 + 1 + 1 + 1 + 1 + 1 + 1 + 1 + 1 := ⟨FUEL - 11, by have := FUEL_eq; omega⟩

theorem digs_b : ∀ (l : List UInt8) (a v : Int), digs l a = some v → l ≠ [] → -9223372036854775808 ≤ v
  | [], a, v, _, h => absurd rfl h
  | c :: l, a, v, h, _ => by
    simp only [digs] at h
    split at h
    · cases l with
      | nil =>
        simp only [digs, Option.some.injEq] at h
        subst h
        unfold stepD
        rw [IntKind.wrap_i64]
        omega
      | cons d l => exact digs_b (d :: l) _ v h (by simp)
    · cases h

theorem m13_eq (s : List UInt8) : m13 s = some (readS s) := by
  by_cases h : s.length = 10
  · obtain ⟨a, b, c, d, e, f, g, i, j, k, rfl⟩ := len10 h
    unfold m13
    have l10 : ((List.length [a, b, c, d, e, f, g, i, j, k] : Int) != 10) = false := rfl
    rw [l10]
    simp only [cond_false]
    obtain ⟨m, hm⟩ := fuel11
    rw [hm]
    have z : (0 : Int) = ((0 : Nat) : Int) := rfl
    rw [z, l13_s, s13_dig (c := a) rfl (by decide) (by decide) (by decide), l13_s, s13_dig (c := b) rfl (by decide) (by decide) (by decide), l13_s, s13_dig (c := c) rfl (by decide) (by decide) (by decide), l13_s, s13_dig (c := d) rfl (by decide) (by decide) (by decide),
      l13_s, s13_dash (c := e) rfl (by decide) (by decide), l13_s, s13_dig (c := f) rfl (by decide) (by decide) (by decide), l13_s, s13_dig (c := g) rfl (by decide) (by decide) (by decide), l13_s, s13_dash (c := i) rfl (by decide) (by simp),
      l13_s, s13_dig (c := j) rfl (by decide) (by decide) (by decide), l13_s, s13_dig (c := k) rfl (by decide) (by decide) (by decide), l13_s]
    have e10 : ((9 + 1 : Nat) : Int) = (([a, b, c, d, e, f, g, i, j, k] : List UInt8).length : Int) := rfl
    rw [e10, s13_end]
    by_cases ha : isD a = true
    case neg => rw [if_neg ha]; simp only [readS, digs, if_neg ha]; split <;> rfl
    by_cases hb : isD b = true
    case neg => rw [if_pos ha, if_neg hb]; simp only [readS, digs, if_pos ha, if_neg hb]; split <;> rfl
    by_cases hc : isD c = true
    case neg => rw [if_pos ha, if_pos hb, if_neg hc]; simp only [readS, digs, if_pos ha, if_pos hb, if_neg hc]; split <;> rfl
    by_cases hd : isD d = true
    case neg => rw [if_pos ha, if_pos hb, if_pos hc, if_neg hd]; simp only [readS, digs, if_pos ha, if_pos hb, if_pos hc, if_neg hd]; split <;> rfl
    rw [if_pos ha, if_pos hb, if_pos hc, if_pos hd]
    by_cases he : (e.toNat : Int) = 45
    case neg => rw [if_neg he]; simp only [readS, he, false_and, if_false]; rfl
    rw [if_pos he]
    by_cases hi : (i.toNat : Int) = 45
    case neg =>
      simp only [readS, he, hi, and_false, if_false]
      by_cases hf : isD f = true
      case neg => rw [if_neg hf]; rfl
      by_cases hg : isD g = true
      case neg => rw [if_pos hf, if_neg hg]; rfl
      rw [if_pos hf, if_pos hg]; rfl
    rw [if_pos hi]
    simp only [readS, he, hi, and_self, if_true, digs, if_pos ha, if_pos hb, if_pos hc, if_pos hd]
    by_cases hf : isD f = true
    case neg => simp only [if_neg hf]; rfl
    by_cases hg : isD g = true
    case neg => simp only [if_pos hf, if_neg hg]; rfl
    by_cases hj : isD j = true
    case neg => simp only [if_pos hf, if_pos hg, if_neg hj]; rfl
    by_cases hk : isD k = true
    case neg => simp only [if_pos hf, if_pos hg, if_pos hj, if_neg hk]; rfl
    simp only [if_pos hf, if_pos hg, if_pos hj, if_pos hk]
    have hbnd : -9223372036854775808 ≤ stepD (stepD 0 j) k := by unfold stepD; rw [IntKind.wrap_i64]; omega
    show ((m9 (stepD (stepD (stepD (stepD 0 a) b) c) d) (stepD (stepD 0 f) g) (stepD (stepD 0 j) k)).bind fun r10 => some ((r10.1, r10.2.1, ()) : Int × Int × Unit)) = _
    rw [m9_eq _ _ _ hbnd]
    rfl
  · have e : readS s = (0, 2, ()) := by
      unfold readS
      split
      · exact absurd rfl h
      · rfl
    rw [e]
    unfold m13
    have : ((List.length s : Int) != 10) = true := bne_ne (by omega)
    rw [this]
    rfl

/-! ### Text, Weekday -/

theorem m19_eq (d : Int) : m19 d = m18 d := by
  rw [m18_eq]
  unfold m19
  by_cases h : 0 ≤ d ∧ d ≤ 200000
  · rw [if_pos h, bifF (by simp <;> omega), tmod_pos _ h.1]
  · rw [if_neg h, bifT (by simp <;> omega)]

theorem m30_eq (n : Int) (h : 0 ≤ n) (h1 : n ≤ 100000) : m30 n = some (pad2 n) := by
  unfold m30
  rw [tdiv_pos _ h, tmod_pos _ h]
  simp (disch := omega) only [wrapI]
  rw [tmod_pos _ (by omega)]
  simp (disch := omega) only [wrapI, wrap8]
  rfl

theorem pad4_two (y : Int) : pad2 (y / 100) ++ pad2 (y % 100) = pad4 y := by
  unfold pad2 pad4
  rw [dg_congr (a := y / 100 / 10) (b := y / 1000) (by omega), dg_congr (a := y % 100 / 10) (b := y / 10) (by omega), dg_congr (a := y % 100) (b := y) (by omega)]
  rfl

theorem m21_eq (d : Int) : m21 d = m20 d := by
  by_cases h : 0 ≤ d ∧ d ≤ 200000
  · obtain ⟨y, M, dd, _, hi, _⟩ := m10_eq h.1 h.2
    obtain ⟨y1, y2⟩ := hi.ys h.1 h.2
    have hm := hi.m
    have hd := hi.d1
    have hd2 := hi.d2
    have hl := last_bounds y (M + 1)
    rw [m20_of hi h.1 h.2]
    unfold m21
    rw [m11_eq, m10_of hi h.1 h.2]
    simp only [Option.bind_some]
    rw [tdiv_pos _ (by omega), tmod_pos _ (by omega), wrapI (x := y / 100) (by omega) (by omega), m30_eq _ (by omega) (by omega), m30_eq _ (by omega) (by omega), m30_eq _ (by omega) (by omega), m30_eq _ (by omega) (by omega)]
    simp only [Option.bind_some, pad4_two]
    rfl
  · rw [m20_bad h]
    unfold m21
    rw [m11_eq, m10_bad h]
    rfl

end Go.Proofs.Ytecidmdihmcclaa
