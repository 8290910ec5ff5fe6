/- Dates: texts are in the order of days. -/
import Derived.Test.YtecidmdihmcclaaD7
namespace Go.Proofs.Ytecidmdihmcclaa
open Go Go.Eng
set_option linter.unusedVariables false
set_option linter.unusedSimpArgs false

theorem dg_nat (n : Int) (h : 0 ≤ n) : ((dg n).toNat : Int) = 48 + n % 10 := by
  unfold dg
  have : (48 + n % 10).toNat < 256 := by omega
  rw [UInt8.toNat_ofNat']
  omega

theorem isD_dg (n : Int) (h : 0 ≤ n) : isD (dg n) = true := by
  unfold isD
  rw [dg_nat n h]
  simp
  omega

theorem stepD_dg (a n : Int) (h : 0 ≤ n) (ha : 0 ≤ a) (ha2 : a ≤ 1000000) : stepD a (dg n) = 10 * a + n % 10 := by
  unfold stepD
  rw [dg_nat n h]
  simp (disch := omega) only [wrapI, wrap8]
  omega

theorem digs_pad4 (y : Int) (h : 0 ≤ y) (h2 : y ≤ 9999) : digs (pad4 y) 0 = some y := by
  simp only [pad4, digs, if_pos (isD_dg _ (show 0 ≤ y / 1000 by omega)), if_pos (isD_dg _ (show 0 ≤ y / 100 by omega)), if_pos (isD_dg _ (show 0 ≤ y / 10 by omega)), if_pos (isD_dg _ h)]
  rw [stepD_dg 0 (y / 1000) (by omega) (by omega) (by omega), stepD_dg _ (y / 100) (by omega) (by omega) (by omega), stepD_dg _ (y / 10) (by omega) (by omega) (by omega), stepD_dg _ y (by omega) (by omega) (by omega)]
  congr 1
  omega

theorem digs_pad2 (y : Int) (h : 0 ≤ y) (h2 : y ≤ 99) : digs (pad2 y) 0 = some y := by
  simp only [pad2, digs, if_pos (isD_dg _ (show 0 ≤ y / 10 by omega)), if_pos (isD_dg _ h)]
  rw [stepD_dg 0 (y / 10) (by omega) (by omega) (by omega), stepD_dg _ y (by omega) (by omega) (by omega)]
  congr 1
  omega

theorem readS_txt (y m d : Int) (h1 : 0 ≤ y ∧ y ≤ 9999) (h2 : 0 ≤ m ∧ m ≤ 99) (h3 : 0 ≤ d ∧ d ≤ 99) : readS (txt y m d) = ofS y m d := by
  have e : txt y m d = [dg (y / 1000), dg (y / 100), dg (y / 10), dg y, 45, dg (m / 10), dg m, 45, dg (d / 10), dg d] := rfl
  rw [e]
  simp only [readS]
  rw [if_pos (by decide)]
  have a := digs_pad4 y h1.1 h1.2
  have b := digs_pad2 m h2.1 h2.2
  have c := digs_pad2 d h3.1 h3.2
  unfold pad4 at a
  unfold pad2 at b c
  rw [a, b, c]

/-- A digit is that of its number. -/
theorem isD_eq {c : UInt8} (h : isD c = true) : ∃ n : Int, 0 ≤ n ∧ n ≤ 9 ∧ c = dg n := by
  unfold isD at h
  simp at h
  refine ⟨(c.toNat : Int) - 48, by omega, by omega, ?_⟩
  apply UInt8.toNat_inj.1
  have := dg_nat ((c.toNat : Int) - 48) (by omega)
  omega

theorem dg_congr {a b : Int} (h : a % 10 = b % 10) : dg a = dg b := by unfold dg; rw [h]

theorem digs_split {c : UInt8} {l : List UInt8} {a v : Int} (h : digs (c :: l) a = some v) (ha : 0 ≤ a) (ha2 : a ≤ 1000000) : ∃ n : Int, 0 ≤ n ∧ n ≤ 9 ∧ c = dg n ∧ digs l (10 * a + n) = some v := by
  simp only [digs] at h
  by_cases hd : isD c = true
  · rw [if_pos hd] at h
    obtain ⟨n, h1, h2, rfl⟩ := isD_eq hd
    rw [stepD_dg a n h1 ha ha2, show n % 10 = n by omega] at h
    exact ⟨n, h1, h2, rfl, h⟩
  · rw [if_neg hd] at h
    cases h

theorem digs4 {a b c d : UInt8} {v : Int} (h : digs [a, b, c, d] 0 = some v) : 0 ≤ v ∧ v ≤ 9999 ∧ [a, b, c, d] = pad4 v := by
  obtain ⟨n1, a1, a2, e1, g1⟩ := digs_split h (by omega) (by omega)
  obtain ⟨n2, b1, b2, e2, g2⟩ := digs_split g1 (by omega) (by omega)
  obtain ⟨n3, c1, c2, e3, g3⟩ := digs_split g2 (by omega) (by omega)
  obtain ⟨n4, d1, d2, e4, g4⟩ := digs_split g3 (by omega) (by omega)
  clear h g1 g2 g3
  subst e1; subst e2; subst e3; subst e4
  have : v = 1000 * n1 + 100 * n2 + 10 * n3 + n4 := by
    simp only [digs, Option.some.injEq] at g4
    omega
  subst this
  refine ⟨by omega, by omega, ?_⟩
  unfold pad4
  rw [dg_congr (a := n1) (b := (1000 * n1 + 100 * n2 + 10 * n3 + n4) / 1000) (by omega), dg_congr (a := n2) (b := (1000 * n1 + 100 * n2 + 10 * n3 + n4) / 100) (by omega),
    dg_congr (a := n3) (b := (1000 * n1 + 100 * n2 + 10 * n3 + n4) / 10) (by omega), dg_congr (a := n4) (b := (1000 * n1 + 100 * n2 + 10 * n3 + n4)) (by omega)]

theorem digs2 {a b : UInt8} {v : Int} (h : digs [a, b] 0 = some v) : 0 ≤ v ∧ v ≤ 99 ∧ [a, b] = pad2 v := by
  obtain ⟨n1, a1, a2, e1, g1⟩ := digs_split h (by omega) (by omega)
  obtain ⟨n2, b1, b2, e2, g2⟩ := digs_split g1 (by omega) (by omega)
  clear h g1
  subst e1; subst e2
  have : v = 10 * n1 + n2 := by
    simp only [digs, Option.some.injEq] at g2
    omega
  subst this
  refine ⟨by omega, by omega, ?_⟩
  unfold pad2
  rw [dg_congr (a := n1) (b := (10 * n1 + n2) / 10) (by omega), dg_congr (a := n2) (b := (10 * n1 + n2)) (by omega)]

/-- What can be read, has this text. -/
theorem readS_ok {s : List UInt8} {c : Int} (h : readS s = (c, 0, ())) : m20 c = some s := by
  unfold readS at h
  split at h
  · rename_i a b c' d e f g i j k
    by_cases hc : (e.toNat : Int) = 45 ∧ (i.toNat : Int) = 45
    · rw [if_pos hc] at h
      split at h
      · rename_i y m dd hy hm hd
        obtain ⟨y1, y2, y3⟩ := digs4 hy
        obtain ⟨q1, q2, q3⟩ := digs2 hm
        obtain ⟨r1, r2, r3⟩ := digs2 hd
        unfold ofS at h
        by_cases c1 : dd < 1 ∨ dd > last y m
        · rw [if_pos c1] at h; cases h
        · rw [if_neg c1] at h
          by_cases c2 : y < 1900 ∨ y > 3000
          · rw [if_pos c2] at h; cases h
          · rw [if_neg c2] at h
            by_cases c3 : 0 ≤ bef y + cum y (m - 1).toNat + dd - 1 ∧ bef y + cum y (m - 1).toNat + dd - 1 ≤ 200000
            · rw [if_pos c3] at h
              have hl := last_bounds y m
              have hm12 : 1 ≤ m ∧ m ≤ 12 := by
                by_cases hh : 1 ≤ m ∧ m ≤ 12
                · exact hh
                · have := hl.2.2.2 hh; omega
              have hdate : IsDate c y (m - 1).toNat dd := by
                refine ⟨by omega, by omega, ?_, ?_⟩
                · rw [show (((m - 1).toNat : Nat) : Int) + 1 = m by omega]; omega
                · have := congrArg Prod.fst h
                  simp only at this
                  omega
              have hc0 : c = bef y + cum y (m - 1).toNat + dd - 1 := hdate.day
              rw [m20_of hdate (by omega) (by omega), show (((m - 1).toNat : Nat) : Int) + 1 = m by omega]
              congr 1
              have e45 : e = 45 := UInt8.toNat_inj.1 (by have := hc.1; show e.toNat = 45; omega)
              have i45 : i = 45 := UInt8.toNat_inj.1 (by have := hc.2; show i.toNat = 45; omega)
              subst e45; subst i45
              have : [a, b, c', d, 45, f, g, 45, j, k] = [a, b, c', d] ++ [45] ++ [f, g] ++ [45] ++ [j, k] := rfl
              rw [this, y3, q3, r3]
              rfl
            · rw [if_neg c3] at h; cases h
      · cases h
    · rw [if_neg hc] at h; cases h
  · cases h

theorem readS_bad {s : List UInt8} (h : (readS s).2.1 ≠ 0) : (readS s).1 = 0 := by
  unfold readS at h ⊢
  split
  · rename_i a b c d e f g i j k
    simp only at h
    by_cases hc : (e.toNat : Int) = 45 ∧ (i.toNat : Int) = 45
    · rw [if_pos hc] at h ⊢
      split
      · rename_i y m dd hy hm hd
        simp only [hy, hm, hd] at h
        unfold ofS at h ⊢
        repeat' split
        all_goals simp_all
      · rfl
    · rw [if_neg hc]
  · rfl

end Go.Proofs.Ytecidmdihmcclaa
