/- Dates: the law of texts. -/
import Derived.Test.YtecidmdihmcclaaD8
namespace Go.Proofs.Ytecidmdihmcclaa
open Go Go.Eng
set_option linter.unusedVariables false
set_option linter.unusedSimpArgs false

def lexB : List UInt8 → List UInt8 → Bool
  | c :: l, d :: r => if (c.toNat : Int) ≠ (d.toNat : Int) then decide ((c.toNat : Int) < (d.toNat : Int)) else lexB l r
  | a, b => decide (a.length < b.length)

theorem l24_eq (t u : List UInt8) (ht : t.length ≤ 100) (hu : u.length ≤ 100) : ∀ (n j : Nat), j ≤ t.length → j ≤ u.length → t.length - j < n →
    l24_1 t u (some (decide ((List.length t : Int) < (List.length u : Int)))) (fun y => some y) n j = some (lexB (t.drop j) (u.drop j))
  | 0, j, _, _, h => by omega
  | n + 1, j, h1, h2, h3 => by
    unfold l24_1 s24_1
    by_cases c1 : j < t.length
    · by_cases c2 : j < u.length
      · rw [bifT (by simp <;> omega), idx_nat, idx_nat, List.getElem?_eq_getElem c1, List.getElem?_eq_getElem c2]
        simp only [Option.bind_some]
        rw [List.drop_eq_getElem_cons c1, List.drop_eq_getElem_cons c2]
        simp only [lexB]
        by_cases c3 : ((t[j]).toNat : Int) = ((u[j]).toNat : Int)
        · rw [c3, bne_eq, if_neg (by simp)]
          simp only [cond_false]
          rw [wrapI (x := (j : Int) + 1) (by omega) (by omega)]
          exact l24_eq t u ht hu n (j + 1) (by omega) (by omega) (by omega)
        · rw [bne_ne c3, if_pos c3]
          rfl
      · have : j = u.length := by omega
        subst this
        rw [bifF (by simp <;> omega), List.drop_length, List.drop_eq_getElem_cons c1]
        simp only [lexB]
        congr 1
        rw [decide_eq_decide]
        simp only [List.length_cons, List.length_nil]
        omega
    · have : j = t.length := by omega
      subst this
      rw [bifF (by simp), List.drop_length]
      have e : lexB [] (u.drop t.length) = decide ((0 : Nat) < (u.drop t.length).length) := by cases u.drop t.length <;> rfl
      rw [e]
      congr 1
      rw [decide_eq_decide, List.length_drop]
      omega

theorem m24_eq (t u : List UInt8) (ht : t.length ≤ 100) (hu : u.length ≤ 100) : m24 t u = some (lexB t u) := by
  unfold m24
  have := l24_eq t u ht hu FUEL 0 (by omega) (by omega) (fuel_lt (by omega))
  simpa using this

theorem lexB_dg (a b : Int) (l r : List UInt8) (ha : 0 ≤ a) (hb : 0 ≤ b) : lexB (dg a :: l) (dg b :: r) = if a % 10 ≠ b % 10 then decide (a % 10 < b % 10) else lexB l r := by
  simp only [lexB, dg_nat a ha, dg_nat b hb]
  by_cases h : a % 10 = b % 10
  · rw [if_neg (by omega), if_neg (by omega)]
  · rw [if_pos (by omega), if_pos h, decide_eq_decide]
    omega

theorem lexB_same (c : UInt8) (l r : List UInt8) : lexB (c :: l) (c :: r) = lexB l r := by simp [lexB]

theorem lex_pad4 (y z : Int) (l r : List UInt8) (hy : 0 ≤ y ∧ y ≤ 9999) (hz : 0 ≤ z ∧ z ≤ 9999) : lexB (pad4 y ++ l) (pad4 z ++ r) = if y < z then true else if z < y then false else lexB l r := by
  show lexB (dg (y / 1000) :: dg (y / 100) :: dg (y / 10) :: dg y :: l) (dg (z / 1000) :: dg (z / 100) :: dg (z / 10) :: dg z :: r) = _
  rw [lexB_dg _ _ _ _ (by omega) (by omega), lexB_dg _ _ _ _ (by omega) (by omega), lexB_dg _ _ _ _ (by omega) (by omega), lexB_dg _ _ _ _ (by omega) (by omega)]
  by_cases h1 : y / 1000 % 10 = z / 1000 % 10
  · rw [if_neg (by omega)]
    by_cases h2 : y / 100 % 10 = z / 100 % 10
    · rw [if_neg (by omega)]
      by_cases h3 : y / 10 % 10 = z / 10 % 10
      · rw [if_neg (by omega)]
        by_cases h4 : y % 10 = z % 10
        · rw [if_neg (by omega), if_neg (by omega), if_neg (by omega)]
        · rw [if_pos (by omega)]
          by_cases h : y < z
          · rw [if_pos h, decide_eq_true (by omega)]
          · rw [if_neg h, if_pos (by omega), decide_eq_false (by omega)]
      · rw [if_pos (by omega)]
        by_cases h : y < z
        · rw [if_pos h, decide_eq_true (by omega)]
        · rw [if_neg h, if_pos (by omega), decide_eq_false (by omega)]
    · rw [if_pos (by omega)]
      by_cases h : y < z
      · rw [if_pos h, decide_eq_true (by omega)]
      · rw [if_neg h, if_pos (by omega), decide_eq_false (by omega)]
  · rw [if_pos (by omega)]
    by_cases h : y < z
    · rw [if_pos h, decide_eq_true (by omega)]
    · rw [if_neg h, if_pos (by omega), decide_eq_false (by omega)]

theorem lex_pad2 (y z : Int) (l r : List UInt8) (hy : 0 ≤ y ∧ y ≤ 99) (hz : 0 ≤ z ∧ z ≤ 99) : lexB (pad2 y ++ l) (pad2 z ++ r) = if y < z then true else if z < y then false else lexB l r := by
  show lexB (dg (y / 10) :: dg y :: l) (dg (z / 10) :: dg z :: r) = _
  rw [lexB_dg _ _ _ _ (by omega) (by omega), lexB_dg _ _ _ _ (by omega) (by omega)]
  by_cases h3 : y / 10 % 10 = z / 10 % 10
  · rw [if_neg (by omega)]
    by_cases h4 : y % 10 = z % 10
    · rw [if_neg (by omega), if_neg (by omega), if_neg (by omega)]
    · rw [if_pos (by omega)]
      by_cases h : y < z
      · rw [if_pos h, decide_eq_true (by omega)]
      · rw [if_neg h, if_pos (by omega), decide_eq_false (by omega)]
  · rw [if_pos (by omega)]
    by_cases h : y < z
    · rw [if_pos h, decide_eq_true (by omega)]
    · rw [if_neg h, if_pos (by omega), decide_eq_false (by omega)]

theorem lex_txt {a b y d y' d' : Int} {M M' : Nat} (h : IsDate a y M d) (k : IsDate b y' M' d') (ha : 0 ≤ a ∧ a ≤ 200000) (hb : 0 ≤ b ∧ b ≤ 200000) : lexB (txt y (M + 1) d) (txt y' (M' + 1) d') = decide (a < b) := by
  obtain ⟨y1, y2⟩ := h.ys ha.1 ha.2
  obtain ⟨z1, z2⟩ := k.ys hb.1 hb.2
  have hm := h.m
  have km := k.m
  have hd := h.d1
  have kd := k.d1
  have hd2 := h.d2
  have kd2 := k.d2
  have hl := last_bounds y (M + 1)
  have kl := last_bounds y' (M' + 1)
  have e : ∀ y m d : Int, txt y m d = pad4 y ++ (45 :: (pad2 m ++ (45 :: (pad2 d ++ [])))) := by
    intro y m d; unfold txt; simp
  rw [e, e, lex_pad4 _ _ _ _ (by omega) (by omega), lexB_same, lex_pad2 _ _ _ _ (by omega) (by omega), lexB_same, lex_pad2 _ _ _ _ (by omega) (by omega)]
  have f0 : lexB [] [] = false := rfl
  rw [f0]
  by_cases c1 : y < y'
  · rw [if_pos c1, decide_eq_true (h.lt k (by omega))]
  · rw [if_neg c1]
    by_cases c2 : y' < y
    · rw [if_pos c2, decide_eq_false]
      have := k.lt h (by omega); omega
    · rw [if_neg c2]
      by_cases c3 : (M : Int) + 1 < M' + 1
      · rw [if_pos c3, decide_eq_true (h.lt k (by omega))]
      · rw [if_neg c3]
        by_cases c4 : (M' : Int) + 1 < M + 1
        · rw [if_pos c4, decide_eq_false]
          have := k.lt h (by omega); omega
        · rw [if_neg c4]
          by_cases c5 : d < d'
          · rw [if_pos c5, decide_eq_true (h.lt k (by omega))]
          · rw [if_neg c5, decide_eq_false]
            · split <;> rfl
            · have := k.mono h (by omega); omega

theorem texts (a b : Int) (s : List UInt8) : m6 a b s = some true := by
  unfold m6
  rw [small, m12_eq]
  simp only [Option.bind_some]
  have first : ∃ r3, (bif ((readS s).2.1 == 0) == true then m20 (readS s).1 else some []) = some r3 ∧ ((((readS s).2.1 == 0) && !(r3 == s)) || (((readS s).2.1 != 0) && ((readS s).1 != 0))) = false := by
    by_cases h : (readS s).2.1 = 0
    · have e : readS s = ((readS s).1, 0, ()) := by rw [← h]
      refine ⟨s, ?_, ?_⟩
      · rw [h]
        simp only [beq_self_eq_true, cond_true]
        exact readS_ok e
      · rw [h]; simp
    · refine ⟨[], ?_, ?_⟩
      · rw [beq_eq_false_iff_ne.2 h]; rfl
      · rw [readS_bad h, beq_eq_false_iff_ne.2 h]; simp
  obtain ⟨r3, e1, e2⟩ := first
  rw [e1]
  simp only [Option.bind_some, e2, cond_false]
  by_cases ha : 0 ≤ a ∧ a ≤ 200000
  · obtain ⟨y, M, d, _, hi, _⟩ := m10_eq ha.1 ha.2
    obtain ⟨y1, y2⟩ := hi.ys ha.1 ha.2
    have hm := hi.m
    have hd := hi.d1
    have hd2 := hi.d2
    have hl := last_bounds y (M + 1)
    rw [m20_of hi ha.1 ha.2]
    simp only [Option.bind_some]
    have ne : (txt y (M + 1) d == []) = false := rfl
    rw [ne, m12_eq, readS_txt _ _ _ (by omega) (by omega) (by omega), hi.of ha.1 ha.2]
    simp only [cond_false, Option.bind_some]
    have l10 : ((List.length (txt y (M + 1) d) : Int) == 10) = true := rfl
    rw [l10]
    simp only [beq_self_eq_true, Bool.true_and, Bool.and_true]
    by_cases hb : 0 ≤ b ∧ b ≤ 200000
    · obtain ⟨y', M', d', _, hi', _⟩ := m10_eq hb.1 hb.2
      rw [m20_of hi' hb.1 hb.2]
      simp only [Option.bind_some]
      have ne' : (txt y' (M' + 1) d' == []) = false := rfl
      rw [ne', m24_eq _ _ (by simp [txt, pad4, pad2]) (by simp [txt, pad4, pad2]), lex_txt hi hi' ha hb]
      simp
    · rw [m20_bad hb]
      rfl
  · rw [m20_bad ha]
    simp only [Option.bind_some]
    rw [bifT (by rfl)]
    simp
    omega

end Go.Proofs.Ytecidmdihmcclaa
