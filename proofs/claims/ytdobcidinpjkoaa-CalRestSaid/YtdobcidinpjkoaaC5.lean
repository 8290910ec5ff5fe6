/- The calendar's functions: closed forms. -/
import Derived.Test.YtdobcidinpjkoaaC4
namespace Go.Proofs.Ytdobcidinpjkoaa
open Go Go.Eng
set_option linter.unusedVariables false
set_option linter.unusedSimpArgs false

/-- Year and month of a day. -/
noncomputable def ym (d : Int) : Int × Int := match m22 d with | some r => (r.1, r.2.1) | none => (0, 0)

theorem m22_ym {d : Int} (h : Dy d) : ∃ dd, m22 d = some ((ym d).1, (ym d).2, dd, 0, ()) ∧ 1900 ≤ (ym d).1 ∧ (ym d).1 ≤ 2600 ∧ 1 ≤ (ym d).2 ∧ (ym d).2 ≤ 12 := by
  obtain ⟨y, M, dd, e, hi, _⟩ := m22_eq h.1 h.2
  have hy := hi.ys h.1 h.2
  have hM := hi.1
  unfold ym
  rw [e]
  exact ⟨dd, rfl, hy.1, hy.2, by simp only; omega, by simp only; omega⟩

noncomputable def mon (d : Int) : Int := 12 * (ym d).1 + (ym d).2

theorem m33_eq {d : Int} (h : Dy d) : m33 d = some (mon d) := by
  obtain ⟨dd, e, h1, h2, h3, h4⟩ := m22_ym h
  unfold m33 mon
  rw [e]
  simp only [Option.bind_some]
  rw [wrapI (x := 12 * (ym d).1) (by omega) (by omega), wrapI (by omega) (by omega)]

theorem mon_iff {a b : Int} (ha : Dy a) (hb : Dy b) : mon a = mon b ↔ (ym a).1 = (ym b).1 ∧ (ym a).2 = (ym b).2 := by
  obtain ⟨_, _, h1, h2, h3, h4⟩ := m22_ym ha
  obtain ⟨_, _, g1, g2, g3, g4⟩ := m22_ym hb
  unfold mon
  omega

/-- Where a day is moved. -/
noncomputable def adjS (c : T23) (d how : Int) : Int × Int × Unit :=
  if how = 0 then (d, 0, ()) else if how = 1 then up c d else if how = 2 ∧ (up c d).2.1 = 0 ∧ mon (up c d).1 = mon d then up c d else dn c d
noncomputable def adj (c : T23) (d how : Int) : Int × Int × Unit :=
  if RightC c ∧ Dy d ∧ 0 ≤ how ∧ how < 4 then adjS c d how else (0, 1, ())

theorem m18_eq (c : T23) (d how : Int) : m18 c d how = some (adj c d how) := by
  unfold m18 adj
  rw [m14_eq, m29_eq]
  by_cases hr : RightC c
  · rw [decide_eq_true hr]
    by_cases hd : Dy d
    · rw [decide_eq_true (show 0 ≤ d ∧ d ≤ 200000 from hd)]
      by_cases hh : 0 ≤ how ∧ how < 4
      · rw [if_pos ⟨hr, hd, hh⟩]
        have h1 : decide (how < 0) = false := decide_eq_false (by omega)
        have h2 : decide (how ≥ 4) = false := decide_eq_false (by omega)
        simp only [Option.bind_some, Bool.not_true, beq_self_eq_true, cond_true, h1, h2, Bool.or_false, cond_false, cont_eq]
        rw [m32_up c hr d hd.1, m32_dn c hr d (by have := hd.1; omega) hd.2]
        unfold adjS
        rcases (show how = 0 ∨ how = 1 ∨ how = 2 ∨ how = 3 by omega) with rfl | rfl | rfl | rfl
        · rfl
        · rfl
        · rcases up_spec c d with ⟨x, e, g1, g2, g3, g4⟩ | ⟨e, g⟩
          · rw [e]
            have hx : Dy x := ⟨by have := hd.1; omega, g2⟩
            simp only [Option.bind_some, beq_self_eq_true, cond_true, m33_eq hx, m33_eq hd, Bool.true_and]
            by_cases hm : mon x = mon d
            · simp [hm, cont]
            · have hb : (mon x == mon d) = false := by simpa using hm
              simp [hm, hb, cont]
          · rw [e]; rfl
        · rfl
      · rw [if_neg (fun h => hh h.2.2)]
        have : (decide (how < 0) || decide (how ≥ 4)) = true := by
          by_cases h1 : how < 0
          · simp [h1]
          · simp; omega
        simp only [Option.bind_some, Bool.not_true, beq_self_eq_true, cond_true, Bool.false_or, this]
    · rw [if_neg (fun h => hd h.2.1), decide_eq_false (show ¬ (0 ≤ d ∧ d ≤ 200000) from hd)]
      simp
  · rw [if_neg (fun h => hr h.1), decide_eq_false hr]
    simp

theorem m19_eq (c : T23) (d how : Int) : m19 c d how = some (adj c d how) := by
  unfold m19 adj
  rw [m15_eq, m25_eq]
  by_cases hr : RightC c
  · rw [decide_eq_true hr]
    by_cases hd : Dy d
    · rw [decide_eq_true (show 0 ≤ d ∧ d ≤ 200000 from hd)]
      by_cases hh : 0 ≤ how ∧ how < 4
      · rw [if_pos ⟨hr, hd, hh⟩]
        have h1 : decide (how < 0) = false := decide_eq_false (by omega)
        have h2 : decide (how ≥ 4) = false := decide_eq_false (by omega)
        simp only [Option.bind_some, Bool.not_true, beq_self_eq_true, cond_true, h1, h2, Bool.or_false, cond_false, cont_eq]
        simp only [m26_eq c hr, m34_eq]
        rw [m32_up c hr d hd.1, m32_dn c hr d (by have := hd.1; omega) hd.2]
        obtain ⟨dd, ed, _⟩ := m22_ym hd
        unfold adjS
        rcases up_spec c d with ⟨x, e, g1, g2, g3, g4⟩ | ⟨e, g⟩
        · rw [e]
          have hx : Dy x := ⟨by have := hd.1; omega, g2⟩
          obtain ⟨dx, ex, _⟩ := m22_ym hx
          have hm := mon_iff hx hd
          rcases (show how = 0 ∨ how = 1 ∨ how = 2 ∨ how = 3 by omega) with rfl | rfl | rfl | rfl
          · rfl
          · rfl
          · simp only [Option.bind_some, ed, ex]
            by_cases q1 : (ym x).1 = (ym d).1
            · by_cases q2 : (ym x).2 = (ym d).2
              · simp [hm.2 ⟨q1, q2⟩, q1, q2]
              · have : mon x ≠ mon d := fun h => q2 (hm.1 h).2
                have hb : ((ym d).2 == (ym x).2) = false := by simpa using Ne.symm q2
                simp [this, q1, q2, hb]
            · have : mon x ≠ mon d := fun h => q1 (hm.1 h).1
              have hb : ((ym d).1 == (ym x).1) = false := by simpa using Ne.symm q1
              simp [this, q1, hb]
          · simp only [Option.bind_some, ed, ex]
            rfl
        · rw [e]
          obtain ⟨dx, ex, _⟩ := m22_ym (d := 0) ⟨by omega, by omega⟩
          rcases (show how = 0 ∨ how = 1 ∨ how = 2 ∨ how = 3 by omega) with rfl | rfl | rfl | rfl
          · rfl
          · rfl
          · simp [ed, ex]
          · simp [ed, ex]
      · rw [if_neg (fun h => hh h.2.2)]
        have : (decide (how < 0) || decide (how ≥ 4)) = true := by
          by_cases h1 : how < 0
          · simp [h1]
          · simp; omega
        simp only [Option.bind_some, Bool.not_true, beq_self_eq_true, cond_true, Bool.false_or, this]
    · rw [if_neg (fun h => hd h.2.1), decide_eq_false (show ¬ (0 ≤ d ∧ d ≤ 200000) from hd)]
      simp
  · rw [if_neg (fun h => hr h.1), decide_eq_false hr]
    simp

def nxt (c : T23) (d : Int) : Int × Int × Unit := if RightC c ∧ Dy d then up c d else (0, 1, ())
def bfr (c : T23) (d : Int) : Int × Int × Unit := if RightC c ∧ Dy d then dn c d else (0, 1, ())

theorem adj_1 (c : T23) (d : Int) : adj c d 1 = nxt c d := by
  unfold adj nxt adjS; simp
theorem adj_3 (c : T23) (d : Int) : adj c d 3 = bfr c d := by
  unfold adj bfr adjS; simp

theorem m10_eq (c : T23) (d : Int) : m10 c d = some (nxt c d) := by
  unfold m10; rw [m18_eq, adj_1]; rfl
theorem m12_eq (c : T23) (d : Int) : m12 c d = some (bfr c d) := by
  unfold m12; rw [m18_eq, adj_3]; rfl
theorem m11_eq (c : T23) (d : Int) : m11 c d = some (nxt c d) := by
  unfold m11 nxt
  rw [m15_eq, m25_eq]
  by_cases hr : RightC c
  · by_cases hd : Dy d
    · rw [if_pos ⟨hr, hd⟩, m26_eq c hr, m32_up c hr d hd.1, decide_eq_true hr, decide_eq_true (show 0 ≤ d ∧ d ≤ 200000 from hd)]; rfl
    · rw [if_neg (fun h => hd h.2), decide_eq_true hr, decide_eq_false (show ¬ (0 ≤ d ∧ d ≤ 200000) from hd)]; rfl
  · rw [if_neg (fun h => hr h.1), decide_eq_false hr]; rfl
theorem m13_eq (c : T23) (d : Int) : m13 c d = some (bfr c d) := by
  unfold m13 bfr
  rw [m15_eq, m25_eq]
  by_cases hr : RightC c
  · by_cases hd : Dy d
    · rw [if_pos ⟨hr, hd⟩, m26_eq c hr, m32_dn c hr d (by have := hd.1; omega) hd.2, decide_eq_true hr, decide_eq_true (show 0 ≤ d ∧ d ≤ 200000 from hd)]; rfl
    · rw [if_neg (fun h => hd h.2), decide_eq_true hr, decide_eq_false (show ¬ (0 ≤ d ∧ d ≤ 200000) from hd)]; rfl
  · rw [if_neg (fun h => hr h.1), decide_eq_false hr]; rfl

/-- So many business days before. -/
def bkN (c : T23) : Nat → Int → Int × Int × Unit
  | 0, d => (d, 0, ())
  | n + 1, d => if (dn c (d - 1)).2.1 = 0 then bkN c n (dn c (d - 1)).1 else (0, 3, ())

def bk (c : T23) (d n : Int) : Int × Int × Unit := if RightC c ∧ Dy d ∧ 0 ≤ n ∧ n ≤ 1000 then bkN c n.toNat d else (0, 1, ())

theorem l20_eq {R : Type} (c : T23) (hr : RightC c) (k : Int) (hk : k ≤ 1000) (k1 k2 : Int → Option R) : ∀ (n m : Nat) (d i : Int), 0 ≤ i → (k - i).toNat = m → i ≤ k → m < n → Dy d →
    l20_1 k c k1 k2 n d i = bif (bkN c m d).2.1 == 0 then k1 (bkN c m d).1 else k2 3
  | 0, _, _, _, _, _, _, hm, _ => by omega
  | n + 1, m, d, i, hi, he, hik, hm, hd => by
    unfold l20_1 s20_1
    have h0 := hd.1
    have h1 := hd.2
    by_cases h : i < k
    · obtain ⟨m', rfl⟩ : ∃ m', m = m' + 1 := ⟨m - 1, by omega⟩
      rw [decide_eq_true h, wrapI (x := d - 1) (by omega) (by omega), m32_dn c hr _ (by omega) (by omega), wrapI (by omega) (by omega)]
      unfold bkN
      rcases dn_spec c (d - 1) with ⟨x, e, g1, g2, g3, g4⟩ | ⟨e, g⟩
      · rw [e]
        simp only [Option.bind_some, cond_true, bne_same, cond_false, if_true]
        exact l20_eq c hr k hk k1 k2 n m' x (i + 1) (by omega) (by omega) (by omega) (by omega) ⟨g2, by omega⟩
      · rw [e]; rfl
    · have : m = 0 := by omega
      subst this
      rw [decide_eq_false h]
      rfl

theorem bkN_spec (c : T23) : ∀ (m : Nat) (d : Int), Dy d → (∃ x, bkN c m d = (x, 0, ()) ∧ 0 ≤ x ∧ x ≤ d) ∨ bkN c m d = (0, 3, ())
  | 0, d, h => Or.inl ⟨d, rfl, h.1, by omega⟩
  | m + 1, d, h => by
    unfold bkN
    have h1 := h.2
    rcases dn_spec c (d - 1) with ⟨x, e, g1, g2, g3, g4⟩ | ⟨e, g⟩
    · rw [e]
      simp only [if_true]
      rcases bkN_spec c m x ⟨g2, by omega⟩ with ⟨z, e', q1, q2⟩ | e'
      · exact Or.inl ⟨z, e', q1, by omega⟩
      · exact Or.inr e'
    · rw [e]; exact Or.inr rfl

theorem m20_eq (c : T23) (d n : Int) : m20 c d n = some (bk c d n) := by
  unfold m20 bk
  rw [m14_eq, m29_eq]
  by_cases hr : RightC c
  · rw [decide_eq_true hr]
    by_cases hd : Dy d
    · rw [decide_eq_true (show 0 ≤ d ∧ d ≤ 200000 from hd)]
      by_cases hh : 0 ≤ n ∧ n ≤ 1000
      · rw [if_pos ⟨hr, hd, hh⟩]
        have h1 : decide (n < 0) = false := decide_eq_false (by omega)
        have h2 : decide (n > 1000) = false := decide_eq_false (by omega)
        simp only [Option.bind_some, Bool.not_true, beq_self_eq_true, cond_true, h1, h2, Bool.or_false, cond_false]
        rw [l20_eq c hr n hh.2 _ _ FUEL n.toNat d 0 (by omega) (by omega) hh.1 (fuel_lt (by omega)) hd]
        rcases bkN_spec c n.toNat d hd with ⟨x, e, _⟩ | e <;> rw [e] <;> rfl
      · rw [if_neg (fun h => hh h.2.2)]
        have : (decide (n < 0) || decide (n > 1000)) = true := by
          by_cases h1 : n < 0
          · simp [h1]
          · simp; omega
        simp only [Option.bind_some, Bool.not_true, beq_self_eq_true, cond_true, Bool.false_or, this]
    · rw [if_neg (fun h => hd h.2.1), decide_eq_false (show ¬ (0 ≤ d ∧ d ≤ 200000) from hd)]
      simp
  · rw [if_neg (fun h => hr h.1), decide_eq_false hr]
    simp

theorem l21_eq {R : Type} (c : T23) (hr : RightC c) (k : Int) (k1 k2 : Int → Option R) : ∀ (n : Nat) (d i : Int), l21_1 k c k1 k2 n d i = l20_1 k c k1 k2 n d i
  | 0, _, _ => rfl
  | n + 1, d, i => by
    unfold l21_1 l20_1 s21_1 s20_1
    rw [m26_eq c hr, show l21_1 k c k1 k2 n = l20_1 k c k1 k2 n from funext fun d => funext fun i => l21_eq c hr k k1 k2 n d i]

theorem m21_eq (c : T23) (d n : Int) : m21 c d n = some (bk c d n) := by
  rw [← m20_eq]
  unfold m21 m20
  rw [m15_eq, m14_eq, m25_eq, m29_eq]
  by_cases hr : RightC c
  · rw [l21_eq c hr]
  · rw [decide_eq_false hr]; rfl

end Go.Proofs.Ytdobcidinpjkoaa
