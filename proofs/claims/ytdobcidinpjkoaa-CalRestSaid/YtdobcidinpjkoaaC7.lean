/- CalMoves, CalOrder: the plain laws. -/
import Derived.Test.YtdobcidinpjkoaaC6
namespace Go.Proofs.Ytdobcidinpjkoaa
open Go Go.Eng
set_option linter.unusedVariables false
set_option linter.unusedSimpArgs false

theorem busS_op {c : T23} (hr : RightC c) {d : Int} (hd : Dy d) : busS c d = op c d := by
  unfold busS; rw [decide_eq_true hr, decide_eq_true hd]; rfl

theorem l4_eq (c : T23) (A B : Int) (hA : 0 ≤ A) (hB : B ≤ 200001) (k1 : Option Bool) (hk : k1 = some true) (hno : ∀ y, A ≤ y → y < B → busS c y = false) : ∀ (n : Nat) (j : Int), A ≤ j → (B - j).toNat < n →
    l4_1 true A B c k1 (fun y => some y) n j = some true
  | 0, _, _, h => by omega
  | n + 1, j, hj, hn => by
    unfold l4_1 s4_1
    by_cases h : j < B
    · rw [decide_eq_true h, m16_eq, hno j hj h, wrapI (x := j - A) (by omega) (by omega)]
      simp only [Option.bind_some, cond_true, Bool.false_or, Bool.true_and]
      by_cases g : j - A > 200
      · rw [decide_eq_true g]; rfl
      · rw [decide_eq_false g, cond_false, wrapI (by omega) (by omega)]
        exact l4_eq c A B hA hB k1 hk hno n (j + 1) (by omega) (by omega)
    · rw [decide_eq_false h, hk]; rfl

theorem m23_eq {d : Int} (hd : Dy d) (y m : Int) : m23 d y m = some (((ym d).1 == y) && ((ym d).2 == m)) := by
  obtain ⟨dd, e, _⟩ := m22_ym hd
  unfold m23
  rw [e]
  simp

theorem calMoves (c : T23) (d : Int) : m4 c d = some true := by
  unfold m4
  simp only [m8_eq, m9_eq, Option.bind_some, m14_eq]
  cases (decide ((List.length c.1 : Int) ≤ 20) && decide ((List.length c.2.1 : Int) ≤ 20)) with
  | false => rfl
  | true =>
    by_cases hr : RightC c
    case neg => rw [decide_eq_false hr]; rfl
    by_cases hd : Dy d
    case neg =>
      have : (decide (d < 0) || decide (d > 200000)) = true := by
        unfold Dy at hd
        by_cases h1 : d < 0
        · simp [h1]
        · simp; omega
      rw [decide_eq_true hr]
      simp [Bool.or_assoc, this]
    have d0 := hd.1
    have d1 := hd.2
    rw [decide_eq_true hr, decide_eq_false (show ¬ d < 0 by omega), decide_eq_false (show ¬ d > 200000 by omega)]
    simp only [Bool.not_true, beq_self_eq_true, cond_true, Option.bind_some, Bool.or_self, Bool.or_false, cond_false]
    simp only [m10_eq, m12_eq, m18_eq, m16_eq, adj_1, adj_3, nxt_ok hr hd, bfr_ok hr hd, adj_ok hr hd (how := 0) (by omega) (by omega), adj_ok hr hd (how := 2) (by omega) (by omega), Option.bind_some, bne_same, Bool.or_self, Bool.false_or]
    have e0 : adjS c d 0 = (d, 0, ()) := rfl
    have e2 : adjS c d 2 = if (up c d).2.1 = 0 ∧ mon (up c d).1 = mon d then up c d else dn c d := by
      unfold adjS; simp
    rw [e0, e2]
    obtain ⟨dd, ed, _⟩ := m22_ym hd
    have hF := FUEL_eq
    rcases up_spec c d with ⟨x, ex, x1, x2, x3, x4⟩ | ⟨ex, x4⟩
    · have hx : Dy x := ⟨by omega, x2⟩
      have hm := mon_iff hx hd
      have r10 : decide (x < d) = false := decide_eq_false (by omega)
      rcases dn_spec c d with ⟨z, ez, z1, z2, z3, z4⟩ | ⟨ez, z4⟩
      · have hz : Dy z := ⟨z2, by omega⟩
        have r11 : decide (z > d) = false := decide_eq_false (by omega)
        rw [ex, ez]
        simp only [bne_same, Bool.or_self, Bool.false_or, beq_self_eq_true, Bool.true_and, r10, r11, cond_true, Option.bind_some, busS_op hr hx, busS_op hr hz, x3, z3, Bool.not_true, Bool.or_false, Bool.false_and, cond_false, cont, Bool.and_true]
        by_cases hzx : z = x
        · subst hzx
          have : z = d := by omega
          subst this
          simp
        · have hb : (z == x) = false := by simpa using hzx
          rw [hb, cond_false, wrapI (x := z + 1) (by omega) (by omega)]
          refine l4_eq c (z + 1) x (by omega) (by omega) _ ?_ (fun y g1 g2 => ?_) FUEL (z + 1) (by omega) (fuel_lt (by omega))
          · rw [ed]
            simp only [Option.bind_some, m23_eq hx, beq_self_eq_true, Bool.and_true, Bool.true_and]
            by_cases q : mon x = mon d
            · have := hm.1 q
              simp [q, this.1, this.2]
            · have : (((ym x).1 == (ym d).1) && ((ym x).2 == (ym d).2)) = false := by
                rw [Bool.eq_false_iff]
                intro h
                simp only [Bool.and_eq_true, beq_iff_eq] at h
                exact q (hm.2 h)
              rw [this]
              simp [q]
          · rw [busS_op hr ⟨by omega, by omega⟩]
            by_cases q : y ≤ d
            · exact z4 y (by omega) q
            · exact x4 y (by omega) g2
      · rw [ex, ez]
        simp only [bne_same, Bool.or_self, Bool.false_or, beq_self_eq_true, Bool.true_and, r10, cond_true, Option.bind_some, busS_op hr hx, x3, Bool.not_true, Bool.or_false, Bool.false_and, cond_false, cont, Bool.and_true, show ((3 : Int) == 0) = false from rfl, show ((3 : Int) != 0) = true from rfl, Bool.and_false]
        refine l4_eq c 0 x (by omega) (by omega) _ ?_ (fun y g1 g2 => ?_) FUEL 0 (by omega) (fuel_lt (by omega))
        · rw [ed]
          simp only [Option.bind_some, m23_eq hx, beq_self_eq_true, Bool.and_true, Bool.true_and]
          by_cases q : mon x = mon d
          · have := hm.1 q
            simp [q, this.1, this.2]
          · have : (((ym x).1 == (ym d).1) && ((ym x).2 == (ym d).2)) = false := by
              rw [Bool.eq_false_iff]
              intro h
              simp only [Bool.and_eq_true, beq_iff_eq] at h
              exact q (hm.2 h)
            rw [this]
            simp [q]
        · rw [busS_op hr ⟨by omega, by omega⟩]
          by_cases q : y ≤ d
          · exact z4 y (by omega) q
          · exact x4 y (by omega) g2
    · rcases dn_spec c d with ⟨z, ez, z1, z2, z3, z4⟩ | ⟨ez, z4⟩
      · have hz : Dy z := ⟨z2, by omega⟩
        have r11 : decide (z > d) = false := decide_eq_false (by omega)
        rw [ex, ez]
        simp only [bne_same, Bool.or_self, Bool.false_or, beq_self_eq_true, Bool.true_and, r11, cond_true, Option.bind_some, busS_op hr hz, z3, Bool.not_true, Bool.or_false, Bool.false_and, cond_false, cont, Bool.and_true, show ((3 : Int) == 0) = false from rfl, show ((3 : Int) != 0) = true from rfl, Bool.and_false]
        rw [wrapI (x := z + 1) (by omega) (by omega)]
        refine l4_eq c (z + 1) 200001 (by omega) (by omega) _ ?_ (fun y g1 g2 => ?_) FUEL (z + 1) (by omega) (fuel_lt (by omega))
        · rw [ed]
          simp
        · rw [busS_op hr ⟨by omega, by omega⟩]
          by_cases q : y ≤ d
          · exact z4 y (by omega) q
          · exact x4 y (by omega) (by omega)
      · rw [ex, ez]
        simp only [bne_same, Bool.or_self, Bool.false_or, beq_self_eq_true, Bool.true_and, cond_true, Option.bind_some, Bool.not_true, Bool.or_false, Bool.false_and, cond_false, cont, Bool.and_true, show ((3 : Int) == 0) = false from rfl, show ((3 : Int) != 0) = true from rfl, Bool.and_false]
        refine l4_eq c 0 200001 (by omega) (by omega) _ ?_ (fun y g1 g2 => ?_) FUEL 0 (by omega) (fuel_lt (by omega))
        · rw [ed]
          simp
        · rw [busS_op hr ⟨by omega, by omega⟩]
          by_cases q : y ≤ d
          · exact z4 y (by omega) q
          · exact x4 y (by omega) (by omega)

theorem up_fix {c : T23} {x : Int} (hx : Dy x) (h : op c x = true) : up c x = (x, 0, ()) := up_of (by omega) hx.2 h (fun y h1 h2 => by omega)
theorem dn_fix {c : T23} {x : Int} (hx : Dy x) (h : op c x = true) : dn c x = (x, 0, ()) := dn_of (by omega) hx.1 h (fun y h1 h2 => by omega)

theorem adjS_fix {c : T23} {x how : Int} (hx : Dy x) (h : op c x = true) : adjS c x how = (x, 0, ()) := by
  unfold adjS
  rw [up_fix hx h, dn_fix hx h]
  simp

/-- Where a day is moved, once more. -/
theorem adjS_spec {c : T23} {d how : Int} (hd : Dy d) : adjS c d how = (0, 3, ()) ∨ (how = 0 ∧ adjS c d how = (d, 0, ())) ∨ ∃ x, Dy x ∧ op c x = true ∧ adjS c d how = (x, 0, ()) := by
  have d0 := hd.1
  have d1 := hd.2
  have hu : up c d = (0, 3, ()) ∨ ∃ x, Dy x ∧ op c x = true ∧ up c d = (x, 0, ()) := by
    rcases up_spec c d with ⟨x, ex, x1, x2, x3, x4⟩ | ⟨ex, x4⟩
    · exact Or.inr ⟨x, ⟨by omega, x2⟩, x3, ex⟩
    · exact Or.inl ex
  have hn : dn c d = (0, 3, ()) ∨ ∃ x, Dy x ∧ op c x = true ∧ dn c d = (x, 0, ()) := by
    rcases dn_spec c d with ⟨x, ex, x1, x2, x3, x4⟩ | ⟨ex, x4⟩
    · exact Or.inr ⟨x, ⟨x2, by omega⟩, x3, ex⟩
    · exact Or.inl ex
  unfold adjS
  by_cases h0 : how = 0
  · exact Or.inr (Or.inl ⟨h0, by rw [if_pos h0]⟩)
  rw [if_neg h0]
  split
  · rcases hu with h | h
    · exact Or.inl h
    · exact Or.inr (Or.inr h)
  split
  · rcases hu with h | h
    · exact Or.inl h
    · exact Or.inr (Or.inr h)
  · rcases hn with h | h
    · exact Or.inl h
    · exact Or.inr (Or.inr h)

theorem calOrder (c : T23) (a b how : Int) : m5 c a b how = some true := by
  unfold m5
  simp only [m8_eq, m9_eq, Option.bind_some, m14_eq]
  cases (decide ((List.length c.1 : Int) ≤ 20) && decide ((List.length c.2.1 : Int) ≤ 20)) with
  | false => rfl
  | true =>
    by_cases hr : RightC c
    case neg => rw [decide_eq_false hr]; rfl
    by_cases hd : 0 ≤ a ∧ a ≤ b ∧ b ≤ 200000
    case neg =>
      have : ((decide (a < 0) || decide (a > b)) || decide (b > 200000)) = true := by
        by_cases h1 : a < 0
        · simp [h1]
        · by_cases h2 : a > b
          · simp [h2]
          · simp; omega
      rw [decide_eq_true hr]
      simp only [Bool.not_true, beq_self_eq_true, cond_true, Option.bind_some, Bool.or_self, Bool.false_or, cond_false, this]
    have ha : Dy a := ⟨hd.1, by omega⟩
    have hb : Dy b := ⟨by omega, hd.2.2⟩
    rw [decide_eq_true hr, decide_eq_false (show ¬ a < 0 by omega), decide_eq_false (show ¬ b > 200000 by omega), decide_eq_false (show ¬ a > b by omega)]
    simp only [Bool.not_true, beq_self_eq_true, cond_true, Option.bind_some, Bool.or_self, Bool.or_false, cond_false]
    simp only [m10_eq, m12_eq, m18_eq, nxt_ok hr ha, bfr_ok hr ha, nxt_ok hr hb, bfr_ok hr hb, Option.bind_some]
    have e1 : (((up c b).2.1 == 0) && (((up c a).2.1 != 0) || (decide ((up c a).1 > (up c b).1)))) = false := by
      rcases up_spec c b with ⟨x, ex, x1, x2, x3, x4⟩ | ⟨ex, x4⟩
      · rcases up_spec c a with ⟨z, ez, z1, z2, z3, z4⟩ | ⟨ez, z4⟩
        · rw [ex, ez]
          have : z ≤ x := by
            by_cases h : z ≤ x
            · exact h
            · have := z4 x (by omega) (by omega); simp_all
          simp [this]
        · have := z4 x (by omega) x2; simp_all
      · rw [ex]; rfl
    have e2 : (((dn c a).2.1 == 0) && (((dn c b).2.1 != 0) || (decide ((dn c a).1 > (dn c b).1)))) = false := by
      rcases dn_spec c a with ⟨x, ex, x1, x2, x3, x4⟩ | ⟨ex, x4⟩
      · rcases dn_spec c b with ⟨z, ez, z1, z2, z3, z4⟩ | ⟨ez, z4⟩
        · rw [ex, ez]
          have : x ≤ z := by
            by_cases h : x ≤ z
            · exact h
            · have := z4 x (by omega) (by omega); simp_all
          simp [this]
        · have := z4 x x2 (by omega); simp_all
      · rw [ex]; rfl
    rw [e1, e2]
    simp only [Bool.or_self, cond_false, Bool.true_and]
    by_cases hh : 0 ≤ how ∧ how < 4
    · rw [adj_ok hr ha hh.1 hh.2]
      rcases adjS_spec (c := c) (how := how) ha with e | ⟨rfl, e⟩ | ⟨x, hx, h1, e⟩
      · rw [e]; rfl
      · rw [e, adj_ok hr ha hh.1 hh.2, e]; simp
      · rw [e, adj_ok hr hx hh.1 hh.2, adjS_fix hx h1]; simp
    · have : adj c a how = (0, 1, ()) := if_neg (fun h => hh h.2.2)
      rw [this]; rfl

end Go.Proofs.Ytdobcidinpjkoaa
