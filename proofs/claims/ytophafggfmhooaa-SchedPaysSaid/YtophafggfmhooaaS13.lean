/- SchedPays. -/
import Derived.Test.YtophafggfmhooaaS12
namespace Go.Proofs.Ytophafggfmhooaa
open Go Go.Eng
set_option linter.unusedVariables false
set_option linter.unusedSimpArgs false

theorem l8_1_eq {R : Type} (c : T32) (hr : RightC c) (v : T46) (hv : v.2.2.1 ≤ 200000) (k : Int → Option R) : ∀ (n m : Nat) (a j : Int), 0 ≤ j → (v.2.2.1 - j).toNat = m → j ≤ v.2.2.1 → 0 ≤ a → a + cntN c m j ≤ 50 → m < n →
    l8_1 c v k n a j = k (a + cntN c m j)
  | 0, _, _, _, _, _, _, _, _, h => by omega
  | n + 1, m, a, j, hj, he, hjd, ha, hc, hm => by
    unfold l8_1 s8_1
    by_cases h : j < v.2.2.1
    · obtain ⟨m', rfl⟩ : ∃ m', m = m' + 1 := ⟨m - 1, by omega⟩
      rw [cntN_succ] at hc ⊢
      have hb := cntN_b c m' (j + 1)
      have ha60 : a ≤ 60 := by
        by_cases g : op c j = true
        · rw [if_pos g] at hc; omega
        · rw [if_neg g] at hc; omega
      rw [decide_eq_true h, decide_eq_true ha60, m22_eq, busS_op hr ⟨hj, by omega⟩, wrapI (x := j + 1) (by omega) (by omega), wrapI (x := a + 1) (by omega) (by omega)]
      unfold cont
      by_cases g : op c j = true
      · rw [if_pos g] at hc ⊢
        rw [g]
        simp only [Option.bind_some, cond_true, Bool.and_self]
        rw [l8_1_eq c hr v hv k n m' (a + 1) (j + 1) (by omega) (by omega) (by omega) (by omega) (by omega) (by omega), Int.add_assoc]
      · have g' : op c j = false := by simpa using g
        rw [if_neg g] at hc ⊢
        rw [g']
        simp only [Option.bind_some, cond_true, cond_false, Bool.and_self]
        rw [l8_1_eq c hr v hv k n m' a (j + 1) (by omega) (by omega) (by omega) (by omega) (by omega) (by omega), Int.zero_add]
    · have : m = 0 := by omega
      subst this
      rw [decide_eq_false h]
      simp [cntN]

theorem l8_2_eq {R : Type} {x : T29} {c : T32} (hv : VX x) (hr : RightC c) {N : Nat} (hN : Num x N) (hE : ∀ i, i < N → perE x c i = 0) (hR : x.2.2.2.2.2.2.2.2.1 ≤ 50) (k1 k2 : Option R) : ∀ (n m j : Nat), j + m = N → m < n →
    l8_2 (pl x c N) x c k1 k2 n (j : Int) = k1
  | 0, _, _, _, h => by omega
  | n + 1, 0, j, hj, hm => by
    unfold l8_2 s8_2
    rw [decide_eq_false (by rw [pl_len]; omega)]
    rfl
  | n + 1, m + 1, j, hj, hm => by
    have hF := FUEL_eq
    have hle := hN.le
    obtain ⟨_, _, ⟨hA0, hA1⟩, ⟨hR0, hR1⟩⟩ := id hv
    obtain ⟨hp, hrec⟩ := pay_ok hE (show j < N by omega)
    have hpm : 0 < j → (pay x c (j - 1)).1 ≤ (pay x c j).1 := fun h => pay_mono hv hr hN hE (by omega) (by omega)
    have hpS := pay_adjS hv hr (x := x) (c := c) j
    have hD := bx_Dy hv (j + 1)
    rw [hp] at hpS
    unfold l8_2 s8_2
    rw [decide_eq_true (by rw [pl_len]; omega), pl_idx x c (by omega)]
    simp only [cond_true, Option.bind_some]
    have ig : ∀ (g : Bool), (g = true → 0 < j) → idxG g (0, 0, 0, 0, ()) (pl x c N) (IntKind.i64.wrap ((j : Int) - 1)) = some (bif g then perV x c (j - 1) else (0, 0, 0, 0, ())) := by
      intro g hg
      cases g with
      | false => rfl
      | true =>
        have := hg rfl
        rw [wrapI (by omega) (by omega), show (j : Int) - 1 = ((j - 1 : Nat) : Int) by omega, pl_idxG x c _ (fun _ => by omega)]
    have v1 : (perV x c j).2.1 = bx x (j + 1) := rfl
    have v2 : (perV x c j).2.2.1 = (pay x c j).1 := rfl
    have v3 : (perV x c j).2.2.2.1 = (rec' x c j).1 := rfl
    have v4 : (perV x c (j - 1)).2.2.1 = (pay x c (j - 1)).1 := rfl
    have hrd : rec' x c j = bk c (pay x c j).1 x.2.2.2.2.2.2.2.2.1 := rfl
    simp only [v1, v2, v3]
    generalize hA : x.2.2.2.2.2.2.2.1 = A at *
    generalize hRr : x.2.2.2.2.2.2.2.2.1 = rr at *
    generalize bx x (j + 1) = t at *
    generalize hpp : (pay x c j).1 = p at *
    generalize hqq : (rec' x c j).1 = q at *
    -- the day of payment
    have hpc : (A = 0 ∧ p = t) ∨ (A ≠ 0 ∧ Dy p ∧ op c p = true) := by
      rcases adjS_spec (c := c) (how := A) hD with e | ⟨h0, e⟩ | ⟨z, z1, z2, e⟩
      · rw [e] at hpS; simp at hpS
      · rw [e] at hpS
        exact Or.inl ⟨h0, congrArg Prod.fst hpS⟩
      · rw [e] at hpS
        have : p = z := congrArg Prod.fst hpS
        subst this
        by_cases h0 : A = 0
        · refine Or.inl ⟨h0, ?_⟩
          unfold adjS at e
          rw [if_pos h0] at e
          exact (congrArg Prod.fst e).symm
        · exact Or.inr ⟨h0, z1, z2⟩
    have hDp : Dy p := by
      rcases hpc with ⟨_, e⟩ | ⟨_, e, _⟩
      · rw [e]; exact hD
      · exact e
    have a1 : ((A == 0) && (p != t)) = false := by
      rcases hpc with ⟨_, e⟩ | ⟨e, _⟩
      · rw [e, bne_same, Bool.and_false]
      · rw [show (A == 0) = false by simpa using e, Bool.false_and]
    have a2 : ∀ b, (b = false → busS c p = true) → True := fun _ _ => trivial
    have hbus : A ≠ 0 → busS c p = true := by
      intro h
      rcases hpc with ⟨e, _⟩ | ⟨_, e1, e2⟩
      · exact absurd e h
      · rw [busS_op hr e1]; exact e2
    have a3 : ((A != 0) && (!(bif (A != 0) == true then busS c p else false))) = false := by
      by_cases h : A = 0
      · subst h; rfl
      · rw [hbus h, show (A != 0) = true by simpa using h]; rfl
    have a4 : ((A == 1) && decide (p < t)) = false := by
      by_cases h : A = 1
      · subst h
        have : adjS c t 1 = up c t := rfl
        rw [this] at hpS
        rcases up_spec c t with ⟨z, ez, z1, z2, z3, z4⟩ | ⟨ez, z4⟩
        · rw [ez] at hpS
          have : p = z := congrArg Prod.fst hpS
          rw [decide_eq_false (by omega), Bool.and_false]
        · rw [ez] at hpS; simp at hpS
      · rw [show (A == 1) = false by simpa using h, Bool.false_and]
    have a5 : ((A == 3) && decide (p > t)) = false := by
      by_cases h : A = 3
      · subst h
        have : adjS c t 3 = dn c t := by unfold adjS; simp
        rw [this] at hpS
        rcases dn_spec c t with ⟨z, ez, z1, z2, z3, z4⟩ | ⟨ez, z4⟩
        · rw [ez] at hpS
          have : p = z := congrArg Prod.fst hpS
          rw [decide_eq_false (by omega), Bool.and_false]
        · rw [ez] at hpS; simp at hpS
      · rw [show (A == 3) = false by simpa using h, Bool.false_and]
    rw [a1]
    simp only [beq_self_eq_true, Bool.true_and, Bool.false_or, m22_eq, bind_guard]
    rw [a3, a4, a5]
    simp only [beq_self_eq_true, Bool.true_and, Bool.false_or]
    rw [ig _ (fun h => by simp at h; omega)]
    simp only [Option.bind_some]
    have a6 : (decide ((j : Int) > 0) && decide (p < (bif decide ((j : Int) > 0) == true then perV x c (j - 1) else (0, 0, 0, 0, ())).2.2.1)) = false := by
      by_cases g : 0 < j
      · rw [decide_eq_true (show (j : Int) > 0 by omega)]
        simp only [beq_self_eq_true, cond_true, Bool.true_and, v4]
        have := hpm g
        exact decide_eq_false (by omega)
      · rw [decide_eq_false (show ¬ (j : Int) > 0 by omega)]; rfl
    rw [a6]
    simp only [cond_false]
    obtain ⟨dt, et, _⟩ := m19_ym hD
    obtain ⟨dp, ep, _⟩ := m19_ym hDp
    rw [et, ep, m23_eq, nxt_ok hr hD]
    simp only [Option.bind_some]
    have hcond : ∀ k : Option R, ((m19 (up c t).1).bind fun r10 => bif (((((A == 2) && ((up c t).2.1 == 0)) && ((ym t).1 == r10.1)) && ((ym t).2 == r10.2.1)) && ((((ym p).1 != (ym t).1) || ((ym p).2 != (ym t).2)) || (p != (up c t).1))) then k2 else k) = k := by
      intro k
      rcases up_spec c t with ⟨z, ez, z1, z2, z3, z4⟩ | ⟨ez, z4⟩
      · have hDz : Dy z := ⟨by have := hD.1; omega, z2⟩
        obtain ⟨dz, edz, _⟩ := m19_ym hDz
        rw [ez]
        simp only [edz, Option.bind_some]
        rw [bifF]
        by_cases g : A = 2 ∧ (ym t).1 = (ym z).1 ∧ (ym t).2 = (ym z).2
        · have hm := (mon_iff hDz hD).2 ⟨g.2.1.symm, g.2.2.symm⟩
          have : adjS c t A = (z, 0, ()) := by
            unfold adjS
            rw [if_neg (by omega), if_neg (by omega), if_pos ⟨g.1, by rw [ez], by rw [ez]; exact hm⟩, ez]
          rw [this] at hpS
          have : p = z := congrArg Prod.fst hpS
          subst this
          rw [g.2.1, g.2.2]
          simp
        · rw [Bool.eq_false_iff]
          intro h
          simp only [Bool.and_eq_true, beq_iff_eq] at h
          exact g ⟨h.1.1.1.1, h.1.1.2, h.1.2⟩
      · rw [ez]
        obtain ⟨dz, edz, _⟩ := m19_ym (d := 0) ⟨by omega, by omega⟩
        simp only [edz, Option.bind_some]
        rw [bifF]
        simp
    rw [hcond]
    -- the day of record
    rw [bk_ok hr hDp hR0 (by omega)] at hrd
    rw [hrec] at hrd
    obtain ⟨q0, q1, q2, q3⟩ := bkN_cnt c rr.toNat p q hDp hrd.symm
    have hp2 := hDp.2
    have hloop := l8_1_eq (R := R) c hr (perV x c j) (by rw [v2]; exact hp2) (fun y13 =>
            (bif ((((y13 != rr) || (decide (q > p))) == false) && ((decide (q < p)) == true)) then (some (busS c q)) else some false).bind fun r14 =>
            bif (((y13 != rr) || (decide (q > p))) || ((decide (q < p)) && (!r14))) then
              k2
            else
              l8_2 (pl x c N) x c k1 k2 n (IntKind.i64.wrap ((j : Int) + 1))) FUEL (p - q).toNat 0 q q0 (by rw [v2]) (by rw [v2]; exact q1) (by omega) (by omega) (fuel_lt (by omega))
    rw [q2, show (0 : Int) + (rr.toNat : Int) = rr by omega] at hloop
    simp only [bind_guard] at hloop ⊢
    refine Eq.trans hloop ?_
    rw [bne_same, decide_eq_false (show ¬ q > p by omega)]
    have hlast : (decide (q < p) && (!(bif ((false || false) == false) && (decide (q < p) == true) then busS c q else false))) = false := by
      by_cases g : q < p
      · have : 0 < rr.toNat := by
          by_cases g2 : rr.toNat = 0
          · rw [g2] at q2
            rw [g2] at hrd
            have : q = p := by
              have := congrArg Prod.fst hrd
              exact this
            omega
          · omega
        have hop := q3 this
        rw [decide_eq_true g, busS_op hr ⟨q0, by omega⟩, hop]
        rfl
      · rw [decide_eq_false g]; rfl
    simp only [Bool.false_or] at hlast ⊢
    rw [hlast, cond_false, wrapI (by omega) (by omega)]
    exact l8_2_eq hv hr hN hE (by omega) k1 k2 n m (j + 1) (by omega) (by omega)

theorem schedPays (x : T29) (c : T32) : m8 x c = some true := by
  unfold m8
  obtain ⟨b, hb, hR⟩ := m10_eq x c
  rw [m9_eq, hb]
  simp only [Option.bind_some]
  cases b with
  | false => rfl
  | true =>
    rcases m11_cases x c with ⟨N, hv, hr, hN, hE, e⟩ | ⟨e, he, h⟩
    · rw [e]
      have hF := FUEL_eq
      have hle := hN.le
      simp only [Option.bind_some, Bool.not_true, cond_false, bne_same]
      exact l8_2_eq hv hr hN hE (hR rfl) _ _ FUEL N 0 (by omega) (fuel_lt (by omega))
    · rw [h]
      have : (e != 0) = true := by simpa using he
      simp [this]

end Go.Proofs.Ytophafggfmhooaa
