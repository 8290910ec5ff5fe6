/- Plan: PlanCovers. -/
import Derived.Test.YtemammdmjpdmpaaT12
namespace Go.Proofs.Ytemammdmjpdmpaa
open Go Go.Eng
set_option linter.unusedVariables false
set_option linter.unusedSimpArgs false

theorem m23_eq (l w : List Int) (h : w.length ≤ 1000000) : m23 l w = some (w.isPrefixOf l) := by
  unfold m23
  have key : ∀ (i m j : Nat), j + i = w.length → i < m → l23_1 l w (some true) (some false) m (j : Int) = some ((w.drop j).isPrefixOf (l.drop j)) := by
    intro i
    induction i with
    | zero =>
      intro m j hj hm
      obtain ⟨m, rfl⟩ : ∃ a, m = a + 1 := ⟨m - 1, by omega⟩
      have : j = w.length := by omega
      subst this
      simp only [l23_1, s23_1, lt0, cond_false, List.drop_length]
      cases l.drop w.length <;> rfl
    | succ i ih =>
      intro m j hj hm
      obtain ⟨m, rfl⟩ : ∃ a, m = a + 1 := ⟨m - 1, by omega⟩
      have hjw : j < w.length := by omega
      have e1 : w[j]? = some w[j] := List.getElem?_eq_getElem hjw
      have d1 : w.drop j = w[j] :: w.drop (j + 1) := List.drop_eq_getElem_cons hjw
      simp only [l23_1, s23_1, lt1 hjw, cond_true]
      by_cases hjl : j < l.length
      · have e2 : l[j]? = some l[j] := List.getElem?_eq_getElem hjl
        have d2 : l.drop j = l[j] :: l.drop (j + 1) := List.drop_eq_getElem_cons hjl
        have e3 : decide ((j : Int) ≥ (List.length l : Int)) = false := decide_eq_false (by omega)
        simp only [e3, beq_self_eq_true, idxG_same true 0 e1, idxG_same true 0 e2, cond_true, Option.bind_some, Bool.false_or, wr1 (j := j) (by omega)]
        rw [d1, d2]
        cases hc : (l[j] != w[j]) with
        | true =>
          have : (w[j] == l[j]) = false := by
            simp only [bne_iff_ne, ne_eq] at hc
            simp only [beq_eq_false_iff_ne, ne_eq]
            exact fun e => hc e.symm
          simp only [cond_true, List.isPrefixOf, this, Bool.false_and]
        | false =>
          have : (w[j] == l[j]) = true := by
            simp only [bne_eq_false_iff_eq] at hc
            rw [hc]; simp
          simp only [cond_false, List.isPrefixOf, this, Bool.true_and]
          exact ih m (j + 1) (by omega) (by omega)
      · have e3 : decide ((j : Int) ≥ (List.length l : Int)) = true := decide_eq_true (by omega)
        have d2 : l.drop j = [] := List.drop_eq_nil_of_le (by omega)
        rw [e3, d1, d2]
        rfl
  exact key w.length FUEL 0 (by omega) (fuel_lt (by omega))

/-- Two choices of which the first comes before the second, at a place that both have. -/
def sib (a b : List Int) : Prop := ∃ (c : List Int) (i j : Nat), i < j ∧ c ++ [(i : Int)] <+: a ∧ c ++ [(j : Int)] <+: b
theorem sib_less {a b : List Int} (h : sib a b) : lessL a b = true := by
  obtain ⟨c, i, j, h1, h2, h3⟩ := h
  exact (less_sib h1 h2 h3).2
theorem sib_pre {c a b : List Int} {i j : Nat} (h : i ≠ j) (h2 : c ++ [(i : Int)] <+: a) (h3 : c ++ [(j : Int)] <+: b) : ¬ a <+: b := by
  intro h4
  have h5 := h2.trans h4
  have h6 := List.prefix_of_prefix_length_le h5 h3 (by simp)
  have h7 := h6.eq_of_length (by simp)
  have h8 := (List.append_cancel_left h7)
  simp only [List.cons.injEq, and_true] at h8
  omega
theorem sib_nopre {a b : List Int} (h : sib a b) : a.isPrefixOf b = false := by
  obtain ⟨c, i, j, h1, h2, h3⟩ := h
  cases h4 : a.isPrefixOf b with
  | false => rfl
  | true => exact absurd (List.isPrefixOf_iff_prefix.1 h4) (sib_pre (by omega) h2 h3)

theorem bnd_sorted (t : T24) (k : Int) : ∀ r c, (bnd t k r c).Pairwise (fun x y => sib x.1 y.1)
  | 0, c => by unfold bnd; cases decide (overC t c ≥ 0) <;> exact List.pairwise_singleton _ _
  | r + 1, c => by
    unfold bnd
    cases decide (overC t c ≥ 0) with
    | true => exact List.pairwise_singleton _ _
    | false =>
      cases decide (floorC t c ≥ k) with
      | true => exact List.pairwise_singleton _ _
      | false =>
        simp only [cond_false]
        have key : ∀ w, (catN (fun j => bnd t k r (c ++ [(j : Int)])) w).Pairwise (fun x y => sib x.1 y.1) ∧ ∀ b ∈ catN (fun j => bnd t k r (c ++ [(j : Int)])) w, ∃ i : Nat, i < w ∧ c ++ [(i : Int)] <+: b.1 := by
          intro w
          induction w with
          | zero => exact ⟨List.Pairwise.nil, fun b hb => by cases hb⟩
          | succ w ih =>
            simp only [catN]
            refine ⟨List.pairwise_append.2 ⟨ih.1, bnd_sorted t k r _, fun x hx y hy => ?_⟩, fun b hb => ?_⟩
            · obtain ⟨i, hi, hp⟩ := ih.2 x hx
              exact ⟨c, i, w, hi, hp, bnd_pre t k r _ y hy⟩
            · rcases List.mem_append.1 hb with hb | hb
              · obtain ⟨i, hi, hp⟩ := ih.2 b hb
                exact ⟨i, by omega, hp⟩
              · exact ⟨w, by omega, bnd_pre t k r _ b hb⟩
        exact (key _).1

/-- How many bounds are about a beginning of a choice. -/
def cntB (a : List Int) (l : List T42) : Nat := l.countP fun b => b.1.isPrefixOf a

theorem cnt_no {t : T24} {k : Int} {r : Nat} {c a : List Int} (h : ¬ c <+: a) : cntB a (bnd t k r c) = 0 := by
  unfold cntB
  rw [List.countP_eq_zero]
  intro b hb h2
  exact h ((bnd_pre t k r c b hb).trans (List.isPrefixOf_iff_prefix.1 h2))

theorem cnt_one {t : T24} {k : Int} {a : List Int} (hv : vC t a) (ha : a.length = t.1.length) : ∀ r c, c <+: a → c.length + r = t.1.length → cntB a (bnd t k r c) = 1
  | 0, c, hp, _ => by
    have e : c.isPrefixOf a = true := List.isPrefixOf_iff_prefix.2 hp
    unfold bnd cntB
    cases decide (overC t c ≥ 0) <;> simp [e]
  | r + 1, c, hp, hc => by
    have e : c.isPrefixOf a = true := List.isPrefixOf_iff_prefix.2 hp
    unfold bnd
    cases decide (overC t c ≥ 0) with
    | true => simp [cntB, e]
    | false =>
      cases decide (floorC t c ≥ k) with
      | true => simp [cntB, e]
      | false =>
        simp only [cond_false]
        obtain ⟨j, hj, hpj⟩ := pre_next hp hv ha (by omega)
        have key : ∀ w, cntB a (catN (fun j => bnd t k r (c ++ [(j : Int)])) w) = if j < w then 1 else 0 := by
          intro w
          induction w with
          | zero => rfl
          | succ w ih =>
            have e2 : cntB a (catN (fun j => bnd t k r (c ++ [(j : Int)])) (w + 1)) = cntB a (catN (fun j => bnd t k r (c ++ [(j : Int)])) w) + cntB a (bnd t k r (c ++ [(w : Int)])) := by
              simp only [catN, cntB, List.countP_append]
            rw [e2, ih]
            by_cases e3 : j = w
            · subst e3
              rw [if_neg (Nat.lt_irrefl _), if_pos (Nat.lt_succ_self _), cnt_one hv ha r _ hpj (by simp; omega)]
            · have : ¬ c ++ [(w : Int)] <+: a := by
                intro h2
                have h6 := (List.prefix_of_prefix_length_le hpj h2 (by simp)).eq_of_length (by simp)
                have h8 := List.append_cancel_left h6
                simp only [List.cons.injEq, and_true] at h8
                omega
              rw [cnt_no this]
              by_cases e4 : j < w
              · rw [if_pos e4, if_pos (by omega)]
              · rw [if_neg e4, if_neg (by omega)]
        rw [key, if_pos hj]

theorem bnd_mem {t : T24} {k : Int} (hk : minK t k) : ∀ r c b, vC t c → c.length + r = t.1.length → b ∈ bnd t k r c →
    (b.2.2.1 = -1 ∧ b.2.1 = floorC t b.1 ∧ k ≤ b.2.1) ∨ (0 ≤ overC t b.1 ∧ b.2.2.1 = overC t b.1 ∧ b.2.1 = 0)
  | 0, c, b, hv, hc, h => by
    unfold bnd at h
    cases h1 : decide (overC t c ≥ 0) with
    | true => rw [h1] at h; simp only [cond_true, List.mem_singleton] at h; subst h; exact .inr ⟨of_decide_eq_true h1, rfl, rfl⟩
    | false =>
      rw [h1] at h
      simp only [cond_false, List.mem_singleton] at h
      subst h
      have ho : overC t c = -1 := by have := of_decide_eq_false h1; rcases over_cases t c with h | h <;> omega
      exact .inl ⟨rfl, rfl, hk c hv (by omega) ho⟩
  | r + 1, c, b, hv, hc, h => by
    unfold bnd at h
    cases h1 : decide (overC t c ≥ 0) with
    | true => rw [h1] at h; simp only [cond_true, List.mem_singleton] at h; subst h; exact .inr ⟨of_decide_eq_true h1, rfl, rfl⟩
    | false =>
      rw [h1] at h
      cases h2 : decide (floorC t c ≥ k) with
      | true => rw [h2] at h; simp only [cond_true, cond_false, List.mem_singleton] at h; subst h; exact .inl ⟨rfl, rfl, of_decide_eq_true h2⟩
      | false =>
        rw [h2] at h
        simp only [cond_false] at h
        have key : ∀ w, w ≤ wid t c → b ∈ catN (fun j => bnd t k r (c ++ [(j : Int)])) w → (b.2.2.1 = -1 ∧ b.2.1 = floorC t b.1 ∧ k ≤ b.2.1) ∨ (0 ≤ overC t b.1 ∧ b.2.2.1 = overC t b.1 ∧ b.2.1 = 0) := by
          intro w
          induction w with
          | zero => intro _ h; cases h
          | succ w ih =>
            intro hw h
            rcases List.mem_append.1 h with h | h
            · exact ih (by omega) h
            · exact bnd_mem hk r _ b (vC_app hv (by omega) hw) (by simp; omega) h
        exact key _ (Nat.le_refl _) h

theorem ord_step {R : Type} {P : List T42} (hP : P.Pairwise (fun x y => sib x.1 y.1)) (hl : P.length ≤ 1000000) (hs : ∀ b ∈ P, b.1.length ≤ 1000000) {j : Nat} {x : T42} (hx : P[j]? = some x) (k2 rest : Option R) :
    ((idxG ((decide ((j : Int) > 0)) == true) (([] : (List Int)), 0, 0, ()) P (IntKind.i64.wrap ((j : Int) - 1))).bind fun x7 =>
      (bif ((decide ((j : Int) > 0)) == true) then (m20 x7.1 x.1) else some false).bind fun r8 =>
      (idxG (((decide ((j : Int) > 0)) == true) && ((!r8) == false)) (([] : (List Int)), 0, 0, ()) P (IntKind.i64.wrap ((j : Int) - 1))).bind fun x9 =>
      (bif (((decide ((j : Int) > 0)) == true) && ((!r8) == false)) then (m23 x.1 x9.1) else some false).bind fun r10 =>
      bif ((decide ((j : Int) > 0)) && ((!r8) || r10)) then k2 else rest) = rest := by
  have hj := (List.getElem?_eq_some_iff.1 hx).1
  cases j with
  | zero => rfl
  | succ i =>
    have hi : P[i]? = some P[i] := List.getElem?_eq_getElem (by omega)
    have hxe : P[i + 1] = x := (List.getElem?_eq_some_iff.1 hx).2
    have hR : sib P[i].1 x.1 := by
      have := List.pairwise_iff_getElem.1 hP i (i + 1) (by omega) hj (by omega)
      rw [hxe] at this
      exact this
    have e1 : decide (((i + 1 : Nat) : Int) > 0) = true := decide_eq_true (by omega)
    have e2 : IntKind.i64.wrap (((i + 1 : Nat) : Int) - 1) = (i : Int) := by
      rw [show ((i + 1 : Nat) : Int) - 1 = (i : Int) by omega]; exact wrapI (by omega) (by omega)
    have h1 := hs _ (List.mem_of_getElem? hi)
    simp only [e1, e2, beq_self_eq_true, cond_true, idxG_same true _ hi, Option.bind_some, m20_eq _ x.1 h1, sib_less hR, Bool.not_true, Bool.and_self, m23_eq x.1 _ h1, sib_nopre hR, Bool.or_self, Bool.and_false, cond_false]

theorem planCovers (t : T24) (a : List Int) : m6 t a = some true := by
  unfold m6
  simp only [m8_eq, m9_eq, Option.bind_some]
  cases hf : fewC t [] with
  | false => rfl
  | true =>
    obtain ⟨h5, h6, h7⟩ := few_of hf
    cases ha : ((List.length a : Int) != (List.length t.1 : Int)) with
    | true => rfl
    | false =>
      have ha : a.length = t.1.length := by simp only [bne_eq_false_iff_eq] at ha; omega
      simp only [Bool.not_true, Bool.or_self, cond_false, m10_eq t h5, Option.bind_some]
      rcases best_cases t with ⟨hr, e⟩ | ⟨hr, hn, e⟩ | ⟨hr, hfe, hc, hmin, hm, e⟩
      · rw [e]; rfl
      · rw [e]; rfl
      · have g := good_of hr
        have hy := g.y
        obtain ⟨b1, b2, b3⟩ := best_small h5
        rw [e] at b1 b2 b3 ⊢
        simp only at b1 b2 b3
        simp only [bne_self_eq_false, beq_self_eq_true, cond_true, m21_eq g, Option.bind_some, Bool.false_or]
        cases hch : (decide (a.length ≤ t.1.length) && chC t a) with
        | false => rfl
        | true =>
          have hv : vC t a := (chC_vC (by omega)).1 (Bool.and_eq_true_iff.1 hch).2
          simp only [Bool.not_true, cond_false, m22_eq g hv, Option.bind_some]
          have hsort := bnd_sorted t (srch t).2 t.1.length []
          have hcnt : cntB a (bnd t (srch t).2 t.1.length []) = 1 := cnt_one hv ha t.1.length [] List.nil_prefix (by simp)
          have hmem : ∀ b ∈ bnd t (srch t).2 t.1.length [], _ := fun b hb => bnd_mem hm t.1.length [] b (vC_nil t) (by simp) hb
          generalize bnd t (srch t).2 t.1.length [] = P at *
          generalize (srch t).2 = k at *
          have h0 : ((0 : Nat) : Int) = (cntB a (P.take 0) : Int) := rfl
          refine (seq_loop (R := Bool) (S := Int) P.length (fun j => (cntB a (P.take j) : Int)) (fun m j q => l6_2 a k P (floorC t a) t (fun y22 => some (true && (y22 == 1))) (some false) m q j) (fun q => some (true && (q == 1))) (by omega) ?_ ?_).trans ?_
          · intro m j hj
            have hx : P[j]? = some P[j] := List.getElem?_eq_getElem hj
            have hxm : P[j] ∈ P := List.getElem_mem hj
            have hnext : cntB a (P.take (j + 1)) = cntB a (P.take j) + bif P[j].1.isPrefixOf a then 1 else 0 := by
              rw [List.take_add_one, hx]
              simp only [Option.toList_some, cntB, List.countP_append, List.countP_singleton]
              cases P[j].1.isPrefixOf a <;> rfl
            have hle : cntB a (P.take j) ≤ P.length := by
              refine Nat.le_trans List.countP_le_length ?_
              rw [List.length_take]; omega
            simp only [l6_2, s6_2, lt1 hj, cond_true, wr1 (j := j) (by omega)]
            refine (cont_eq (cntB a (P.take (j + 1)) : Int) fun k18 => ?_).trans rfl
            simp only [idx_nat, hx, Option.bind_some]
            refine (ord_step hsort (by omega) (fun b hb => by have := b3 b hb; omega) hx _ _).trans ?_
            rw [m23_eq a _ (by have := b3 _ hxm; omega)]
            simp only [Option.bind_some]
            have hw : IntKind.i64.wrap ((cntB a (P.take j) : Int) + 1) = ((cntB a (P.take j) + 1 : Nat) : Int) := by
              rw [wrapI (by omega) (by omega)]; omega
            cases hpre : P[j].1.isPrefixOf a with
            | false =>
              rw [hpre] at hnext
              simp only [Bool.not_false, cond_true, hnext, cond_false, Nat.add_zero]
            | true =>
              rw [hpre] at hnext
              have hp := List.isPrefixOf_iff_prefix.1 hpre
              simp only [Bool.not_true, cond_false, cond_true] at hnext ⊢
              rw [hw, ← hnext]
              rcases hmem _ hxm with ⟨i1, i2, i3⟩ | ⟨i1, i2, i3⟩
              · have hfl := floor_mono g hp hv ha
                have e1 : (P[j].2.2.1 == -1) = true := by rw [i1]; rfl
                rw [e1, decide_eq_false (p := floorC t a < P[j].2.1) (by omega), decide_eq_false (p := P[j].2.1 < k) (by omega)]
                rfl
              · have e1 : (P[j].2.2.1 == -1) = false := by simp only [beq_eq_false_iff_ne, ne_eq]; omega
                rw [e1]
                simp only [cond_false]
                refine Eq.trans (due_loop g hv P[j].2.2.1 (fun m q i => l6_1 a t P[j] _ m q i) _ (fun m q i => rfl)) ?_
                rcases overG_bd (brk t P[j].1) t.2.1.length 0 with q1 | ⟨q1, q2, q3⟩
                · have q1 : overC t P[j].1 = -1 := q1
                  omega
                · have q2 : overC t P[j].1 < ((0 + t.2.1.length : Nat) : Int) := q2
                  have q3 : brk t P[j].1 (overC t P[j].1).toNat = true := q3
                  obtain ⟨y, hy⟩ := Int.eq_ofNat_of_zero_le i1
                  rw [hy] at i2 q2 q3
                  rw [i2, i3]
                  have hy2 : y < t.2.1.length := by omega
                  simp only [brk, Int.toNat_natCast, decide_eq_true_eq] at q3
                  have hdm := due_mono g hp hv (y : Int)
                  rw [decide_eq_false (p := (y : Int) < 0) (by omega), decide_eq_false (p := (y : Int) ≥ (t.2.1.length : Int)) (by omega)]
                  simp only [Bool.or_self, beq_self_eq_true, idxG_same true 0 (get_of_lt hy2 0), cond_true, Option.bind_some, Bool.false_or, bne_self_eq_false, Bool.or_false]
                  rw [decide_eq_false (p := dueS t a (y : Int) ≤ t.2.1.getD y 0) (by omega)]
                  rfl
          · intro m
            simp only [l6_2, s6_2, lt0, cond_false]
          · simp only [List.take_length, hcnt]
            rfl

end Go.Proofs.Ytemammdmjpdmpaa
