/- Seats: the law of levels. -/
import Derived.Test.YtndflpanccagbaaB7
namespace Go.Proofs.Ytndflpanccagbaa
open Go Go.Eng
set_option linter.unusedVariables false
set_option linter.unusedSimpArgs false

theorem lev_le {S : List T35} : ∀ (i : Nat), Up S (i + 1) → lev S i ≤ i
  | i, hu => by
    have hP := hu i (by omega)
    rw [lev_eq hu]
    by_cases h : 0 ≤ P S i
    · rw [if_pos h]
      have := lev_le (P S i).toNat (fun k hk => hu k (by omega))
      omega
    · rw [if_neg h]; omega
termination_by i => i
decreasing_by omega

theorem l7_1_eq {R : Type} (S : List T35) (hL : S.length ≤ 30) (k : Bool → List Int → List Int → Option R) : ∀ (n j : Nat) (b : Bool) (o0 o1 : List Int), j ≤ S.length → S.length - j < n → o0.length = S.length → o1.length = S.length →
    (∀ i, i < j → At S i) → (b = true ↔ ∀ i, i < j → lev S i ≤ 4) → (∀ i, i < S.length → gI o0 i = if i < j then (lev S i : Int) else 0) → (∀ i, i < j → gI o1 i = (root S i : Int)) →
    ∃ b' p0 p1, p0.length = S.length ∧ p1.length = S.length ∧ (b' = true ↔ Right S) ∧ (Right S → ∀ i, i < S.length → gI p0 i = (lev S i : Int) ∧ gI p1 i = (root S i : Int)) ∧ l7_1 S k n b j o0 o1 = k b' p0 p1
  | 0, j, _, _, _, _, h, _, _, _, _, _, _ => by omega
  | n + 1, j, b, o0, o1, hj, hn, hl0, hl1, hA, hb, h0, h1 => by
    unfold l7_1 s7_1
    by_cases c : j = S.length
    · subst c
      rw [bifF (decide_eq_false (by omega))]
      refine ⟨b, o0, o1, hl0, hl1, hb.trans ⟨fun h => ⟨by omega, hA, h⟩, fun h => h.2.2⟩, fun hr i hi => ⟨by rw [h0 i hi, if_pos hi], h1 i hi⟩, rfl⟩
    · have hlt : j < S.length := by omega
      have hn1 : S.length - (j + 1) < n := by omega
      rw [bifT (decide_eq_true (by omega)), seat_idx hlt]
      simp only [Option.bind_some]
      have ig : ∀ g : Bool, idxG g (0, 0, ()) S (j : Int) = some (bif g then seat S j else (0, 0, ())) := by
        intro g
        unfold idxG
        rw [seat_idx hlt]
        cases g <;> rfl
      rw [ig]
      simp only [Option.bind_some]
      rw [ig]
      simp only [Option.bind_some]
      have e1 : (seat S j).1 = P S j := rfl
      have e2 : (seat S j).2.1 = O S j := rfl
      by_cases hAt : At S j
      · obtain ⟨q1, q2, q3, q4⟩ := hAt
        have hAt : At S j := ⟨q1, q2, q3, q4⟩
        rw [e1, decide_eq_false (show ¬ P S j < -1 by omega), decide_eq_false (show ¬ P S j ≥ j by omega)]
        simp only [Bool.or_self, beq_self_eq_true, cond_true, Bool.false_or]
        rw [e2, decide_eq_false (show ¬ O S j < -1 by omega)]
        simp only [Bool.or_self, beq_self_eq_true, cond_true, Bool.false_or]
        rw [e2, decide_eq_false (show ¬ O S j ≥ 60 by omega)]
        simp only [cond_false]
        have hu : Up S (j + 1) := fun i hi => by
          by_cases e : i = j
          · subst e; exact q2
          · exact (hA i (by omega)).2.1
        have ej : ((j : Int)).toNat = j := by omega
        rw [asrtP (fun _ => by simp; omega), ej, gI_get (show j < o1.length by omega)]
        simp only [Option.bind_some]
        have hlev := lev_eq hu
        have hroot := root_eq hu
        have key : ∃ p0 p1, p0.length = S.length ∧ p1.length = S.length ∧ (∀ i, i < S.length → gI p0 i = if i < j + 1 then (lev S i : Int) else 0) ∧ (∀ i, i < j + 1 → gI p1 i = (root S i : Int)) ∧
            ∀ k10 : ((List Int) × (List Int)) → Option R, (bif (decide (P S j ≥ 0)) then
            asrt true (decide (0 ≤ P S j) && decide (P S j < (List.length o0 : Int))) (
              ((o0)[(P S j : Int).toNat]?).bind fun x6 =>
              asrt true (decide (0 ≤ (j : Int)) && decide ((j : Int) < (List.length o0 : Int))) (
                ((o0)[j]?).bind fun x7 =>
                asrt true (decide (0 ≤ P S j) && decide (P S j < (List.length (List.set o1 j (j : Int)) : Int))) (
                  (((List.set o1 j (j : Int)))[(P S j : Int).toNat]?).bind fun x8 =>
                  asrt true (decide (0 ≤ (j : Int)) && decide ((j : Int) < (List.length (List.set o1 j (j : Int)) : Int))) (
                    (((List.set o1 j (j : Int)))[j]?).bind fun x9 =>
                    k10 ((List.set o0 j (IntKind.i64.wrap (x6 + 1))), (List.set (List.set o1 j (j : Int)) j x8))))))
          else
            k10 (o0, (List.set o1 j (j : Int)))) = k10 (p0, p1) := by
          by_cases hp0 : 0 ≤ P S j
          · have hpl : (P S j).toNat < S.length := by omega
            have hpj : (P S j).toNat < j := by omega
            refine ⟨o0.set j (lev S j), (o1.set j (j : Int)).set j (root S j), by simpa using hl0, by simpa using hl1, ?_, ?_, ?_⟩
            · intro i hi
              rw [gI_set (by omega)]
              by_cases e : i = j
              · subst e; rw [if_pos rfl, if_pos (by omega)]
              · rw [if_neg e, h0 i hi]
                by_cases e3 : i < j
                · rw [if_pos e3, if_pos (by omega)]
                · rw [if_neg e3, if_neg (by omega)]
            · intro i hi
              rw [gI_set (by simp; omega)]
              by_cases e : i = j
              · subst e; rw [if_pos rfl]
              · rw [if_neg e, gI_set (by omega), if_neg e, h1 i (by omega)]
            · intro k10
              have hll := lev_le (P S j).toNat (fun i hi => hu i (by omega))
              have hs : (o1.set j (j : Int)).length = o1.length := by simp
              rw [bifT (decide_eq_true (show P S j ≥ 0 from hp0)), asrtP (fun _ => by simp; omega), gI_get (by omega)]
              simp only [Option.bind_some]
              rw [asrtP (fun _ => by simp; omega), gI_get (by omega)]
              simp only [Option.bind_some]
              rw [asrtP (fun _ => by simp; omega), gI_get (by omega)]
              simp only [Option.bind_some]
              rw [asrtP (fun _ => by simp; omega), gI_get (by omega)]
              simp only [Option.bind_some]
              rw [gI_set (by omega), if_neg (by omega), h0 _ hpl, if_pos hpj, h1 _ hpj, wrapI (by omega) (by omega), hlev, if_pos hp0, hroot, if_pos hp0]
              rfl
          · refine ⟨o0, o1.set j (j : Int), hl0, by simpa using hl1, ?_, ?_, ?_⟩
            · intro i hi
              rw [h0 i hi]
              by_cases e3 : i < j
              · rw [if_pos e3, if_pos (by omega)]
              · rw [if_neg e3]
                by_cases e : i = j
                · subst e; rw [if_pos (by omega), hlev, if_neg hp0]; rfl
                · rw [if_neg (by omega)]
            · intro i hi
              rw [gI_set (by omega)]
              by_cases e : i = j
              · subst e; rw [if_pos rfl, hroot, if_neg hp0]
              · rw [if_neg e, h1 i (by omega)]
            · intro k10
              rw [bifF (decide_eq_false (show ¬ P S j ≥ 0 from hp0))]
        obtain ⟨p0, p1, a1, a2, a3, a4, a5⟩ := key
        rw [cont_eq (p0, p1) a5]
        simp only
        have hp0j : p0[j]? = some (lev S j : Int) := by rw [gI_get (by omega), a3 j hlt, if_pos (by omega)]
        have hbb : ∀ b' : Bool, b' = (b && decide ((lev S j : Int) ≤ 4)) → (b' = true ↔ ∀ i, i < j + 1 → lev S i ≤ 4) := by
          intro b' e
          subst e
          rw [Bool.and_eq_true, hb, decide_eq_true_eq]
          constructor
          · rintro ⟨h2, h3⟩ i hi
            by_cases e : i = j
            · subst e; omega
            · exact h2 i (by omega)
          · intro h2
            exact ⟨fun i hi => h2 i (by omega), by have := h2 j (by omega); omega⟩
        rw [wrapI (x := (j : Int) + 1) (by omega) (by omega)]
        have hAn : ∀ i, i < j + 1 → At S i := fun i hi => by
          by_cases e : i = j
          · subst e; exact hAt
          · exact hA i (by omega)
        cases hbt : b with
        | true =>
          simp only [beq_self_eq_true, cond_true]
          rw [asrtP (fun _ => by simp; omega), hp0j]
          simp only [Option.bind_some, Bool.true_and]
          exact l7_1_eq S hL k n (j + 1) _ p0 p1 hlt hn1 a1 a2 hAn (hbb _ (by rw [hbt]; rfl)) a3 a4
        | false =>
          simp only [Bool.false_and]
          have e : (false == true) = false := rfl
          rw [e, asrtF]
          simp only [cond_false, Option.bind_some]
          exact l7_1_eq S hL k n (j + 1) false p0 p1 hlt hn1 a1 a2 hAn (hbb _ (by rw [hbt]; rfl)) a3 a4
      · have hbad : ∀ g : T35, g = seat S j → (decide (P S j < -1) || decide (P S j ≥ (j : Int)) || decide (O S j < -1) || decide (O S j ≥ 60)) = true := by
          intro _ _
          rw [cond4, decide_eq_true_eq]
          unfold At at hAt
          omega
        rw [bifT]
        · refine ⟨false, o0, o1, hl0, hl1, ⟨fun h => by simp at h, fun h => absurd (h.2.1 j hlt) hAt⟩, fun h => absurd (h.2.1 j hlt) hAt, rfl⟩
        · have := hbad _ rfl
          rw [e1]
          by_cases g1 : P S j < -1
          · simp [g1]
          · by_cases g2 : P S j ≥ j
            · simp [g2]
            · rw [decide_eq_false g1, decide_eq_false g2]
              simp only [Bool.or_self, beq_self_eq_true, cond_true, Bool.false_or]
              rw [e2]
              by_cases g3 : O S j < -1
              · simp [g3]
              · rw [decide_eq_false g3]
                simp only [Bool.or_self, beq_self_eq_true, cond_true, Bool.false_or]
                rw [e2]
                rw [decide_eq_false g1, decide_eq_false g2, decide_eq_false g3] at this
                simpa using this

theorem l7_2_eq {R : Type} (S : List T35) (hL : S.length ≤ 30) (b : Bool) (p0 p1 : List Int) (h0 : p0.length = S.length) (h1 : p1.length = S.length) (hb : b = true ↔ Right S) (hp : Right S → ∀ i, i < S.length → gI p0 i = (lev S i : Int) ∧ gI p1 i = (root S i : Int)) (k1 k2 : Option R) : ∀ (n j : Nat), j ≤ S.length → S.length - j < n →
    l7_2 S b p0 p1 k1 k2 n j = k1
  | 0, j, _, h => by omega
  | n + 1, j, hj, hn => by
    unfold l7_2 s7_2
    by_cases c : j = S.length
    · subst c
      rw [bifF (decide_eq_false (by omega))]
    · have hlt : j < S.length := by omega
      have hn1 : S.length - (j + 1) < n := by omega
      have hin : In S (j : Int) := by constructor <;> omega
      have ej : ((j : Int)).toNat = j := by omega
      rw [bifT (decide_eq_true (by omega)), wrapI (x := (j : Int) + 1) (by omega) (by omega)]
      by_cases hr : Right S
      · have hbt := hb.2 hr
        subst hbt
        obtain ⟨a1, a2⟩ := hp hr j hlt
        have f1 : levelS S (j : Int) = lev S j := by unfold levelS; rw [if_pos ⟨hin, hr⟩]; rfl
        have f2 : rootS S (j : Int) = root S j := by unfold rootS; rw [if_pos ⟨hin, hr⟩]; rfl
        simp only [beq_self_eq_true, cond_true, m15_eq, m17_eq, f1, f2, Option.bind_some, ej]
        rw [asrtP (fun _ => by simp; omega), gI_get (by omega), a1]
        simp only [Option.bind_some, bne_same, beq_self_eq_true, Bool.and_self, cond_true, Bool.true_and]
        rw [asrtP (fun _ => by simp; omega), gI_get (by omega), a2]
        simp only [Option.bind_some, bne_same, Bool.or_self, Bool.and_false, Bool.not_true, Bool.false_and, cond_false]
        exact l7_2_eq S hL true p0 p1 h0 h1 hb hp k1 k2 n (j + 1) hlt hn1
      · have hbf : b = false := by
          cases b with
          | false => rfl
          | true => exact absurd (hb.1 rfl) hr
        subst hbf
        have f1 : levelS S (j : Int) = -1 := by unfold levelS; rw [if_neg (fun h => hr h.2)]
        have f2 : rootS S (j : Int) = -1 := by unfold rootS; rw [if_neg (fun h => hr h.2)]
        have f3 : leafS S (j : Int) = false := decide_eq_false (fun h => hr h.1)
        have e : (false == true) = false := rfl
        simp only [e, cond_false, asrtF, Option.bind_some, Bool.false_and, Bool.not_false, beq_self_eq_true, Bool.and_self, cond_true, m15_eq, m17_eq, m19_eq S (show S.length ≤ 4294967296 by omega), f1, f2, f3, bne_same, Bool.or_self, Bool.and_false]
        exact l7_2_eq S hL false p0 p1 h0 h1 hb hp k1 k2 n (j + 1) hlt hn1

theorem levels (S : List T35) : m7 S = some true := by
  unfold m7
  rw [small]
  simp only [Option.bind_some]
  by_cases h : (S.length : Int) > 30
  · rw [bifT (decide_eq_true h)]
  · rw [bifF (decide_eq_false h)]
    have e : ((S.length : Int)).toNat = S.length := by omega
    rw [asrtP (fun _ => by simp; unfold LIM; omega), asrtP (fun _ => by simp; unfold LIM; omega), e]
    obtain ⟨b', p0, p1, a1, a2, a3, a4, a5⟩ := l7_1_eq S (by omega) (fun y12 y13 y14 => (m13 S).bind fun r15 => bif (!(y12 == r15)) then some false else l7_2 S y12 y13 y14 ((bif (true == true) then (m15 S (-1)) else some 0).bind fun r23 => (bif ((true && (r23 == (-1))) == true) then (m17 S (List.length S : Int)) else some 0).bind fun r24 => some ((true && (r23 == (-1))) && (r24 == (-1)))) (some false) FUEL 0) FUEL 0 true (List.replicate S.length 0) (List.replicate S.length 0) (by omega) (fuel_lt (by omega)) (by simp) (by simp) (by omega) (by simp) (fun i hi => by rw [gI_rep, if_neg (by omega)]) (by omega)
    simp only [Int.natCast_zero] at a5
    rw [a5, m13_eq]
    simp only [Option.bind_some]
    have : b' = decide (Right S) := by rw [Bool.eq_iff_iff, a3, decide_eq_true_eq]
    rw [← this]
    simp only [beq_self_eq_true, Bool.not_true, cond_false]
    have l2 := l7_2_eq S (by omega) b' p0 p1 a1 a2 a3 a4 ((bif (true == true) then (m15 S (-1)) else some 0).bind fun r23 => (bif ((true && (r23 == (-1))) == true) then (m17 S (List.length S : Int)) else some 0).bind fun r24 => some ((true && (r23 == (-1))) && (r24 == (-1)))) (some false) FUEL 0 (by omega) (fuel_lt (by omega))
    simp only [Int.natCast_zero] at l2
    have f1 : levelS S (-1) = -1 := by unfold levelS; rw [if_neg (fun h => by have := h.1.1; omega)]
    have f2 : rootS S (S.length : Int) = -1 := by unfold rootS; rw [if_neg (fun h => by have := h.1.2; omega)]
    simp only [beq_self_eq_true, cond_true, m15_eq, f1, Option.bind_some, Bool.true_and, m17_eq, f2] at l2 ⊢
    rw [l2]

end Go.Proofs.Ytndflpanccagbaa
