/- SchedCovers. -/
import Derived.Test.YtophafggfmhooaaS7
namespace Go.Proofs.Ytophafggfmhooaa
open Go Go.Eng
set_option linter.unusedVariables false
set_option linter.unusedSimpArgs false

/-- The periods of terms. -/
noncomputable def pl (x : T29) (c : T32) (N : Nat) : List T46 := (List.range N).map (perV x c)
theorem pl_len (x : T29) (c : T32) (N : Nat) : (pl x c N).length = N := by simp [pl]
theorem pl_get (x : T29) (c : T32) {N i : Nat} (h : i < N) : (pl x c N)[i]? = some (perV x c i) := by
  unfold pl
  rw [List.getElem?_map, List.getElem?_range h]
  rfl
theorem pl_per (x : T29) (c : T32) {N i : Nat} (h : i < N) : per (pl x c N) i = perV x c i := by
  unfold per; rw [pl_get x c h]; rfl
theorem pl_idx (x : T29) (c : T32) {N i : Nat} (h : i < N) : idx (pl x c N) (i : Int) = some (perV x c i) := by
  rw [idx_nat, pl_get x c h]
theorem pl_idxG (x : T29) (c : T32) {N i : Nat} {g : Bool} (z : T46) (h : g = true → i < N) : idxG g z (pl x c N) (i : Int) = some (bif g then perV x c i else z) := by
  unfold idxG
  cases g with
  | false => rfl
  | true => rw [cond_true, cond_true, pl_idx x c (h rfl)]

theorem m11_cases (x : T29) (c : T32) : (∃ N, VX x ∧ RightC c ∧ Num x N ∧ (∀ i, i < N → perE x c i = 0) ∧ m11 x c = some (pl x c N, 0, ())) ∨ ∃ e, e ≠ 0 ∧ m11 x c = some ([], e, ()) := by
  by_cases h : VX x ∧ RightC c
  · obtain ⟨N, hN⟩ := num_ex h.1
    have e := m11_ok h.1 h.2 hN
    by_cases he : (out x c 0 N []).2.1 = 0
    · obtain ⟨h1, h2⟩ := out_ok x c N 0 [] he
      refine Or.inl ⟨N, h.1, h.2, hN, fun i hi => by simpa using h2 i hi, ?_⟩
      rw [e]
      have h3 : (out x c 0 N []).1 = pl x c N := by
        rw [h1]; unfold pl; simp
      generalize out x c 0 N [] = r at *
      obtain ⟨a, b, u⟩ := r
      simp only at he h3
      rw [he, h3]
    · have h3 := out_err x c N 0 [] he
      refine Or.inr ⟨_, he, ?_⟩
      rw [e]
      generalize out x c 0 N [] = r at *
      obtain ⟨a, b, u⟩ := r
      simp only at h3
      rw [h3]
  · exact Or.inr ⟨1, by omega, m11_bad h⟩

theorem bx_in {x : T29} {N : Nat} (hN : Num x N) (d : Int) (h0 : x.2.2.2.1 ≤ d) : ∀ j, j ≤ N → d < bx x j → ∃ i, i < j ∧ bx x i ≤ d ∧ d < bx x (i + 1)
  | 0, _, h => by rw [bx_0] at h; omega
  | j + 1, hj, h => by
    by_cases e : d < bx x j
    · obtain ⟨i, h1, h2, h3⟩ := bx_in hN d h0 j (by omega) e
      exact ⟨i, by omega, h2, h3⟩
    · exact ⟨j, by omega, by omega, h⟩

theorem Num.ge {x : T29} {N : Nat} (hN : Num x N) {i : Nat} (h : i ≤ N) : x.2.2.2.1 ≤ bx x i := by
  by_cases e : i = 0
  · subst e; exact Int.le_refl _
  · have := hN.mono 0 i (by omega) h
    rw [bx_0] at this
    omega
theorem Num.le' {x : T29} {N : Nat} (hN : Num x N) {i : Nat} (h : i ≤ N) : bx x i ≤ x.2.2.2.2.1 := by
  by_cases e : i = N
  · subst e; rw [hN.last]; omega
  · have := hN.lt i (by omega); omega

theorem l4_eq {R : Type} (x : T29) (c : T32) {N : Nat} (hN : Num x N) (d : Int) (k1 : Int → Option R) (k2 : Option R) : ∀ (n m j : Nat), j + m = N → m < n →
    l4_1 d (pl x c N) k1 k2 n (if x.2.2.2.1 ≤ d ∧ d < bx x j then 1 else 0) (j : Int) = k1 (if x.2.2.2.1 ≤ d ∧ d < bx x N then 1 else 0)
  | 0, _, _, _, h => by omega
  | n + 1, 0, j, hj, hm => by
    unfold l4_1 s4_1
    rw [decide_eq_false (by rw [pl_len]; omega), show j = N by omega]
    rfl
  | n + 1, m + 1, j, hj, hm => by
    have hle := hN.le
    unfold l4_1 s4_1
    have hm1 := hN.mono j (j + 1) (by omega) (by omega)
    have hge := hN.ge (show j ≤ N by omega)
    have ig : ∀ (g : Bool), (g = true → 0 < j) → idxG g (0, 0, 0, 0, ()) (pl x c N) (IntKind.i64.wrap ((j : Int) - 1)) = some (bif g then perV x c (j - 1) else (0, 0, 0, 0, ())) := by
      intro g hg
      rw [wrapI (by omega) (by omega)]
      cases g with
      | false => rfl
      | true =>
        have := hg rfl
        rw [show (j : Int) - 1 = ((j - 1 : Nat) : Int) by omega, pl_idxG x c _ (fun _ => by omega)]
    rw [decide_eq_true (by rw [pl_len]; omega), pl_idx x c (by omega), wrapI (x := (j : Int) + 1) (by omega) (by omega)]
    simp only [Option.bind_some, cond_true, cont]
    have e1 : decide ((perV x c j).1 ≥ (perV x c j).2.1) = false := decide_eq_false (by unfold perV; simp only; omega)
    rw [e1, pl_idxG x c _ (fun _ => by omega), ig _ (fun h => by simp at h; omega)]
    simp only [Option.bind_some]
    have e2 : (decide ((j : Int) > 0) && ((bif (false == false) && (decide ((j : Int) > 0) == true) then perV x c j else (0, 0, 0, 0, ())).1 != (bif (false == false) && (decide ((j : Int) > 0) == true) then perV x c (j - 1) else (0, 0, 0, 0, ())).2.1)) = false := by
      by_cases g : 0 < j
      · rw [decide_eq_true (show (j : Int) > 0 by omega)]
        simp only [beq_self_eq_true, Bool.and_self, cond_true, Bool.true_and]
        unfold perV
        simp only
        rw [show j - 1 + 1 = j by omega, bne_same]
      · rw [decide_eq_false (show ¬ (j : Int) > 0 by omega)]; rfl
    rw [e2]
    simp only [Bool.or_self, cond_false]
    rw [pl_idxG x c _ (fun _ => by omega)]
    simp only [Option.bind_some]
    have ih := l4_eq x c hN d k1 k2 n m (j + 1) (by omega) (by omega)
    have e3 : (decide ((perV x c j).1 ≤ d) && decide (d < (bif (decide ((perV x c j).1 ≤ d) == true) then perV x c j else (0, 0, 0, 0, ())).2.1)) = decide (bx x j ≤ d ∧ d < bx x (j + 1)) := by
      unfold perV
      simp only
      by_cases g : bx x j ≤ d
      · simp [g]
      · simp [g]
    rw [e3]
    by_cases g : bx x j ≤ d ∧ d < bx x (j + 1)
    · rw [decide_eq_true g, if_neg (by omega)]
      rw [if_pos (⟨by omega, g.2⟩ : x.2.2.2.1 ≤ d ∧ d < bx x (j + 1))] at ih
      exact ih
    · rw [decide_eq_false g]
      by_cases q : x.2.2.2.1 ≤ d ∧ d < bx x j
      · rw [if_pos q]
        rw [if_pos (⟨q.1, by omega⟩ : x.2.2.2.1 ≤ d ∧ d < bx x (j + 1))] at ih
        exact ih
      · rw [if_neg q]
        rw [if_neg (by omega : ¬ (x.2.2.2.1 ≤ d ∧ d < bx x (j + 1)))] at ih
        exact ih

theorem at_spec (x : T29) (c : T32) {N : Nat} (hN : Num x N) (d : Int) : (∃ i : Nat, i < N ∧ bx x i ≤ d ∧ d < bx x (i + 1) ∧ (x.2.2.2.1 ≤ d ∧ d < x.2.2.2.2.1) ∧ m13 (pl x c N) d = some ((i : Int), true, ())) ∨ (¬ (x.2.2.2.1 ≤ d ∧ d < x.2.2.2.2.1) ∧ m13 (pl x c N) d = some (0, false, ())) := by
  have hle := hN.le
  rw [m13_eq _ (by rw [pl_len]; omega), pl_len]
  rcases atN_spec (pl x c N) d N 0 with ⟨i, h1, h2, h3, h4, h5⟩ | ⟨h1, h2⟩
  · refine Or.inl ⟨i, by omega, ?_⟩
    unfold inP at h3
    rw [pl_per x c (by omega)] at h3
    simp only [Bool.and_eq_true, decide_eq_true_eq] at h3
    have g1 : bx x i ≤ d := h3.1
    have g2 : d < bx x (i + 1) := h3.2
    have := hN.ge (show i ≤ N by omega)
    have := hN.le' (show i + 1 ≤ N by omega)
    exact ⟨g1, g2, ⟨by omega, by omega⟩, by rw [h5]⟩
  · refine Or.inr ⟨fun h => ?_, by rw [h2]⟩
    obtain ⟨i, g1, g2, g3⟩ := bx_in hN d h.1 N (Nat.le_refl _) (by rw [hN.last]; exact h.2)
    have := h1 i (by omega) (by omega)
    unfold inP at this
    rw [pl_per x c g1] at this
    have : (decide (bx x i ≤ d) && decide (d < bx x (i + 1))) = false := this
    simp [g2, g3] at this

theorem schedCovers (x : T29) (c : T32) (d : Int) : m4 x c d = some true := by
  unfold m4
  obtain ⟨b, hb, _⟩ := m10_eq x c
  rw [m9_eq, hb]
  simp only [Option.bind_some]
  cases b with
  | false => rfl
  | true =>
    rcases m11_cases x c with ⟨N, hv, hr, hN, hE, e⟩ | ⟨e, he, h⟩
    · rw [e]
      have hF := FUEL_eq
      have hle := hN.le
      have hone := hN.one
      simp only [Option.bind_some, Bool.not_true, cond_false, bne_same]
      rw [bifF (by rw [pl_len]; simp; omega)]
      have hl := l4_eq x c hN d (fun y11 =>
            (m13 (pl x c N) d).bind fun r12 =>
            bif (((((!(r12.2.1 == ((decide (x.2.2.2.1 ≤ d)) && (decide (d < x.2.2.2.2.1))))) || (!((y11 == 1) == ((decide (x.2.2.2.1 ≤ d)) && (decide (d < x.2.2.2.2.1)))))) || (decide (y11 > 1))) || (decide (r12.1 < 0))) || (decide (r12.1 ≥ (List.length (pl x c N) : Int)))) then
              some false
            else
              (idxG (true == true) (0, 0, 0, 0, ()) (pl x c N) 0).bind fun x13 =>
              (idxG ((true && (x13.1 == x.2.2.2.1)) == true) (0, 0, 0, 0, ()) (pl x c N) (IntKind.i64.wrap ((List.length (pl x c N) : Int) - 1))).bind fun x14 =>
              (idxG ((((true && (x13.1 == x.2.2.2.1)) && (x14.2.1 == x.2.2.2.2.1)) == true) && ((!r12.2.1) == false)) (0, 0, 0, 0, ()) (pl x c N) r12.1).bind fun x15 =>
              (idxG (((((true && (x13.1 == x.2.2.2.1)) && (x14.2.1 == x.2.2.2.2.1)) == true) && ((!r12.2.1) == false)) && ((decide (x15.1 ≤ d)) == true)) (0, 0, 0, 0, ()) (pl x c N) r12.1).bind fun x16 =>
              some (((true && (x13.1 == x.2.2.2.1)) && (x14.2.1 == x.2.2.2.2.1)) && ((!r12.2.1) || ((decide (x15.1 ≤ d)) && (decide (d < x16.2.1)))))) (some false) FUEL N 0 (by omega) (fuel_lt (by omega))
      rw [if_neg (by rw [bx_0]; omega), hN.last, show ((0 : Nat) : Int) = 0 from rfl] at hl
      rw [hl]
      have i0 : idx (pl x c N) 0 = some (perV x c 0) := pl_idx x c (i := 0) (by omega)
      have iN : idx (pl x c N) (IntKind.i64.wrap ((N : Int) - 1)) = some (perV x c (N - 1)) := by
        rw [wrapI (by omega) (by omega), show (N : Int) - 1 = ((N - 1 : Nat) : Int) by omega, pl_idx x c (by omega)]
      have v0 : (perV x c 0).1 = x.2.2.2.1 := rfl
      have vN : (perV x c (N - 1)).2.1 = x.2.2.2.2.1 := by
        unfold perV; simp only; rw [show N - 1 + 1 = N by omega, hN.last]
      rcases at_spec x c hN d with ⟨i, h1, h2, h3, h4, h5⟩ | ⟨h4, h5⟩
      · rw [h5, if_pos h4, decide_eq_true h4.1, decide_eq_true h4.2]
        simp only [Option.bind_some, pl_len]
        rw [decide_eq_false (show ¬ ((i : Int) < 0) by omega), decide_eq_false (show ¬ ((i : Int) ≥ (N : Int)) by omega)]
        have q1 : (perV x c i).1 = bx x i := rfl
        have q2 : (perV x c i).2.1 = bx x (i + 1) := rfl
        simp only [beq_self_eq_true, Bool.not_true, Bool.and_self, Bool.or_self, Bool.true_and, cond_false, idxG, cond_true, i0, iN, Option.bind_some, v0, vN, pl_idx x c h1, q1, q2, decide_eq_true h2, decide_eq_true h3, show decide ((1 : Int) > 1) = false from rfl]
        rfl
      · rw [h5, if_neg h4]
        have h6 : (decide (x.2.2.2.1 ≤ d) && decide (d < x.2.2.2.2.1)) = false := by
          rw [Bool.eq_false_iff]; intro h; simp only [Bool.and_eq_true, decide_eq_true_eq] at h; exact h4 h
        simp only [Option.bind_some, pl_len, h6]
        rw [decide_eq_false (show ¬ ((0 : Int) ≥ (N : Int)) by omega)]
        simp only [beq_self_eq_true, Bool.not_true, Bool.and_self, Bool.or_self, Bool.true_and, cond_false, idxG, cond_true, i0, iN, Option.bind_some, v0, vN]
        rfl
    · rw [h]
      have : (e != 0) = true := by simpa using he
      simp [this]

end Go.Proofs.Ytophafggfmhooaa
