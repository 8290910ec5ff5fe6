/- SchedDue. -/
import Derived.Test.YtophafggfmhooaaS10
namespace Go.Proofs.Ytophafggfmhooaa
open Go Go.Eng
set_option linter.unusedVariables false
set_option linter.unusedSimpArgs false

theorem perV_pay (x : T29) (c : T32) (i : Nat) : (perV x c i).2.2.1 = (pay x c i).1 := rfl

/-- What is due with a period. -/
theorem due_run {x : T29} {c : T32} (hv : VX x) (hr : RightC c) {N : Nat} (hN : Num x N) (hE : ∀ i, i < N → perE x c i = 0) {i : Nat} (hi : i < N) :
    ∃ s e, s ≤ i ∧ i < e ∧ e ≤ N ∧ (∀ j, s ≤ j → j < e → (pay x c j).1 = (pay x c i).1) ∧ dueL (pl x c N) (pay x c i).1 N = (List.range' s (e - s)).map (fun (k : Nat) => (k : Int)) := by
  obtain ⟨s, s1, s2, s3⟩ := least (fun j => (pay x c j).1 = (pay x c i).1) i rfl
  obtain ⟨e, e1, e2, e3⟩ := least (fun j => i < j ∧ (j = N ∨ (pay x c j).1 ≠ (pay x c i).1)) N ⟨hi, Or.inl rfl⟩
  have hin : ∀ j, s ≤ j → j < e → (pay x c j).1 = (pay x c i).1 := by
    intro j h1 h2
    by_cases q : j ≤ i
    · have g1 := pay_mono hv hr hN hE h1 (by omega)
      have g2 := pay_mono hv hr hN hE q hi
      omega
    · by_cases g : (pay x c j).1 = (pay x c i).1
      · exact g
      · exact absurd ⟨by omega, Or.inr g⟩ (e3 j h2)
  refine ⟨s, e, s1, e2.1, e1, hin, ?_⟩
  unfold dueL
  congr 1
  rw [List.filter_congr (q := fun j => (pay x c j).1 == (pay x c i).1) (fun a ha => by
    rw [pl_per x c (List.mem_range.1 ha), perV_pay])]
  refine filt_conv _ s e (by have := e2.1; omega) N e1 (fun j hj => ?_)
  simp only [beq_iff_eq]
  constructor
  · intro h
    have h1 : s ≤ j := by
      by_cases q : s ≤ j
      · exact q
      · exact absurd h (s3 j (by omega))
    refine ⟨h1, ?_⟩
    by_cases q : j < e
    · exact q
    · have := e2.1
      rcases e2.2 with g | g
      · omega
      · have g1 := pay_mono hv hr hN hE (show i ≤ e by omega) (by omega)
        have g2 := pay_mono hv hr hN hE (show e ≤ j by omega) hj
        omega
  · intro h
    exact hin j h.1 h.2

theorem l6_1_eq {R : Type} (x : T29) (c : T32) {N : Nat} (hN : N ≤ 200000) {i s w : Nat} (hi : i < N) (D : List Int) (hD : D.length = w) (hg : ∀ k, k < w → D[k]? = some ((s + k : Nat) : Int)) (hs : s + w ≤ N)
    (hp : ∀ k, k < w → (pay x c (s + k)).1 = (pay x c i).1) (k1 : Int → Option R) (k2 : Option R) : ∀ (n m k : Nat), k + m = w → m < n →
    l6_1 (pl x c N) (i : Int) D k1 k2 n (if s ≤ i ∧ i < s + k then 1 else 0) (k : Int) = k1 (if s ≤ i ∧ i < s + w then 1 else 0)
  | 0, _, _, _, h => by omega
  | n + 1, 0, k, hk, hm => by
    unfold l6_1 s6_1
    rw [decide_eq_false (by omega), show k = w by omega]
    rfl
  | n + 1, m + 1, k, hk, hm => by
    unfold l6_1 s6_1
    have dk : idx D (k : Int) = some ((s + k : Nat) : Int) := by rw [idx_nat, hg k (by omega)]
    have dG : ∀ g : Bool, idxG g 0 D (k : Int) = some (bif g then ((s + k : Nat) : Int) else 0) := by
      intro g; unfold idxG; cases g <;> simp [dk]
    have dG1 : ∀ g : Bool, (g = true → 0 < k) → idxG g 0 D (IntKind.i64.wrap ((k : Int) - 1)) = some (bif g then ((s + k : Nat) : Int) - 1 else 0) := by
      intro g h
      cases g with
      | false => rfl
      | true =>
        have := h rfl
        rw [wrapI (by omega) (by omega), show (k : Int) - 1 = ((k - 1 : Nat) : Int) by omega]
        unfold idxG
        rw [cond_true, cond_true, idx_nat, hg (k - 1) (by omega)]
        congr 1; omega
    rw [decide_eq_true (by omega), wrapI (x := (k : Int) + 1) (by omega) (by omega)]
    simp only [cond_true, cont, dk, Option.bind_some, dG]
    rw [decide_eq_false (show ¬ ((s + k : Nat) : Int) < 0 by omega), dG1 _ (fun h => by simp at h; omega)]
    simp only [Option.bind_some, beq_self_eq_true, cond_true]
    rw [pl_len, decide_eq_false (show ¬ ((s + k : Nat) : Int) ≥ (N : Int) by omega)]
    have e2 : (decide ((k : Int) > 0) && ((bif ((false || false) == false) && (decide ((k : Int) > 0) == true) then ((s + k : Nat) : Int) else 0) != IntKind.i64.wrap ((bif ((false || false) == false) && (decide ((k : Int) > 0) == true) then ((s + k : Nat) : Int) - 1 else 0) + 1))) = false := by
      by_cases g : 0 < k
      · rw [decide_eq_true (show (k : Int) > 0 by omega)]
        simp only [Bool.or_self, beq_self_eq_true, Bool.and_self, cond_true, Bool.true_and]
        rw [wrapI (by omega) (by omega), show ((s + k : Nat) : Int) - 1 + 1 = ((s + k : Nat) : Int) by omega, bne_same]
      · rw [decide_eq_false (show ¬ (k : Int) > 0 by omega)]; rfl
    rw [e2]
    simp only [Bool.or_self, cond_false]
    rw [pl_idx x c (show s + k < N by omega), pl_idx x c hi]
    simp only [Option.bind_some]
    rw [perV_pay, perV_pay, hp k (by omega), bne_same, cond_false]
    have ih := l6_1_eq x c hN hi D hD hg hs hp k1 k2 n m (k + 1) (by omega) (by omega)
    rw [show ((k + 1 : Nat) : Int) = (k : Int) + 1 by omega] at ih
    by_cases g : s + k = i
    · rw [show (((s + k : Nat) : Int) == (i : Int)) = true by simp; omega, if_neg (by omega)]
      rw [if_pos (by omega : s ≤ i ∧ i < s + (k + 1))] at ih
      exact ih
    · rw [show (((s + k : Nat) : Int) == (i : Int)) = false by simp; omega]
      by_cases q : s ≤ i ∧ i < s + k
      · rw [if_pos q]
        rw [if_pos (by omega : s ≤ i ∧ i < s + (k + 1))] at ih
        exact ih
      · rw [if_neg q]
        rw [if_neg (by omega : ¬ (s ≤ i ∧ i < s + (k + 1)))] at ih
        exact ih

theorem l6_2_eq {R : Type} {x : T29} {c : T32} (hv : VX x) (hr : RightC c) {N : Nat} (hN : Num x N) (hE : ∀ i, i < N → perE x c i = 0) (k1 k2 : Option R) : ∀ (n m j : Nat), j + m = N → m < n →
    l6_2 (pl x c N) k1 k2 n (j : Int) = k1
  | 0, _, _, _, h => by omega
  | n + 1, 0, j, hj, hm => by
    unfold l6_2 s6_2
    rw [decide_eq_false (by rw [pl_len]; omega)]
    rfl
  | n + 1, m + 1, j, hj, hm => by
    have hF := FUEL_eq
    have hle := hN.le
    unfold l6_2 s6_2
    rw [decide_eq_true (by rw [pl_len]; omega), pl_idx x c (by omega)]
    simp only [cond_true, Option.bind_some]
    rw [perV_pay, m17_eq _ (by rw [pl_len]; omega), pl_len]
    obtain ⟨s, e, h1, h2, h3, h4, h5⟩ := due_run hv hr hN hE (show j < N by omega)
    rw [h5]
    simp only [Option.bind_some]
    have := l6_1_eq x c hle (i := j) (s := s) (w := e - s) (by omega) ((List.range' s (e - s)).map (fun (k : Nat) => (k : Int))) (by simp) (fun k hk => by
        rw [List.getElem?_map, List.getElem?_range' hk]
        simp) (by omega) (fun k hk => h4 (s + k) (by omega) (by omega)) (fun y15 =>
        bif (y15 != 1) then
          k2
        else
          l6_2 (pl x c N) k1 k2 n (IntKind.i64.wrap ((j : Int) + 1))) k2 FUEL (e - s) 0 (by omega) (fuel_lt (by omega))
    rw [if_neg (by omega), if_pos (by omega), show ((0 : Nat) : Int) = 0 from rfl] at this
    rw [this, bne_same, cond_false, wrapI (by omega) (by omega)]
    exact l6_2_eq hv hr hN hE k1 k2 n m (j + 1) (by omega) (by omega)

theorem l6_3_eq {R : Type} (x : T29) (c : T32) {N : Nat} (hN : N ≤ 200000) (d : Int) (D : List Int) (hw : D.length ≤ N) (hg : ∀ k, k < D.length → ∃ i : Nat, i < N ∧ D[k]? = some (i : Int) ∧ (pay x c i).1 = d) (k1 k2 : Option R) : ∀ (n m k : Nat), k + m = D.length → m < n →
    l6_3 d (pl x c N) D k1 k2 n (k : Int) = k1
  | 0, _, _, _, h => by omega
  | n + 1, 0, k, hk, hm => by
    unfold l6_3 s6_3
    rw [decide_eq_false (by omega)]
    rfl
  | n + 1, m + 1, k, hk, hm => by
    unfold l6_3 s6_3
    obtain ⟨i, h1, h2, h3⟩ := hg k (by omega)
    have dk : idx D (k : Int) = some (i : Int) := by rw [idx_nat, h2]
    have dG : ∀ g : Bool, idxG g 0 D (k : Int) = some (bif g then (i : Int) else 0) := by
      intro g; unfold idxG; cases g <;> simp [dk]
    rw [decide_eq_true (by omega), dk]
    simp only [cond_true, Option.bind_some, dG]
    rw [decide_eq_false (show ¬ (i : Int) < 0 by omega)]
    simp only [beq_self_eq_true, cond_true]
    rw [pl_len, decide_eq_false (show ¬ (i : Int) ≥ (N : Int) by omega), pl_idx x c h1]
    simp only [Bool.or_self, cond_false, Option.bind_some]
    rw [perV_pay, h3, bne_same, cond_false, wrapI (by omega) (by omega)]
    exact l6_3_eq x c hN d D hw hg k1 k2 n m (k + 1) (by omega) (by omega)

theorem schedDue (x : T29) (c : T32) (d : Int) : m6 x c d = some true := by
  unfold m6
  obtain ⟨b, hb, _⟩ := m10_eq x c
  rw [m9_eq, hb]
  simp only [Option.bind_some]
  cases b with
  | false => rfl
  | true =>
    rcases m11_cases x c with ⟨N, hv, hr, hN, hE, e⟩ | ⟨e, he, h⟩
    · rw [e]
      have hF := FUEL_eq
      have hle := hN.le
      simp only [Option.bind_some, Bool.not_true, cond_false, bne_same]
      have := l6_2_eq hv hr hN hE ((m17 (pl x c N) d).bind fun r16 => l6_3 d (pl x c N) r16 (some true) (some false) FUEL 0) (some false) FUEL N 0 (by omega) (fuel_lt (by omega))
      rw [show ((0 : Nat) : Int) = 0 from rfl] at this
      rw [this, m17_eq _ (by rw [pl_len]; omega), pl_len]
      simp only [Option.bind_some]
      have hlen := dueL_len (pl x c N) d N
      refine l6_3_eq x c hle d _ hlen (fun k hk => ?_) _ _ FUEL _ 0 (Nat.zero_add _) (fuel_lt (by omega))
      unfold dueL at hk ⊢
      rw [List.length_map] at hk
      refine ⟨((List.range N).filter (fun i => (per (pl x c N) i).2.2.1 == d))[k], ?_⟩
      have hmem := List.getElem_mem hk
      have hm := List.mem_filter.1 hmem
      have hr2 := List.mem_range.1 hm.1
      refine ⟨hr2, ?_, ?_⟩
      · rw [List.getElem?_map, List.getElem?_eq_getElem hk]; rfl
      · have := hm.2
        rw [pl_per x c hr2, perV_pay] at this
        simpa using this
    · rw [h]
      have : (e != 0) = true := by simpa using he
      simp [this]

end Go.Proofs.Ytophafggfmhooaa
