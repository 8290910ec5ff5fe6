/- Entitle: sums of shares; EntitleVotes. -/
import Derived.Test.YtjoehgmdkeigiaaT7
namespace Go.Proofs.Ytjoehgmdkeigiaa
open Go Go.Eng
set_option linter.unusedVariables false
set_option linter.unusedSimpArgs false

theorem sumN_b {f : Nat → Int} {B : Int} : ∀ {n : Nat}, (∀ i, i < n → -B ≤ f i ∧ f i ≤ B) → -(B * n) ≤ sumN f n ∧ sumN f n ≤ B * n
  | 0, _ => by simp [sumN]
  | n + 1, h => by
    have h1 := h n (by omega)
    have h2 := sumN_b (n := n) (fun i hi => h i (by omega))
    simp only [sumN]
    rw [Int.natCast_add, Int.mul_add]
    omega

theorem thr_sh (S : List T36) (f : Nat → Int) (s : Nat) : ∀ n, n ≤ S.length → thr S (sh f n) s = sumN (fun i => if below S i s = true then f i else 0) n
  | 0, _ => rfl
  | n + 1, h => by
    have ih := thr_sh S f s n (by omega)
    rw [sh_succ]
    simp only [sumN]
    by_cases e : f n = 0
    · rw [if_pos e, ih, e]; simp
    · rw [if_neg e, ← ih]
      unfold thr
      rw [List.map_append, List.sum_append]
      congr 1
      show sv S s _ + 0 = _
      unfold sv
      by_cases hb : below S n s = true
      · rw [if_pos ⟨⟨by simp only []; omega, by simp only []; omega⟩, hb⟩, if_pos hb]; simp
      · rw [if_neg (fun x => hb x.2), if_neg hb]; rfl

theorem thr_has (S : List T36) (p : List Int) (s : Nat) : thr S (sh (gI p) S.length) s = has S p s := thr_sh S (gI p) s S.length (Nat.le_refl _)

/-- The sum of shares. -/
def ssum (l : List T36) : Int := (l.map fun t => t.2.1).sum

theorem ssum_sh (f : Nat → Int) : ∀ n, ssum (sh f n) = sumN f n
  | 0 => rfl
  | n + 1 => by
    have ih := ssum_sh f n
    rw [sh_succ]
    simp only [sumN]
    by_cases e : f n = 0
    · rw [if_pos e, ih, e]; simp
    · rw [if_neg e, ← ih]
      unfold ssum
      rw [List.map_append, List.sum_append]
      simp

theorem ssum_take {l : List T36} {j : Nat} (h : j < l.length) : ssum (l.take (j + 1)) = ssum (l.take j) + l[j].2.1 := by
  unfold ssum
  rw [List.take_succ_eq_append_getElem h, List.map_append, List.sum_append]
  simp

theorem ssum_b {l : List T36} (h : Sm l) : -12000000000000000 ≤ ssum l ∧ ssum l ≤ 12000000000000000 := by
  have h1 := sum_b3 (f := fun t => t.2.1) (l := l) h.2
  have := h.1
  unfold ssum
  omega

theorem sm_sh {f : Nat → Int} {n : Nat} (hn : n ≤ 12) (h : ∀ i, i < n → -1000000000000000 ≤ f i ∧ f i ≤ 1000000000000000) : Sm (sh f n) :=
  ⟨Nat.le_trans (sh_len _ _) hn, fun t ht => by
    obtain ⟨i, hi, _, rfl⟩ := sh_mem ht
    exact h i hi⟩

theorem payS_b2 {S : List T36} {l : List T45} {u : List Int} (hv : Valid S u) (ho : ∀ t ∈ l, OneP S t) (hl : l.length ≤ 10000) (d : Int) {s : Nat} (hs : s < S.length) :
    -20000000000000 ≤ gI (payS d u l) s ∧ gI (payS d u l) s ≤ 20000000000000 := by
  have := payS_b hv ho hl d hs
  omega

theorem sm_pay {S : List T36} (hS : S.length ≤ 10) {l : List T45} {u : List Int} (hv : Valid S u) (ho : ∀ t ∈ l, OneP S t) (hl : l.length ≤ 10000) (d : Int) : Sm (sh (gI (payS d u l)) S.length) :=
  sm_sh (by omega) (fun i hi => by have := payS_b2 hv ho hl d hi; omega)

/-! Votes. -/

theorem l5_2_eq {R : Type} {l : List T36} (hl : Sm l) (k : Int → Option R) : ∀ (m n j : Nat), j + m = l.length → m < n → l5_2 l k n (ssum (l.take j)) j = k (ssum l) := by
  intro m
  have hlen := hl.1
  induction m with
  | zero =>
    intro n j hj hn
    obtain ⟨n, rfl⟩ : ∃ m, n = m + 1 := ⟨n - 1, by omega⟩
    unfold l5_2 s5_2
    rw [bifF (decide_eq_false (by omega)), List.take_of_length_le (by omega)]
  | succ m ih =>
    intro n j hj hn
    obtain ⟨n, rfl⟩ : ∃ m, n = m + 1 := ⟨n - 1, by omega⟩
    have hlt : j < l.length := by omega
    have hb := ssum_b (hl.take j)
    have hv := hl.2 l[j] (List.getElem_mem hlt)
    have e := ih n (j + 1) (by omega) (by omega)
    rw [ssum_take hlt] at e
    unfold l5_2 s5_2
    rw [bifT (decide_eq_true (by omega)), idx_nat, List.getElem?_eq_getElem hlt]
    simp only [Option.bind_some]
    rw [wrapI (x := (j : Int) + 1) (by omega) (by omega), wrapI (by omega) (by omega)]
    exact e

theorem sumU_b {S : List T36} {u : List Int} (hv : Valid S u) {j : Nat} (hj : j ≤ S.length) : 0 ≤ sumN (gI u) j ∧ sumN (gI u) j ≤ 1000000000 := by
  have hnn : ∀ i, i < S.length → 0 ≤ gI u i := fun i hi => (hv.nn hi).1
  refine ⟨sumN_nonneg fun i hi => hnn i (by omega), ?_⟩
  have h1 := sumN_split (gI u) j S.length hj
  have h2 : 0 ≤ sumN (fun i => if j ≤ i then gI u i else 0) S.length := sumN_nonneg fun i hi => by
    split
    · exact hnn i hi
    · omega
  have := hv.2.2.2
  omega

theorem l5_3_eq {R : Type} {S : List T36} {u : List Int} (hv : Valid S u) (k : Int → Option R) : ∀ (m n j : Nat), j + m = S.length → m < n → l5_3 u k n (sumN (gI u) j) j = k (sumN (gI u) S.length) := by
  intro m
  have hL := hv.1.1
  have hul := hv.2.1
  induction m with
  | zero =>
    intro n j hj hn
    obtain ⟨n, rfl⟩ : ∃ m, n = m + 1 := ⟨n - 1, by omega⟩
    unfold l5_3 s5_3
    rw [bifF (decide_eq_false (by omega)), show j = S.length by omega]
  | succ m ih =>
    intro n j hj hn
    obtain ⟨n, rfl⟩ : ∃ m, n = m + 1 := ⟨n - 1, by omega⟩
    have h1 := sumU_b hv (show j ≤ S.length by omega)
    have h2 := hv.nn (show j < S.length by omega)
    have e := ih n (j + 1) (by omega) (by omega)
    unfold l5_3 s5_3
    rw [bifT (decide_eq_true (by omega)), idx_nat, gI_get (by omega)]
    simp only [Option.bind_some]
    rw [wrapI (x := (j : Int) + 1) (by omega) (by omega), wrapI (by omega) (by omega)]
    exact e

theorem vt_c2 {S : List T36} {u : List Int} (hv : Valid S u) {a : Int} (ha : -1 ≤ a) {i : Nat} (hi : i < S.length) :
    ((gI u i == 0) || (decide (a ≥ 0) && (O S i == a))) = (vt S u a i == 0) := by
  have h0 := (hv.nn hi).1
  rw [show (vt S u a i == 0) = !(vt S u a i != 0) from (Bool.not_not _).symm, ← vt_c]
  by_cases h1 : gI u i = 0
  · rw [h1]; simp
  · rw [beq_eq_false_iff_ne.2 h1, decide_eq_true (show gI u i > 0 by omega)]
    by_cases h2 : a ≥ 0
    · rw [decide_eq_true h2]
      by_cases h3 : O S i = a
      · rw [h3]
        have : ¬ a = -1 := by omega
        simp [this]
      · rw [beq_eq_false_iff_ne.2 h3, bne_ne h3]; simp
    · have h4 : a = -1 := by omega
      subst h4
      by_cases h3 : O S i = -1
      · simp [h3]
      · simp [h3]

theorem l5_1_eq {R : Type} {S : List T36} {u : List Int} (hv : Valid S u) {a : Int} (ha : -1 ≤ a) (k1 : Int → Option R) (k2 : Option R) : ∀ (m n j : Nat), j + m = S.length → m < n →
    l5_1 S u a (sh (vt S u a) S.length) k1 k2 n ((sh (vt S u a) j).length : Int) j = k1 ((sh (vt S u a) S.length).length : Int) := by
  intro m
  have hL := hv.1.1
  have hul := hv.2.1
  induction m with
  | zero =>
    intro n j hj hn
    obtain ⟨n, rfl⟩ : ∃ m, n = m + 1 := ⟨n - 1, by omega⟩
    unfold l5_1 s5_1
    rw [bifF (decide_eq_false (by omega)), show j = S.length by omega]
  | succ m ih =>
    intro n j hj hn
    obtain ⟨n, rfl⟩ : ∃ m, n = m + 1 := ⟨n - 1, by omega⟩
    have hlt : j < S.length := by omega
    have hs := sh_len (vt S u a) j
    have e := ih n (j + 1) (by omega) (by omega)
    rw [sh_succ] at e
    have ig : ∀ g : Bool, idxG g (0, 0, ()) S (j : Int) = some (bif g then seat S j else (0, 0, ())) := by
      intro g
      unfold idxG
      rw [seat_idx hlt]
      cases g <;> rfl
    have hc := vt_c2 hv ha hlt
    have hc2 : ((gI u j == 0) || (decide (a ≥ 0) && (((bif ((gI u j == 0) == false) && ((decide (a ≥ 0)) == true) then seat S j else (0, 0, ())) : T36).2.1 == a))) = (vt S u a j == 0) := by
      rw [← hc]
      unfold O
      cases (gI u j == 0)
      · cases decide (a ≥ 0) <;> rfl
      · rfl
    unfold l5_1 s5_1
    rw [bifT (decide_eq_true (by omega)), idx_nat, gI_get (by omega)]
    simp only [cont, Option.bind_some, ig, hc2]
    rw [wrapI (x := (j : Int) + 1) (by omega) (by omega)]
    by_cases h : vt S u a j = 0
    · rw [if_pos h] at e
      rw [bifT (by rw [h]; rfl)]
      exact e
    · obtain ⟨q1, q2⟩ := sh_at hlt h
      rw [if_neg h] at e
      rw [bifF (beq_eq_false_iff_ne.2 h), bifF (decide_eq_false (by omega)), idx_nat, q2]
      simp only [Option.bind_some, m20, vt_v h, beq_self_eq_true, Bool.and_self, Bool.not_true, cond_false]
      rw [wrapI (by omega) (by omega)]
      rw [List.length_append, List.length_singleton, Int.natCast_add] at e
      exact e

theorem entitleVotes (S : List T36) (u : List Int) (a : Int) : m5 S u a = some true := by
  unfold m5
  rw [small8, few8]
  simp only [Option.bind_some]
  by_cases h : S.length ≤ 10 ∧ u.length ≤ 10 ∧ (List.length ([] : List T45)) ≤ 12
  case neg => rw [decide_eq_false h]; rfl
  rw [decide_eq_true h]
  have hS : S.length ≤ 20000 := by omega
  simp only [Bool.not_true, cond_false, m13_eq, Option.bind_some]
  by_cases hv : Valid S u ∧ -1 ≤ a ∧ a < 60
  · have e0 : voteS S u a = (sh (vt S u a) S.length, 0, ()) := if_pos hv
    have e1 : voteS S u (-1) = (sh (vt S u (-1)) S.length, 0, ()) := if_pos ⟨hv.1, by omega, by omega⟩
    rw [e0, e1]
    simp only [bne_same, cond_false]
    have hsm : Sm (sh (vt S u (-1)) S.length) := sm_sh (by omega) (fun i hi => by
      have := hv.1.nn hi
      unfold vt
      split <;> omega)
    refine Eq.trans (l5_1_eq hv.1 hv.2.1 _ _ S.length FUEL 0 (by omega) (fuel_lt (by omega))) ?_
    refine Eq.trans (l5_2_eq hsm _ (sh (vt S u (-1)) S.length).length FUEL 0 (by omega) (fuel_lt (by have := hsm.1; omega))) ?_
    refine Eq.trans (l5_3_eq hv.1 _ S.length FUEL 0 (by omega) (fuel_lt (by omega))) ?_
    rw [ssum_sh]
    have : sumN (vt S u (-1)) S.length = sumN (gI u) S.length := sumN_congr (fun i hi => by
      have := hv.1.nn hi
      unfold vt
      split
      · rfl
      · rename_i hh
        by_cases h0 : 0 < gI u i
        · exact absurd ⟨h0, by omega⟩ hh
        · omega)
    rw [this]
    simp
  · have e0 : voteS S u a = ([], 1, ()) := if_neg hv
    rw [e0]
    have hh : ((decide (a < (-1))) || (decide (a ≥ 60)) || !(decide (Valid S u))) = true := by
      by_cases hval : Valid S u
      · have : ¬ (-1 ≤ a ∧ a < 60) := fun x => hv ⟨hval, x⟩
        simp only [Bool.or_eq_true, decide_eq_true_eq]
        omega
      · rw [decide_eq_false hval]; simp
    rw [m19_eq S u hS]
    cases hc : ((decide (a < (-1))) || (decide (a ≥ 60))) with
    | true => rfl
    | false =>
      rw [hc] at hh
      simp only [Bool.false_or] at hh
      simp [hh]

end Go.Proofs.Ytjoehgmdkeigiaa
