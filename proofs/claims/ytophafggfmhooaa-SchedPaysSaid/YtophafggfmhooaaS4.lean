/- Bounds of periods. -/
import Derived.Test.YtophafggfmhooaaS3
namespace Go.Proofs.Ytophafggfmhooaa
open Go Go.Eng
set_option linter.unusedVariables false
set_option linter.unusedSimpArgs false

/-- So many months later. -/
noncomputable def am (F n : Int) : Int × Int × Unit := match m21 F n with | some r => r | none => (0, 3, ())

theorem am_big {F n : Int} (h : n > 10000) : m21 F n = some (am F n) ∧ am F n = (0, 3, ()) := by
  have e := m21_bad (day := F) (n := n) (.inr (.inr h))
  unfold am
  rw [e]
  exact ⟨rfl, rfl⟩

theorem am_spec {F n y d : Int} {M : Nat} (hF : Dy F) (h : IsDate F y M d) (h0 : 0 ≤ n) (h1 : n ≤ 10000) :
    ∃ (a y' : Int) (M' : Nat), IsDate a y' M' (min d (last y' (M' + 1))) ∧ 12 * y' + M' = 12 * y + M + n ∧ m21 F n = some (am F n) ∧ am F n = if Dy a then (a, 0, ()) else (0, 3, ()) := by
  have e := m21_eq h hF.1 hF.2 (n := n) (by omega) h1
  obtain ⟨a, y', M', k1, k2, k3⟩ := addS_eq h hF.1 hF.2 (n := n) (by omega) h1
  refine ⟨a, y', M', k1, k2, ?_, ?_⟩
  · unfold am; rw [e]
  · unfold am; rw [e]; exact k3

theorem am_some {F n : Int} (hF : Dy F) (h0 : 0 ≤ n) : m21 F n = some (am F n) := by
  by_cases h : n > 10000
  · exact (am_big h).1
  · obtain ⟨y, M, d, _, hi, _⟩ := m19_eq hF.1 hF.2
    obtain ⟨_, _, _, _, _, e, _⟩ := am_spec hF hi h0 (by omega)
    exact e

theorem am_cases {F n : Int} (hF : Dy F) (h0 : 0 ≤ n) : (∃ a, am F n = (a, 0, ()) ∧ Dy a) ∨ am F n = (0, 3, ()) := by
  by_cases h : n > 10000
  · exact Or.inr (am_big h).2
  · obtain ⟨y, M, d, _, hi, _⟩ := m19_eq hF.1 hF.2
    obtain ⟨a, _, _, _, _, _, e⟩ := am_spec hF hi h0 (by omega)
    by_cases q : Dy a
    · rw [if_pos q] at e; exact Or.inl ⟨a, e, q⟩
    · rw [if_neg q] at e; exact Or.inr e

theorem am_0 {F : Int} (hF : Dy F) : am F 0 = (F, 0, ()) := by
  obtain ⟨y, M, d, _, hi, _⟩ := m19_eq hF.1 hF.2
  obtain ⟨a, y', M', k1, k2, _, e⟩ := am_spec hF hi (n := 0) (by omega) (by omega)
  have hm := hi.m
  have hm' := k1.m
  have e1 : y' = y := by omega
  have e2 : M' = M := by omega
  subst e1; subst e2
  have hd := hi.d2
  have : min d (last y' ((M' : Int) + 1)) = d := by omega
  rw [this] at k1
  have hda := hi.day
  have hda' := k1.day
  have : a = F := by omega
  rw [e, this, if_pos hF]

theorem am_lt {F n n' : Int} (hF : Dy F) (h0 : 0 ≤ n) (h1 : n < n') {b : Int} (hb : am F n' = (b, 0, ())) : ∃ a, am F n = (a, 0, ()) ∧ F ≤ a ∧ a < b ∧ Dy b := by
  by_cases h : n' > 10000
  · rw [(am_big h).2] at hb; simp at hb
  · obtain ⟨y, M, d, _, hi, _⟩ := m19_eq hF.1 hF.2
    obtain ⟨a, y1, M1, k1, k2, _, e⟩ := am_spec hF hi (n := n) h0 (by omega)
    obtain ⟨a', y2, M2, q1, q2, _, e'⟩ := am_spec hF hi (n := n') (by omega) (by omega)
    have hlt : a < a' := k1.lt q1 (.inl (by omega))
    have hFa : F ≤ a := by
      by_cases hn : n = 0
      · subst hn
        rw [am_0 hF] at e
        by_cases q : Dy a
        · rw [if_pos q] at e
          have := congrArg Prod.fst e
          simp only at this
          omega
        · rw [if_neg q] at e
          simp at e
      · exact hi.mono k1 (.inl (by omega))
    rw [hb] at e'
    by_cases q : Dy a'
    · rw [if_pos q] at e'
      have hba : b = a' := congrArg Prod.fst e'
      subst hba
      have hF0 := hF.1
      have hq := q.2
      rw [if_pos (show Dy a from ⟨by omega, by omega⟩)] at e
      exact ⟨a, e, hFa, hlt, q⟩
    · rw [if_neg q] at e'
      simp at e'

/-- The bound of a number. -/
noncomputable def bnd (F T E : Int) (k : Nat) : Int :=
  if k = 0 then F else if (am F (k * E)).2.1 ≠ 0 ∨ (am F (k * E)).1 > T then T else (am F (k * E)).1

theorem bnd_le {F T E : Int} (h : F < T) (k : Nat) : bnd F T E k ≤ T := by
  unfold bnd
  split
  · omega
  · split
    · omega
    · omega

theorem bnd_step {F T E : Int} (hF : Dy F) (hE : 1 ≤ E) (k : Nat) (h : bnd F T E k < T) : bnd F T E k < bnd F T E (k + 1) := by
  have hk : (0 : Int) ≤ k * E := Int.mul_nonneg (by omega) (by omega)
  have hkE : (k : Int) * E < ((k + 1 : Nat) : Int) * E := by
    rw [show (((k + 1 : Nat) : Int)) = (k : Int) + 1 by omega, Int.add_mul]; omega
  rw [show bnd F T E (k + 1) = if (am F (((k + 1 : Nat) : Int) * E)).2.1 ≠ 0 ∨ (am F (((k + 1 : Nat) : Int) * E)).1 > T then T else (am F (((k + 1 : Nat) : Int) * E)).1 by
    unfold bnd; rw [if_neg (by omega)]]
  split
  · exact h
  · rename_i hn
    rcases am_cases hF (n := ((k + 1 : Nat) : Int) * E) (by omega) with ⟨b, e, hb⟩ | e
    · obtain ⟨a, ea, hFa, hab, _⟩ := am_lt hF hk hkE e
      have : bnd F T E k ≤ a := by
        unfold bnd
        split
        · omega
        · rw [ea]
          split
          · rename_i h3
            rcases h3 with h3 | h3
            · simp at h3
            · simp only at h3
              unfold bnd at h
              rw [if_neg (by assumption), ea, if_pos (Or.inr h3)] at h
              omega
          · exact Int.le_refl _
      rw [e]
      simp only
      omega
    · rw [e] at hn
      simp at hn

theorem bnd_Dy {F T E : Int} (hF : Dy F) (hT : T ≤ 200000) (h : F < T) (hE : 1 ≤ E) (k : Nat) : F ≤ bnd F T E k ∧ Dy (bnd F T E k) := by
  have hF0 := hF.1
  have hl := bnd_le (E := E) h k
  have : F ≤ bnd F T E k := by
    unfold bnd
    split
    · omega
    · split
      · omega
      · rename_i hk hn
        have hk1 : (0 : Int) < k * E := Int.mul_pos (by omega) (by omega)
        rcases am_cases hF (n := (k : Int) * E) (by omega) with ⟨b, e, hb⟩ | e
        · obtain ⟨a, ea, hFa, hab, _⟩ := am_lt hF (Int.le_refl 0) hk1 e
          rw [e]; simp only; omega
        · rw [e] at hn; simp at hn
  exact ⟨this, by omega, by omega⟩

/-- How many periods. -/
theorem bnd_num {F T E : Int} (hF : Dy F) (hT : T ≤ 200000) (h : F < T) (hE : 1 ≤ E) : ∃ N : Nat, 1 ≤ N ∧ N ≤ 200000 ∧ bnd F T E N = T ∧ (∀ k, k < N → bnd F T E k < T) ∧ (∀ i j, i < j → j ≤ N → bnd F T E i < bnd F T E j) := by
  have hF0 := hF.1
  have key : ∀ (n k : Nat), (T - bnd F T E k).toNat ≤ n → F + k ≤ bnd F T E k → (∀ j, j < k → bnd F T E j < T) → ∃ N : Nat, k ≤ N ∧ (N : Int) + F ≤ T ∧ bnd F T E N = T ∧ ∀ j, j < N → bnd F T E j < T := by
    intro n
    induction n with
    | zero =>
      intro k h1 h2 h3
      have := bnd_le (E := E) h k
      exact ⟨k, Nat.le_refl _, by omega, by omega, h3⟩
    | succ n ih =>
      intro k h1 h2 h3
      have hl := bnd_le (E := E) h k
      by_cases hk : bnd F T E k < T
      · have hs := bnd_step hF hE k hk
        obtain ⟨N, q1, q2, q3, q4⟩ := ih (k + 1) (by omega) (by omega) (fun j hj => by
          by_cases hjk : j = k
          · subst hjk; exact hk
          · exact h3 j (by omega))
        exact ⟨N, by omega, q2, q3, q4⟩
      · exact ⟨k, Nat.le_refl _, by omega, by omega, h3⟩
  have e0 : bnd F T E 0 = F := by unfold bnd; rfl
  obtain ⟨N, q1, q2, q3, q4⟩ := key (T - F).toNat 0 (by rw [e0]; omega) (by rw [e0]; omega) (fun j hj => by omega)
  refine ⟨N, ?_, by omega, q3, q4, ?_⟩
  · by_cases hN : N = 0
    · subst hN; omega
    · omega
  · intro i j hij hj
    induction j with
    | zero => omega
    | succ j ih =>
      have hs := bnd_step hF hE j (q4 j (by omega))
      by_cases e : i = j
      · subst e; exact hs
      · have := ih (by omega) (by omega)
        omega

end Go.Proofs.Ytophafggfmhooaa
