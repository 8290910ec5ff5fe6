/- SchedMonths. -/
import Derived.Test.YtophafggfmhooaaS8
namespace Go.Proofs.Ytophafggfmhooaa
open Go Go.Eng
set_option linter.unusedVariables false
set_option linter.unusedSimpArgs false

theorem bx_eq (x : T29) {k : Nat} (hk : k ≠ 0) : bx x k = if (am x.2.2.2.1 (k * x.2.2.2.2.2.1)).2.1 ≠ 0 ∨ (am x.2.2.2.1 (k * x.2.2.2.2.2.1)).1 > x.2.2.2.2.1 then x.2.2.2.2.1 else (am x.2.2.2.1 (k * x.2.2.2.2.2.1)).1 := by
  unfold bx bnd; rw [if_neg hk]

theorem am_bx {x : T29} (hv : VX x) {N : Nat} (hN : Num x N) {i : Nat} (h : i < N) : am x.2.2.2.1 (i * x.2.2.2.2.2.1) = (bx x i, 0, ()) := by
  obtain ⟨⟨v1, v2, v3⟩, ⟨v4, v5⟩, _, _⟩ := id hv
  have hF : Dy x.2.2.2.1 := ⟨v1, by omega⟩
  have hle := hN.le
  by_cases e : i = 0
  · subst e
    rw [show ((0 : Nat) : Int) * x.2.2.2.2.2.1 = 0 by omega, am_0 hF]
    rfl
  · have hlt := hN.lt i h
    obtain ⟨e1, e2⟩ := kE (k := i) (by omega) v4 v5
    rw [bx_eq x e] at hlt ⊢
    rcases am_cases hF e1 with ⟨a, ea, ha⟩ | ea
    · rw [ea] at hlt ⊢
      split at hlt
      · omega
      · rename_i hn
        rw [if_neg hn]
    · rw [ea] at hlt
      simp at hlt

/-- The date of a bound. -/
theorem bx_date {x : T29} (hv : VX x) {N : Nat} (hN : Num x N) {i : Nat} (h : i < N) {y d : Int} {M : Nat} (hd : IsDate x.2.2.2.1 y M d) :
    ∃ (y' : Int) (M' : Nat), IsDate (bx x i) y' M' (min d (last y' (M' + 1))) ∧ 12 * y' + M' = 12 * y + M + i * x.2.2.2.2.2.1 := by
  obtain ⟨⟨v1, v2, v3⟩, ⟨v4, v5⟩, _, _⟩ := id hv
  have hF : Dy x.2.2.2.1 := ⟨v1, by omega⟩
  have hle := hN.le
  obtain ⟨e1, e2⟩ := kE (k := i) (by omega) v4 v5
  have e := am_bx hv hN h
  by_cases hb : (i : Int) * x.2.2.2.2.2.1 > 10000
  · rw [(am_big hb).2] at e; simp at e
  · obtain ⟨a, y', M', k1, k2, _, k4⟩ := am_spec hF hd e1 (by omega)
    rw [e] at k4
    by_cases q : Dy a
    · rw [if_pos q] at k4
      have : bx x i = a := congrArg Prod.fst k4
      rw [this]
      exact ⟨y', M', k1, k2⟩
    · rw [if_neg q] at k4; simp at k4

theorem bx_next {x : T29} (hv : VX x) {N : Nat} (hN : Num x N) {i : Nat} (h : i < N) : ((am x.2.2.2.1 (((i + 1 : Nat) : Int) * x.2.2.2.2.2.1)).2.1 = 0 → bx x (i + 1) ≤ (am x.2.2.2.1 (((i + 1 : Nat) : Int) * x.2.2.2.2.2.1)).1) ∧
    (i + 1 < N → am x.2.2.2.1 (((i + 1 : Nat) : Int) * x.2.2.2.2.2.1) = (bx x (i + 1), 0, ())) := by
  refine ⟨fun h0 => ?_, fun h1 => am_bx hv hN h1⟩
  rw [bx_eq x (by omega)]
  split
  · rename_i h1
    rcases h1 with h1 | h1
    · exact absurd h0 h1
    · omega
  · omega

theorem l5_eq {R : Type} (x : T29) (c : T32) (hv : VX x) {N : Nat} (hN : Num x N) {y d : Int} {M : Nat} (hd : IsDate x.2.2.2.1 y M d) (k1 k2 : Option R) : ∀ (n m j : Nat), j + m = N → m < n →
    l5_1 (pl x c N) y ((M : Int) + 1) d x k1 k2 n (j : Int) = k1
  | 0, _, _, _, h => by omega
  | n + 1, 0, j, hj, hm => by
    unfold l5_1 s5_1
    rw [decide_eq_false (by rw [pl_len]; omega)]
    rfl
  | n + 1, m + 1, j, hj, hm => by
    obtain ⟨⟨v1, v2, v3⟩, ⟨v4, v5⟩, _, _⟩ := id hv
    have hF : Dy x.2.2.2.1 := ⟨v1, by omega⟩
    have hle := hN.le
    unfold l5_1 s5_1
    rw [decide_eq_true (by rw [pl_len]; omega), pl_idx x c (by omega)]
    obtain ⟨y', M', k1', k2'⟩ := bx_date hv hN (show j < N by omega) hd
    have hDb : Dy (bx x j) := (bnd_Dy hF v3 v2 v4 j).2
    have hys := hd.ys hF.1 hF.2
    have hys' := k1'.ys hDb.1 hDb.2
    have hm1 := hd.m
    have hm2 := k1'.m
    obtain ⟨e1, e2⟩ := kE (k := j) (by omega) v4 v5
    obtain ⟨f1, f2⟩ := kE (k := j + 1) (by omega) v4 v5
    simp only [Option.bind_some, cond_true]
    rw [show (perV x c j).1 = bx x j from rfl, m19_of k1' hDb.1 hDb.2]
    simp only [Option.bind_some]
    have c1 : (IntKind.i64.wrap (IntKind.i64.wrap (12 * y') + ((M' : Int) + 1)) != IntKind.i64.wrap (IntKind.i64.wrap (IntKind.i64.wrap (12 * y) + ((M : Int) + 1)) + IntKind.i64.wrap ((j : Int) * x.2.2.2.2.2.1))) = false := by
      rw [wrapI (x := 12 * y') (by omega) (by omega), wrapI (x := 12 * y' + ((M' : Int) + 1)) (by omega) (by omega), wrapI (x := 12 * y) (by omega) (by omega), wrapI (x := 12 * y + ((M : Int) + 1)) (by omega) (by omega), wrapI (x := (j : Int) * x.2.2.2.2.2.1) (by omega) (by omega), wrapI (by omega) (by omega)]
      rw [show 12 * y' + ((M' : Int) + 1) = 12 * y + ((M : Int) + 1) + (j : Int) * x.2.2.2.2.2.1 by omega]
      exact bne_same _
    rw [c1]
    simp only [bne_same, Bool.or_self, beq_self_eq_true, cond_true, m20_eq, Option.bind_some, Bool.false_or, min_eq, cond_false]
    rw [wrapI (x := (j : Int) + 1) (by omega) (by omega), show (j : Int) + 1 = ((j + 1 : Nat) : Int) by omega, wrapI (x := ((j + 1 : Nat) : Int) * x.2.2.2.2.2.1) (by omega) (by omega), am_some hF f1, pl_len, wrapI (x := (N : Int) - 1) (by omega) (by omega)]
    obtain ⟨g1, g2⟩ := bx_next hv hN (show j < N by omega)
    simp only [Option.bind_some]
    rw [pl_idxG x c _ (fun _ => by omega)]
    simp only [Option.bind_some]
    rw [pl_idxG x c _ (fun _ => by omega)]
    simp only [Option.bind_some]
    have hfin : (((am x.2.2.2.1 (((j + 1 : Nat) : Int) * x.2.2.2.2.2.1)).2.1 == 0) && ((decide ((bif ((am x.2.2.2.1 (((j + 1 : Nat) : Int) * x.2.2.2.2.2.1)).2.1 == 0) == true then perV x c j else (0, 0, 0, 0, ())).2.1 > (am x.2.2.2.1 (((j + 1 : Nat) : Int) * x.2.2.2.2.2.1)).1)) || ((decide ((j : Int) < (N : Int) - 1)) && ((bif ((((am x.2.2.2.1 (((j + 1 : Nat) : Int) * x.2.2.2.2.2.1)).2.1 == 0) == true) && ((decide ((bif ((am x.2.2.2.1 (((j + 1 : Nat) : Int) * x.2.2.2.2.2.1)).2.1 == 0) == true then perV x c j else (0, 0, 0, 0, ())).2.1 > (am x.2.2.2.1 (((j + 1 : Nat) : Int) * x.2.2.2.2.2.1)).1)) == false) && ((decide ((j : Int) < (N : Int) - 1)) == true)) then perV x c j else (0, 0, 0, 0, ())).2.1 != (am x.2.2.2.1 (((j + 1 : Nat) : Int) * x.2.2.2.2.2.1)).1)))) = false ∧ (((am x.2.2.2.1 (((j + 1 : Nat) : Int) * x.2.2.2.2.2.1)).2.1 != 0) && decide ((j : Int) < (N : Int) - 1)) = false := by
      have hV : (perV x c j).2.1 = bx x (j + 1) := rfl
      generalize am x.2.2.2.1 (((j + 1 : Nat) : Int) * x.2.2.2.2.2.1) = r at g1 g2
      by_cases hj1 : j + 1 < N
      · have e := g2 hj1
        subst e
        rw [decide_eq_true (show (j : Int) < (N : Int) - 1 by omega)]
        simp [hV]
      · rw [decide_eq_false (show ¬ (j : Int) < (N : Int) - 1 by omega)]
        refine ⟨?_, by simp⟩
        by_cases h0 : r.2.1 = 0
        · have := g1 h0
          simp [h0, hV]; omega
        · simp [h0]
    rw [hfin.1, hfin.2]
    simp only [Bool.or_self, cond_false]
    exact l5_eq x c hv hN hd k1 k2 n m (j + 1) (by omega) (by omega)

theorem schedMonths (x : T29) (c : T32) : m5 x c = some true := by
  unfold m5
  obtain ⟨b, hb, _⟩ := m10_eq x c
  rw [m9_eq, hb]
  simp only [Option.bind_some]
  cases b with
  | false => rfl
  | true =>
    rcases m11_cases x c with ⟨N, hv, hr, hN, hE, e⟩ | ⟨e, he, h⟩
    · rw [e]
      have hF := FUEL_eq
      have hle := hN.le
      obtain ⟨⟨v1, v2, v3⟩, ⟨v4, v5⟩, _, _⟩ := id hv
      obtain ⟨y, M, d, e1, hi, _⟩ := m19_eq v1 (show x.2.2.2.1 ≤ 200000 by omega)
      simp only [Option.bind_some, Bool.not_true, cond_false, bne_same, e1]
      exact l5_eq x c hv hN hi _ _ FUEL N 0 (by omega) (fuel_lt (by omega))
    · rw [h]
      have : (e != 0) = true := by simpa using he
      simp [this]

end Go.Proofs.Ytophafggfmhooaa
