/- SchedCut. -/
import Derived.Test.YtophafggfmhooaaS11
namespace Go.Proofs.Ytophafggfmhooaa
open Go Go.Eng
set_option linter.unusedVariables false
set_option linter.unusedSimpArgs false

/-- The terms with another end. -/
def cut (x : T29) (t : Int) : T29 := (x.1, x.2.1, x.2.2.1, x.2.2.2.1, t, x.2.2.2.2.2.1, x.2.2.2.2.2.2.1, x.2.2.2.2.2.2.2.1, x.2.2.2.2.2.2.2.2.1, x.2.2.2.2.2.2.2.2.2.1, x.2.2.2.2.2.2.2.2.2.2.1, x.2.2.2.2.2.2.2.2.2.2.2.1, x.2.2.2.2.2.2.2.2.2.2.2.2.1, x.2.2.2.2.2.2.2.2.2.2.2.2.2.1, x.2.2.2.2.2.2.2.2.2.2.2.2.2.2.1, x.2.2.2.2.2.2.2.2.2.2.2.2.2.2.2.1, x.2.2.2.2.2.2.2.2.2.2.2.2.2.2.2.2.1, x.2.2.2.2.2.2.2.2.2.2.2.2.2.2.2.2.2.1, x.2.2.2.2.2.2.2.2.2.2.2.2.2.2.2.2.2.2.1, x.2.2.2.2.2.2.2.2.2.2.2.2.2.2.2.2.2.2.2.1, x.2.2.2.2.2.2.2.2.2.2.2.2.2.2.2.2.2.2.2.2.1, ())

theorem cut_eq (x : T29) (t : Int) : ((x.1, x.2.1, x.2.2.1, x.2.2.2.1, t, x.2.2.2.2.2.1, x.2.2.2.2.2.2.1, x.2.2.2.2.2.2.2.1, x.2.2.2.2.2.2.2.2.1, x.2.2.2.2.2.2.2.2.2.1, x.2.2.2.2.2.2.2.2.2.2.1, x.2.2.2.2.2.2.2.2.2.2.2.1, x.2.2.2.2.2.2.2.2.2.2.2.2.1, x.2.2.2.2.2.2.2.2.2.2.2.2.2.1, x.2.2.2.2.2.2.2.2.2.2.2.2.2.2.1, x.2.2.2.2.2.2.2.2.2.2.2.2.2.2.2.1, x.2.2.2.2.2.2.2.2.2.2.2.2.2.2.2.2.1, x.2.2.2.2.2.2.2.2.2.2.2.2.2.2.2.2.2.1, x.2.2.2.2.2.2.2.2.2.2.2.2.2.2.2.2.2.2.1, x.2.2.2.2.2.2.2.2.2.2.2.2.2.2.2.2.2.2.2.1, x.2.2.2.2.2.2.2.2.2.2.2.2.2.2.2.2.2.2.2.2.1, ()) : T29) = cut x t := rfl

theorem cut_valid {x : T29} {t : Int} (hv : VX x) (h0 : x.2.2.2.1 < t) (h1 : t ≤ x.2.2.2.2.1) : VX (cut x t) := by
  obtain ⟨⟨v1, v2, v3⟩, v4, v5, v6⟩ := hv
  exact ⟨⟨v1, h0, by show t ≤ 200000; omega⟩, v4, v5, v6⟩

theorem cut_bx {x : T29} {t : Int} (h0 : x.2.2.2.1 < t) (h1 : t ≤ x.2.2.2.2.1) (k : Nat) : bx (cut x t) k = min (bx x k) t := by
  by_cases hk : k = 0
  · subst hk
    rw [bx_0, bx_0]
    show x.2.2.2.1 = _
    omega
  · rw [bx_eq _ hk, bx_eq _ hk]
    show (if (am x.2.2.2.1 (k * x.2.2.2.2.2.1)).2.1 ≠ 0 ∨ (am x.2.2.2.1 (k * x.2.2.2.2.2.1)).1 > t then t else (am x.2.2.2.1 (k * x.2.2.2.2.2.1)).1) = _
    generalize am x.2.2.2.1 (k * x.2.2.2.2.2.1) = r
    by_cases g : r.2.1 = 0
    · by_cases g1 : r.1 > x.2.2.2.2.1
      · rw [if_pos (Or.inr (by omega)), if_pos (Or.inr g1)]; omega
      · rw [if_neg (show ¬ (r.2.1 ≠ 0 ∨ r.1 > x.2.2.2.2.1) by omega)]
        split <;> omega
    · rw [if_pos (Or.inl g), if_pos (Or.inl g)]; omega

theorem l7_eq {R : Type} (x : T29) (c : T32) {N : Nat} (hN : N ≤ 200000) (y : T29) (k1 : Int → Option R) (q : Nat) (hq : q < N) (hlt : ∀ i, i < q → bx x (i + 1) < y.2.2.2.2.1) (hge : y.2.2.2.2.1 ≤ bx x (q + 1)) : ∀ (n m j : Nat), j + m = q → m < n →
    l7_1 (pl x c N) y k1 n (j : Int) = k1 (q : Int)
  | 0, _, _, _, h => by omega
  | n + 1, m, j, hj, hm => by
    unfold l7_1 s7_1
    rw [decide_eq_true (show (j : Int) < (List.length (pl x c N) : Int) by rw [pl_len]; omega), pl_idxG x c _ (fun _ => by omega)]
    simp only [Option.bind_some, beq_self_eq_true, cond_true, Bool.true_and]
    rw [show (perV x c j).2.1 = bx x (j + 1) from rfl]
    cases m with
    | zero =>
      have : j = q := by omega
      subst this
      rw [decide_eq_false (by omega)]
      rfl
    | succ m =>
      rw [decide_eq_true (hlt j (by omega)), wrapI (by omega) (by omega)]
      exact l7_eq x c hN y k1 q hq hlt hge n m (j + 1) (by omega) (by omega)

theorem wf_u16 {n : Int} (h : Wf (.int .u16) n) : 0 ≤ n ∧ n ≤ 65535 := by
  have h : (Lit.int .u16 n).wf = true := h
  simp [Lit.wf, IntKind.min, IntKind.max, IntKind.bits, IntKind.signed] at h
  omega

theorem schedCut (x : T29) (c : T32) (by' : Int) (hby : 0 ≤ by' ∧ by' ≤ 65535) : m7 x c by' = some true := by
  unfold m7
  obtain ⟨b, hb, _⟩ := m10_eq x c
  rw [m9_eq, hb]
  simp only [Option.bind_some]
  cases b with
  | false => rfl
  | true =>
    rcases m11_cases x c with ⟨N, hv, hr, hN, hE, e⟩ | ⟨e, he, h⟩
    · rw [e]
      have hF := FUEL_eq
      have hle := hN.le
      obtain ⟨⟨v1, v2, v3⟩, ⟨v4, v5⟩, _, _⟩ := id hv
      simp only [Option.bind_some, Bool.not_true, cond_false, bne_same]
      rw [wrapI (x := x.2.2.2.2.1 - x.2.2.2.1) (by omega) (by omega), wrapI (x := by') (by omega) (by omega), tmod_pos _ hby.1, wrapI (x := x.2.2.2.1 + 1) (by omega) (by omega)]
      have hm0 := Int.emod_nonneg by' (show x.2.2.2.2.1 - x.2.2.2.1 ≠ 0 by omega)
      have hm1 := Int.emod_lt_of_pos by' (show 0 < x.2.2.2.2.1 - x.2.2.2.1 by omega)
      rw [wrapI (x := x.2.2.2.1 + 1 + by' % (x.2.2.2.2.1 - x.2.2.2.1)) (by omega) (by omega)]
      rw [show (x.2.2.2.2.1 - x.2.2.2.1 != 0) = true by simp; omega, asrtT]
      have ht0 : x.2.2.2.1 < x.2.2.2.1 + 1 + by' % (x.2.2.2.2.1 - x.2.2.2.1) := by omega
      have ht1 : x.2.2.2.1 + 1 + by' % (x.2.2.2.2.1 - x.2.2.2.1) ≤ x.2.2.2.2.1 := by omega
      generalize x.2.2.2.1 + 1 + by' % (x.2.2.2.2.1 - x.2.2.2.1) = t at ht0 ht1
      simp only [cut_eq]
      have hbx := cut_bx ht0 ht1
      have hvc := cut_valid hv ht0 ht1
      rcases m11_cases (cut x t) c with ⟨N', hv', hr', hN', hE', e'⟩ | ⟨e, he, h⟩
      · rw [e']
        simp only [Option.bind_some, bne_same, cond_false]
        have hle' := hN'.le
        have hone' := hN'.one
        have t' : (cut x t).2.2.2.2.1 = t := rfl
        have hlast := hN'.last
        rw [hbx, t'] at hlast
        have hq : N' - 1 < N := by
          by_cases g : N' ≤ N
          · omega
          · have h1 := hN'.lt N (by omega)
            rw [hbx, t', hN.last] at h1
            omega
        have hlt : ∀ i, i < N' - 1 → bx x (i + 1) < t := fun i hi => by
          have := hN'.lt (i + 1) (by omega)
          rw [hbx, t'] at this
          omega
        have hfin := l7_eq (R := Bool) x c hle (cut x t) (fun y6 =>
              bif (((List.length (pl (cut x t) c N') : Int) != (IntKind.i64.wrap (y6 + 1))) || (decide (y6 ≥ (List.length (pl x c N) : Int)))) then
                some false
              else
                asrt (true == true) (bounds true (List.length (pl (cut x t) c N')) 0 y6) (
                  asrt (true == true) (bounds true (List.length (pl x c N)) 0 y6) (
                    (bif (true == true) then (m15 (subl (pl (cut x t) c N') 0 y6) (subl (pl x c N) 0 y6)) else some false).bind fun r7 =>
                    (idxG ((true && r7) == true) (0, 0, 0, 0, ()) (pl (cut x t) c N') y6).bind fun x8 =>
                    (idxG ((true && r7) == true) (0, 0, 0, 0, ()) (pl x c N) y6).bind fun x9 =>
                    (idxG (((true && r7) && (x8.1 == x9.1)) == true) (0, 0, 0, 0, ()) (pl (cut x t) c N') y6).bind fun x10 =>
                    some (((true && r7) && (x8.1 == x9.1)) && (x10.2.1 == (cut x t).2.2.2.2.1))))) (N' - 1) hq hlt (by rw [show N' - 1 + 1 = N' by omega, t']; omega) FUEL (N' - 1) 0 (by omega) (fuel_lt (by omega))
        rw [show ((0 : Nat) : Int) = 0 from rfl] at hfin
        refine Eq.trans hfin ?_
        have q0 : ((N' - 1 : Nat) : Int) + 1 = (N' : Int) := by omega
        have b1 : ∀ n : Nat, N' - 1 ≤ n → bounds true n 0 ((N' - 1 : Nat) : Int) = true := by
          intro n hn
          unfold bounds
          rw [decide_eq_true (show (0 : Int) ≤ 0 by omega), decide_eq_true (show (0 : Int) ≤ ((N' - 1 : Nat) : Int) by omega), decide_eq_true (show ((N' - 1 : Nat) : Int) ≤ (n : Int) by omega)]
          rfl
        have hV : ∀ i, i < N' - 1 → perV (cut x t) c i = perV x c i := by
          intro i hi
          have h1 : bx (cut x t) (i + 1) = bx x (i + 1) := by
            rw [hbx]; have := hlt i hi; omega
          have h2 : bx (cut x t) i = bx x i := by
            rw [hbx]
            have := hlt i hi
            have := hN.mono i (i + 1) (by omega) (by omega)
            omega
          unfold perV rec' pay
          rw [h1, h2]
          rfl
        have hS : subl (pl (cut x t) c N') 0 ((N' - 1 : Nat) : Int) = subl (pl x c N) 0 ((N' - 1 : Nat) : Int) := by
          unfold subl
          rw [Int.toNat_natCast]
          congr 1
          apply List.ext_getElem?
          intro i
          by_cases hi : i < N' - 1
          · rw [List.getElem?_take_of_lt hi, List.getElem?_take_of_lt hi, pl_get _ c (by omega), pl_get x c (by omega), hV i hi]
          · rw [List.getElem?_eq_none (by rw [List.length_take]; omega), List.getElem?_eq_none (by rw [List.length_take]; omega)]
        have hSl : (subl (pl x c N) 0 ((N' - 1 : Nat) : Int)).length ≤ 200000 := by
          unfold subl
          rw [List.length_drop, List.length_take]
          omega
        simp only [pl_len]
        rw [wrapI (x := ((N' - 1 : Nat) : Int) + 1) (by omega) (by omega), q0, bne_same, decide_eq_false (show ¬ ((N' - 1 : Nat) : Int) ≥ (N : Int) by omega), b1 _ (by omega), b1 _ (by omega), hS, m15_same _ hSl]
        have f1 : (perV (cut x t) c (N' - 1)).1 = (perV x c (N' - 1)).1 := by
          show bx (cut x t) (N' - 1) = bx x (N' - 1)
          rw [hbx]
          by_cases g : N' = 1
          · subst g
            rw [show 1 - 1 = 0 from rfl, bx_0]
            omega
          · have := hlt (N' - 2) (by omega)
            rw [show N' - 2 + 1 = N' - 1 by omega] at this
            omega
        have f2 : (perV (cut x t) c (N' - 1)).2.1 = t := by
          show bx (cut x t) (N' - 1 + 1) = t
          rw [show N' - 1 + 1 = N' by omega, hN'.last]
          exact t'
        simp only [Bool.or_self, cond_false, beq_self_eq_true, asrtT, cond_true, Option.bind_some, Bool.and_self, idxG, pl_idx (cut x t) c (show N' - 1 < N' by omega), pl_idx x c hq, f1, f2]
        rw [t']
        simp
      · rw [h]
        have : (e != 0) = true := by simpa using he
        simp [this]
    · rw [h]
      have : (e != 0) = true := by simpa using he
      simp [this]

end Go.Proofs.Ytophafggfmhooaa
