/- The periods: closed forms. -/
import Derived.Test.YtophafggfmhooaaS4
namespace Go.Proofs.Ytophafggfmhooaa
open Go Go.Eng
set_option linter.unusedVariables false
set_option linter.unusedSimpArgs false

/-- Terms that are valid. -/
def VX (x : T29) : Prop := (0 ≤ x.2.2.2.1 ∧ x.2.2.2.1 < x.2.2.2.2.1 ∧ x.2.2.2.2.1 ≤ 200000) ∧ (1 ≤ x.2.2.2.2.2.1 ∧ x.2.2.2.2.2.1 ≤ 1200) ∧ (0 ≤ x.2.2.2.2.2.2.2.1 ∧ x.2.2.2.2.2.2.2.1 ≤ 3) ∧ (0 ≤ x.2.2.2.2.2.2.2.2.1 ∧ x.2.2.2.2.2.2.2.2.1 ≤ 1000)
instance (x : T29) : Decidable (VX x) := by unfold VX; infer_instance

theorem m26_eq (x : T29) : m26 x = some (decide (VX x)) := by
  unfold m26 m43
  have g : ∀ b : Bool, (bif (b == true) then some true else some false) = some b := by intro b; cases b <;> rfl
  have g2 : ∀ (b d : Bool), (bif (b == true) then some d else some false) = some (b && d) := by intro b d; cases b <;> rfl
  simp only [g2, Option.bind_some]
  congr 1
  rw [Bool.eq_iff_iff]
  simp only [Bool.and_eq_true, decide_eq_true_eq]
  unfold VX
  constructor
  · intro h; omega
  · intro h; omega

theorem m30_eq (x : T29) : m30 x = some (decide (VX x)) := by
  unfold m30
  by_cases h : 0 ≤ x.2.2.2.1 ∧ x.2.2.2.1 < x.2.2.2.2.1 ∧ x.2.2.2.2.1 ≤ 200000
  · rw [bifF (by simp; omega)]
    congr 1
    rw [Bool.eq_iff_iff]
    simp only [Bool.and_eq_true, decide_eq_true_eq]
    unfold VX
    constructor
    · intro h; omega
    · intro h; omega
  · rw [bifT (by simp; omega), decide_eq_false (fun g => h ⟨g.1.1, g.1.2.1, g.1.2.2⟩)]

/-- The bounds of the terms. -/
noncomputable def bx (x : T29) (k : Nat) : Int := bnd x.2.2.2.1 x.2.2.2.2.1 x.2.2.2.2.2.1 k
noncomputable def pay (x : T29) (c : T32) (k : Nat) : Int × Int × Unit := adj c (bx x (k + 1)) x.2.2.2.2.2.2.2.1
noncomputable def rec' (x : T29) (c : T32) (k : Nat) : Int × Int × Unit := bk c (pay x c k).1 x.2.2.2.2.2.2.2.2.1
/-- What is wrong with a period. -/
noncomputable def perE (x : T29) (c : T32) (k : Nat) : Int := if (pay x c k).2.1 ≠ 0 then (pay x c k).2.1 else (rec' x c k).2.1
/-- A period. -/
noncomputable def perV (x : T29) (c : T32) (k : Nat) : T46 := (bx x k, bx x (k + 1), (pay x c k).1, (rec' x c k).1, ())

noncomputable def out (x : T29) (c : T32) : Nat → Nat → List T46 → List T46 × Int × Unit
  | _, 0, acc => (acc, 0, ())
  | k, n + 1, acc => if perE x c k ≠ 0 then ([], perE x c k, ()) else out x c (k + 1) n (acc ++ [perV x c k])

theorem out_succ (x : T29) (c : T32) (k n : Nat) (acc : List T46) : out x c k (n + 1) acc = if perE x c k ≠ 0 then ([], perE x c k, ()) else out x c (k + 1) n (acc ++ [perV x c k]) := rfl

theorem kE {k : Nat} {E : Int} (hk : k ≤ 200001) (h0 : 1 ≤ E) (h1 : E ≤ 1200) : 0 ≤ (k : Int) * E ∧ (k : Int) * E ≤ 240001200 := by
  refine ⟨Int.mul_nonneg (by omega) (by omega), ?_⟩
  have := Int.mul_le_mul (a := (k : Int)) (b := E) (c := 200001) (d := 1200) (by omega) h1 (by omega) (by omega)
  omega

theorem pick_bnd {R : Type} {F T E : Int} (k : Nat) (f : Int → Option R) : (bif ((am F (((k + 1 : Nat) : Int) * E)).2.1 != 0) || decide ((am F (((k + 1 : Nat) : Int) * E)).1 > T) then f T else f (am F (((k + 1 : Nat) : Int) * E)).1) = f (bnd F T E (k + 1)) := by
  rw [show bnd F T E (k + 1) = if (am F (((k + 1 : Nat) : Int) * E)).2.1 ≠ 0 ∨ (am F (((k + 1 : Nat) : Int) * E)).1 > T then T else (am F (((k + 1 : Nat) : Int) * E)).1 by
    unfold bnd; rw [if_neg (by omega)]]
  generalize am F (((k + 1 : Nat) : Int) * E) = r
  by_cases h1 : r.2.1 = 0
  · by_cases h2 : r.1 > T
    · simp [h1, h2]
    · rw [if_neg (by simp [h1]; omega), bifF (by simp [h1]; omega)]
  · rw [if_pos (Or.inl h1), bifT (by simp [h1])]

theorem pick_bnd' {R : Type} {F T E : Int} (k : Nat) (f : Int → Option R) : (bif ((am F (((k + 1 : Nat) : Int) * E)).2.1 != 0) || decide ((am F (((k + 1 : Nat) : Int) * E)).1 ≥ T) then f T else f (am F (((k + 1 : Nat) : Int) * E)).1) = f (bnd F T E (k + 1)) := by
  rw [← pick_bnd (F := F) (T := T) (E := E) k f]
  generalize am F (((k + 1 : Nat) : Int) * E) = r
  by_cases h1 : r.2.1 = 0
  · by_cases h2 : r.1 > T
    · rw [bifT (by simp [h1]; omega), bifT (by simp [h1]; omega)]
    · by_cases h3 : r.1 = T
      · rw [bifT (by simp [h1]; omega), bifF (by simp [h1]; omega), h3]
      · rw [bifF (by simp [h1]; omega), bifF (by simp [h1]; omega)]
  · rw [bifT (by simp [h1]), bifT (by simp [h1])]

theorem pick1 {R : Type} {F T E : Int} (k : Nat) (f : Int → Option R) : cont (fun (q : Int → Option R) => bif ((am F (((k + 1 : Nat) : Int) * E)).2.1 != 0) || decide ((am F (((k + 1 : Nat) : Int) * E)).1 > T) then q T else q (am F (((k + 1 : Nat) : Int) * E)).1) f = f (bnd F T E (k + 1)) := pick_bnd k f
theorem pick2 {R : Type} {F T E : Int} (k : Nat) (f : Int → Option R) : cont (fun (q : Int → Option R) => bif ((am F (((k + 1 : Nat) : Int) * E)).2.1 != 0) || decide ((am F (((k + 1 : Nat) : Int) * E)).1 ≥ T) then q T else q (am F (((k + 1 : Nat) : Int) * E)).1) f = f (bnd F T E (k + 1)) := pick_bnd' k f

theorem l11_eq {R : Type} (x : T29) (c : T32) (hv : VX x) (hr : RightC c) (k1 : List T46 → Option R) (k2 : Int → Option R) : ∀ (n m k : Nat) (acc : List T46), k + m ≤ 200000 → (∀ j, j < k + m → bx x j < x.2.2.2.2.1) → bx x (k + m) = x.2.2.2.2.1 → m < n → acc.length = k →
    l11_1 x c k1 k2 n (bx x k) (((k + 1 : Nat) : Int) * x.2.2.2.2.2.1) acc = bif (out x c k m acc).2.1 == 0 then k1 (out x c k m acc).1 else k2 (out x c k m acc).2.1
  | 0, _, _, _, _, _, _, h, _ => by omega
  | n + 1, 0, k, acc, hk, hlt, he, hm, ha => by
    unfold l11_1 s11_1
    rw [decide_eq_false (by rw [show bx x k = x.2.2.2.2.1 from he]; omega)]
    rfl
  | n + 1, m + 1, k, acc, hk, hlt, he, hm, ha => by
    unfold l11_1 s11_1
    obtain ⟨⟨v1, v2, v3⟩, ⟨v4, v5⟩, _, _⟩ := id hv
    have hF : Dy x.2.2.2.1 := ⟨v1, by omega⟩
    obtain ⟨e1, e2⟩ := kE (k := k + 1) (by omega) v4 v5
    rw [decide_eq_true (hlt k (by omega)), am_some hF e1]
    simp only [Option.bind_some, cond_true]
    rw [pick1 k]
    simp only [m28_eq, m29_eq, Option.bind_some]
    rw [show adj c (bnd x.2.2.2.1 x.2.2.2.2.1 x.2.2.2.2.2.1 (k + 1)) x.2.2.2.2.2.2.2.1 = pay x c k from rfl, show bk c (pay x c k).1 x.2.2.2.2.2.2.2.2.1 = rec' x c k from rfl, out_succ]
    by_cases h1 : (pay x c k).2.1 = 0
    · by_cases h2 : (rec' x c k).2.1 = 0
      · have hE : perE x c k = 0 := by unfold perE; rw [if_neg (by simp [h1]), h2]
        have hd : decide (List.length (α := T46) acc + List.length (α := T46) [(bx x k, bnd x.2.2.2.1 x.2.2.2.2.1 x.2.2.2.2.2.1 (k + 1), (pay x c k).1, (rec' x c k).1, ())] ≤ LIM) = true := by
          apply decide_eq_true
          rw [ha]; unfold LIM; simp; omega
        rw [hE, h1, h2, hd, asrtT, wrapI (by omega) (by omega), if_neg (by simp)]
        simp only [bne_same, cond_false]
        rw [show ((k + 1 : Nat) : Int) * x.2.2.2.2.2.1 + x.2.2.2.2.2.1 = ((k + 1 + 1 : Nat) : Int) * x.2.2.2.2.2.1 by
          rw [show ((k + 1 + 1 : Nat) : Int) = ((k + 1 : Nat) : Int) + 1 by omega, Int.add_mul]; omega]
        exact l11_eq x c hv hr k1 k2 n m (k + 1) _ (by omega) (fun j hj => hlt j (by omega)) (by rw [show k + 1 + m = k + (m + 1) by omega]; exact he) (by omega) (by simp [ha])
      · have hE : perE x c k = (rec' x c k).2.1 := by unfold perE; rw [if_neg (by simp [h1])]
        rw [hE, if_pos h2, h1]
        have hb : ((rec' x c k).2.1 != 0) = true := by simpa using h2
        have hb' : ((rec' x c k).2.1 == 0) = false := by simpa using h2
        simp [hb, hb']
    · have hE : perE x c k = (pay x c k).2.1 := by unfold perE; rw [if_pos h1]
      rw [hE, if_pos h1]
      have hb : ((pay x c k).2.1 != 0) = true := by simpa using h1
      have hb' : ((pay x c k).2.1 == 0) = false := by simpa using h1
      simp [hb, hb']

/-- The list of bounds. -/
noncomputable def bs (x : T29) (n : Nat) : List Int := (List.range n).map (bx x)
theorem bs_len (x : T29) (n : Nat) : (bs x n).length = n := by simp [bs]
theorem bs_get (x : T29) {n i : Nat} (h : i < n) : (bs x n)[i]? = some (bx x i) := by
  unfold bs
  rw [List.getElem?_map, List.getElem?_range h]
  rfl
theorem bs_succ (x : T29) (n : Nat) : bs x (n + 1) = bs x n ++ [bx x n] := by
  simp [bs, List.range_succ]

theorem l32b_eq {R : Type} (x : T29) (hv : VX x) (k1 : List Int → Option R) : ∀ (n m k : Nat), k + m ≤ 200000 → (∀ j, j < k + m → bx x j < x.2.2.2.2.1) → bx x (k + m) = x.2.2.2.2.1 → m < n →
    l32_1 x k1 n ((k + 1 : Nat) : Int) (bs x (k + 1)) = k1 (bs x (k + m + 1))
  | 0, _, _, _, _, _, h => by omega
  | n + 1, m, k, hk, hlt, he, hm => by
    unfold l32_1 s32_1
    rw [wrapI (x := ((k + 1 : Nat) : Int) - 1) (by omega) (by omega), show ((k + 1 : Nat) : Int) - 1 = (k : Int) by omega, bs_len, Int.toNat_natCast, bs_get x (by omega),
      decide_eq_true (show (0 : Int) ≤ (k : Int) by omega), decide_eq_true (show (k : Int) < ((k + 1 : Nat) : Int) by omega)]
    simp only [Bool.and_self, asrtT, Option.bind_some]
    obtain ⟨⟨v1, v2, v3⟩, ⟨v4, v5⟩, _, _⟩ := id hv
    have hF : Dy x.2.2.2.1 := ⟨v1, by omega⟩
    cases m with
    | zero =>
      rw [decide_eq_false (by rw [show bx x k = x.2.2.2.2.1 from he]; omega)]
      rfl
    | succ m =>
      obtain ⟨e1, e2⟩ := kE (k := k + 1) (by omega) v4 v5
      rw [decide_eq_true (hlt k (by omega)), wrapI (x := ((k + 1 : Nat) : Int) * x.2.2.2.2.2.1) (by omega) (by omega), m48_eq, am_some hF e1]
      simp only [Option.bind_some, cond_true]
      rw [pick2 k, show bnd x.2.2.2.1 x.2.2.2.2.1 x.2.2.2.2.2.1 (k + 1) = bx x (k + 1) from rfl]
      have hd : decide (k + 1 + List.length (α := Int) [bx x (k + 1)] ≤ LIM) = true := by
        apply decide_eq_true
        unfold LIM; simp; omega
      rw [hd, asrtT, wrapI (by omega) (by omega), ← bs_succ, show ((k + 1 : Nat) : Int) + 1 = ((k + 1 + 1 : Nat) : Int) by omega,
        show k + (m + 1) + 1 = k + 1 + m + 1 by omega]
      exact l32b_eq x hv k1 n m (k + 1) (by omega) (fun j hj => hlt j (by omega)) (by rw [show k + 1 + m = k + (m + 1) by omega]; exact he) (by omega)

theorem l12_eq {R : Type} (x : T29) (c : T32) (N : Nat) (hN : N ≤ 200000) (k1 : List T46 → Option R) (k2 : Int → Option R) : ∀ (n m k : Nat) (acc : List T46), k + m = N → m < n → acc.length = k →
    l12_1 (bs x (N + 1)) x c k1 k2 n ((k + 1 : Nat) : Int) acc = bif (out x c k m acc).2.1 == 0 then k1 (out x c k m acc).1 else k2 (out x c k m acc).2.1
  | 0, _, _, _, _, h, _ => by omega
  | n + 1, 0, k, acc, hk, hm, ha => by
    unfold l12_1 s12_1
    rw [decide_eq_false (by rw [bs_len]; omega)]
    rfl
  | n + 1, m + 1, k, acc, hk, hm, ha => by
    unfold l12_1 s12_1
    rw [decide_eq_true (by rw [bs_len]; omega), idx_nat, bs_get x (by omega), wrapI (x := ((k + 1 : Nat) : Int) - 1) (by omega) (by omega), show ((k + 1 : Nat) : Int) - 1 = (k : Int) by omega, idx_nat, bs_get x (by omega)]
    simp only [Option.bind_some, cond_true, m33_eq, m34_eq]
    rw [show adj c (bx x (k + 1)) x.2.2.2.2.2.2.2.1 = pay x c k from rfl, show bk c (pay x c k).1 x.2.2.2.2.2.2.2.2.1 = rec' x c k from rfl, out_succ]
    by_cases h1 : (pay x c k).2.1 = 0
    · by_cases h2 : (rec' x c k).2.1 = 0
      · have hE : perE x c k = 0 := by unfold perE; rw [if_neg (by simp [h1]), h2]
        have hd : decide (List.length (α := T46) acc + List.length (α := T46) [(bx x k, bx x (k + 1), (pay x c k).1, (rec' x c k).1, ())] ≤ LIM) = true := by
          apply decide_eq_true
          rw [ha]; unfold LIM; simp; omega
        rw [hE, h1, h2, hd, asrtT, wrapI (by omega) (by omega), if_neg (by simp)]
        simp only [bne_same, cond_false]
        rw [show ((k + 1 : Nat) : Int) + 1 = ((k + 1 + 1 : Nat) : Int) by omega]
        exact l12_eq x c N hN k1 k2 n m (k + 1) _ (by omega) (by omega) (by simp [ha])
      · have hE : perE x c k = (rec' x c k).2.1 := by unfold perE; rw [if_neg (by simp [h1])]
        rw [hE, if_pos h2, h1]
        have hb : ((rec' x c k).2.1 != 0) = true := by simpa using h2
        have hb' : ((rec' x c k).2.1 == 0) = false := by simpa using h2
        simp [hb, hb']
    · have hE : perE x c k = (pay x c k).2.1 := by unfold perE; rw [if_pos h1]
      rw [hE, if_pos h1]
      have hb : ((pay x c k).2.1 != 0) = true := by simpa using h1
      have hb' : ((pay x c k).2.1 == 0) = false := by simpa using h1
      simp [hb, hb']

theorem out_err (x : T29) (c : T32) : ∀ (n k : Nat) (acc : List T46), (out x c k n acc).2.1 ≠ 0 → (out x c k n acc).1 = []
  | 0, k, acc, h => absurd rfl h
  | n + 1, k, acc, h => by
    rw [out_succ] at h ⊢
    split at h
    · rw [if_pos (by assumption)]
    · rw [if_neg (by assumption)]
      exact out_err x c n (k + 1) _ h

theorem out_ok (x : T29) (c : T32) : ∀ (n k : Nat) (acc : List T46), (out x c k n acc).2.1 = 0 → (out x c k n acc).1 = acc ++ (List.range n).map (fun i => perV x c (k + i)) ∧ ∀ i, i < n → perE x c (k + i) = 0
  | 0, k, acc, h => ⟨by simp [out], fun i hi => by omega⟩
  | n + 1, k, acc, h => by
    rw [out_succ] at h ⊢
    split at h
    · exact absurd h (by assumption)
    · rename_i hn
      rw [if_neg hn]
      obtain ⟨h1, h2⟩ := out_ok x c n (k + 1) _ h
      refine ⟨?_, fun i hi => ?_⟩
      · rw [h1, List.append_assoc]
        congr 1
        rw [List.range_succ_eq_map, List.map_cons, List.map_map]
        simp only [Nat.add_zero, List.singleton_append]
        congr 1
        apply List.map_congr_left
        intro i _
        simp only [Function.comp]
        rw [show k + 1 + i = k + i.succ by omega]
      · cases i with
        | zero => simpa using hn
        | succ i =>
          have := h2 i (by omega)
          rw [show k + (i + 1) = k + 1 + i by omega]
          exact this

/-- The bounds, their number. -/
structure Num (x : T29) (N : Nat) : Prop where
  one : 1 ≤ N
  le : N ≤ 200000
  last : bx x N = x.2.2.2.2.1
  lt : ∀ k, k < N → bx x k < x.2.2.2.2.1
  mono : ∀ i j, i < j → j ≤ N → bx x i < bx x j

theorem num_ex {x : T29} (hv : VX x) : ∃ N, Num x N := by
  obtain ⟨⟨v1, v2, v3⟩, ⟨v4, v5⟩, _, _⟩ := id hv
  obtain ⟨N, h1, h2, h3, h4, h5⟩ := bnd_num (F := x.2.2.2.1) (T := x.2.2.2.2.1) (E := x.2.2.2.2.2.1) ⟨v1, by omega⟩ v3 v2 v4
  exact ⟨N, h1, h2, h3, h4, h5⟩

theorem m11_bad {x : T29} {c : T32} (h : ¬ (VX x ∧ RightC c)) : m11 x c = some ([], 1, ()) := by
  unfold m11
  rw [m26_eq, m27_eq]
  by_cases hv : VX x
  · rw [decide_eq_true hv, decide_eq_false (fun hr => h ⟨hv, hr⟩)]; rfl
  · rw [decide_eq_false hv]; rfl
theorem m12_bad {x : T29} {c : T32} (h : ¬ (VX x ∧ RightC c)) : m12 x c = some ([], 1, ()) := by
  unfold m12
  rw [m30_eq, m31_eq]
  by_cases hv : VX x
  · rw [decide_eq_true hv, decide_eq_false (fun hr => h ⟨hv, hr⟩)]; rfl
  · rw [decide_eq_false hv]; rfl

theorem bx_0 (x : T29) : bx x 0 = x.2.2.2.1 := rfl

theorem m11_ok {x : T29} {c : T32} (hv : VX x) (hr : RightC c) {N : Nat} (hN : Num x N) : m11 x c = some (out x c 0 N []) := by
  unfold m11
  have hF := FUEL_eq
  have hle := hN.le
  rw [m26_eq, m27_eq, decide_eq_true hv, decide_eq_true hr]
  simp only [Option.bind_some, Bool.not_true, beq_self_eq_true, cond_true, Bool.or_self, cond_false]
  have := l11_eq x c hv hr (fun y7 => some ((y7, 0, ()) : List T46 × Int × Unit)) (fun y8 => some ([], y8, ())) FUEL N 0 [] (by omega) (fun j hj => hN.lt j (by omega)) (by rw [Nat.zero_add]; exact hN.last) (fuel_lt (by omega)) rfl
  rw [show ((0 + 1 : Nat) : Int) * x.2.2.2.2.2.1 = x.2.2.2.2.2.1 by omega, bx_0] at this
  rw [this]
  by_cases h : (out x c 0 N []).2.1 = 0
  · rw [bifT (by simpa using h)]
    rw [← h]
  · have e := out_err x c N 0 [] h
    rw [bifF (by simpa using h)]
    generalize out x c 0 N [] = r at *
    obtain ⟨a, b, u⟩ := r
    simp only at e
    rw [e]

theorem m32_bs {x : T29} (hv : VX x) {N : Nat} (hN : Num x N) : m32 x = some (bs x (N + 1)) := by
  unfold m32
  have hF := FUEL_eq
  have hle := hN.le
  have := l32b_eq x hv (fun y => some y) FUEL N 0 (by omega) (fun j hj => hN.lt j (by omega)) (by rw [Nat.zero_add]; exact hN.last) (fuel_lt (by omega))
  simp only [Nat.zero_add] at this
  exact this

theorem m12_ok {x : T29} {c : T32} (hv : VX x) (hr : RightC c) {N : Nat} (hN : Num x N) : m12 x c = some (out x c 0 N []) := by
  unfold m12
  have hF := FUEL_eq
  have hle := hN.le
  rw [m30_eq, m31_eq, decide_eq_true hv, decide_eq_true hr, m32_bs hv hN]
  simp only [Option.bind_some, Bool.not_true, beq_self_eq_true, cond_true, Bool.or_self, cond_false]
  have := l12_eq x c N hle (fun y7 => some ((y7, 0, ()) : List T46 × Int × Unit)) (fun y8 => some ([], y8, ())) FUEL N 0 [] (by omega) (fuel_lt (by omega)) rfl
  rw [show ((0 + 1 : Nat) : Int) = 1 by omega] at this
  rw [this]
  by_cases h : (out x c 0 N []).2.1 = 0
  · rw [bifT (by simpa using h)]
    rw [← h]
  · have e := out_err x c N 0 [] h
    rw [bifF (by simpa using h)]
    generalize out x c 0 N [] = r at *
    obtain ⟨a, b, u⟩ := r
    simp only at e
    rw [e]

/-- The two agree. -/
theorem m12_eq (x : T29) (c : T32) : m12 x c = m11 x c := by
  by_cases h : VX x ∧ RightC c
  · obtain ⟨N, hN⟩ := num_ex h.1
    rw [m11_ok h.1 h.2 hN, m12_ok h.1 h.2 hN]
  · rw [m11_bad h, m12_bad h]

end Go.Proofs.Ytophafggfmhooaa
