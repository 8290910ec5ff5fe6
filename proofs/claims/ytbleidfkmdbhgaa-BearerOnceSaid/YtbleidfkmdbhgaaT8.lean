/- Bearer: each coupon is paid once. -/
import Derived.Test.YtbleidfkmdbhgaaT7
namespace Go.Proofs.Ytbleidfkmdbhgaa
open Go Go.Eng
set_option linter.unusedVariables false
set_option linter.unusedSimpArgs false

theorem sumN_upd {f g : Nat → Int} {n q : Nat} (hq : q < n) (h : ∀ i, i < n → i ≠ q → f i = g i) : sumN f n = sumN g n - g q + f q := by
  have h1 := sumN_sub f g n
  have h2 : sumN (fun i => f i - g i) n = f q - g q := sumN_one (f := fun i => f i - g i) hq (fun i hi hne => by have := h i hi hne; omega)
  omega

theorem openS_set {l : List T35} {q : Nat} {y z : T35} (hy : l[q]? = some y) (i c : Int) : openS (l.set q z) i c = openS l i c - opX y i c + opX z i c := by
  have hq := (List.getElem?_eq_some_iff.1 hy).1
  unfold openS
  rw [List.length_set, sumN_upd (f := atX (fun x => opX x i c) (l.set q z)) (g := atX (fun x => opX x i c) l) hq (fun j hj hne => by
    unfold atX
    rw [List.getElem?_set_ne (fun h => hne h.symm)])]
  rw [atX_lt hy, atX_lt (f := fun x => opX x i c) (List.getElem?_set_self hq)]

/-- What one payment counts for an issue and a coupon. -/
def payX (l : List T35) (a : T26) (i c : Int) : Int := match l[a.2.1.toNat]? with
  | some x => bif (x.1 == i) && (a.2.2.1 == c) then x.2.1 else 0
  | none => 0
def payAt (l : List T35) (pd : List T26) (i c : Int) (k : Nat) : Int := match pd[k]? with
  | some a => payX l a i c
  | none => 0
def paidS (l : List T35) (pd : List T26) (i c : Int) : Int := sumN (payAt l pd i c) pd.length

theorem paidS_app (l : List T35) (pd : List T26) (a : T26) (i c : Int) : paidS l (pd ++ [a]) i c = paidS l pd i c + payX l a i c := by
  unfold paidS
  rw [List.length_append, List.length_singleton]
  simp only [sumN]
  rw [sumN_congr (f := payAt l (pd ++ [a]) i c) (g := payAt l pd i c) (fun k hk => by
    unfold payAt
    rw [List.getElem?_append_left hk])]
  congr 1
  unfold payAt
  rw [List.getElem?_append_right (by omega)]
  simp

structure Inv (l cur : List T35) (pd : List T26) (j : Nat) : Prop where
  len : cur.length = l.length
  rt : rightC cur = true
  at' : ∀ (i : Nat) (x y : T35), l[i]? = some x → cur[i]? = some y → y.1 = x.1 ∧ y.2.1 = x.2.1 ∧ y.2.2.1.length = x.2.2.1.length ∧ ∀ c : Nat, x.2.2.1[c]? = some true → y.2.2.1[c]? = some true
  pd' : ∀ a, a ∈ pd → 0 ≤ a.2.1 ∧ 0 ≤ a.2.2.1 ∧ ∃ y, cur[a.2.1.toNat]? = some y ∧ y.2.2.1[a.2.2.1.toNat]? = some true
  sum : ∀ i c : Int, paidS l pd i c + openS cur i c = openS l i c
  n : pd.length ≤ j

def norm (a : T26) : T26 := (kin a.1, a.2.1, a.2.2.1, a.2.2.2.1, a.2.2.2.2.1, ())

/-- The pieces and the payments after some acts. -/
def stF (l : List T35) (acts : List T26) : Nat → List T35 × List T26
  | 0 => (l, [])
  | j + 1 => match acts[j]? with
    | some a => bif (doA (stF l acts j).1 a).2.2.1 == 0 then ((doA (stF l acts j).1 a).1, bif kin a.1 == 0 then (stF l acts j).2 ++ [norm a] else (stF l acts j).2) else stF l acts j
    | none => stF l acts j

/-- A payment that succeeds. -/
theorem pay_ok {x : T35} {c w d : Int} (h : errX x 0 c w d = 0) : 0 ≤ c ∧ c < x.2.2.1.length ∧ x.2.2.1[c.toNat]? = some false := by
  simp only [errX, beq_self_eq_true, cond_true] at h
  cases hc : (decide (c < 0) || decide (c ≥ (x.2.2.1.length : Int))) with
  | true => rw [hc] at h; cases h
  | false =>
    obtain ⟨hc0, hc1, hc2, y, hy⟩ := idx_in hc
    rw [hc, cond_false] at h
    have hg : x.2.2.1.getD c.toNat false = y := by rw [List.getD_eq_getElem?_getD, hy]; rfl
    rw [hg] at h
    cases y with
    | true => cases h
    | false => exact ⟨hc0, hc1, hy⟩

theorem opX_pay {y : T35} {c : Int} (h0 : 0 ≤ c) (h1 : y.2.2.1[c.toNat]? = some false) (i c' : Int) :
    opX y i c' = opX ((y.1, y.2.1, y.2.2.1.set c.toNat true, y.2.2.2.1, y.2.2.2.2.1, ()) : T35) i c' + (bif (y.1 == i) && (c == c') then y.2.1 else 0) := by
  have hlt := (List.getElem?_eq_some_iff.1 h1).1
  unfold opX
  simp only [List.length_set]
  cases hi : (y.1 == i) with
  | false => simp
  | true =>
    by_cases hc : c = c'
    · subst hc
      have e : (decide (c ≥ 0) && decide (c < (y.2.2.1.length : Int))) = true := by simp; omega
      have g1 : y.2.2.1.getD c.toNat false = false := by rw [List.getD_eq_getElem?_getD, h1]; rfl
      have g2 : (y.2.2.1.set c.toNat true).getD c.toNat false = true := by rw [List.getD_eq_getElem?_getD, List.getElem?_set_self hlt]; rfl
      rw [g1, g2, Bool.true_and, e]
      simp
    · have hcc : (c == c') = false := by simpa using hc
      rw [hcc]
      cases hr : (decide (c' ≥ 0) && decide (c' < (y.2.2.1.length : Int))) with
      | false => rw [Bool.true_and, hr]; simp
      | true =>
        rw [Bool.true_and, hr]
        simp only [Bool.and_eq_true, decide_eq_true_eq] at hr
        have : (y.2.2.1.set c.toNat true).getD c'.toNat false = y.2.2.1.getD c'.toNat false := by
          rw [List.getD_eq_getElem?_getD, List.getD_eq_getElem?_getD, List.getElem?_set_ne (by omega)]
        rw [this]
        simp

theorem inv_step {l cur : List T35} {pd : List T26} {j : Nat} (I : Inv l cur pd j) (a : T26) (h : (doA cur a).2.2.1 = 0) : Inv l (doA cur a).1 (bif kin a.1 == 0 then pd ++ [norm a] else pd) (j + 1) := by
  obtain ⟨y, h1, h2, h3, h4, h5, h6⟩ := doC_ok h
  have hrt := doC_right h
  have hq := (List.getElem?_eq_some_iff.1 h4).1
  have hd : (doA cur a).1 = cur.set a.2.1.toNat (effX y (kin a.1) a.2.2.1 a.2.2.2.1 a.2.2.2.2.1) := by
    show (doC cur (kin a.1) a.2.1 a.2.2.1 a.2.2.2.1 a.2.2.2.2.1).1 = _
    rw [h6]
  have hrt' : rightC (doA cur a).1 = true := hrt
  have hxl : ∃ x, l[a.2.1.toNat]? = some x := ⟨_, List.getElem?_eq_getElem (by have := I.len; omega)⟩
  obtain ⟨x, hx⟩ := hxl
  obtain ⟨m1, m2, m3, m4⟩ := I.at' _ x y hx h4
  cases hk : (kin a.1 == 0) with
  | false =>
    have e1 : (effX y (kin a.1) a.2.2.1 a.2.2.2.1 a.2.2.2.2.1).1 = y.1 ∧ (effX y (kin a.1) a.2.2.1 a.2.2.2.1 a.2.2.2.2.1).2.1 = y.2.1 ∧ (effX y (kin a.1) a.2.2.1 a.2.2.2.1 a.2.2.2.2.1).2.2.1 = y.2.2.1 := by
      unfold effX
      rw [hk]
      cases (kin a.1 == 1) <;> cases (kin a.1 == 2) <;> exact ⟨rfl, rfl, rfl⟩
    generalize effX y (kin a.1) a.2.2.1 a.2.2.2.1 a.2.2.2.2.1 = z at e1 hd
    obtain ⟨e1, e2, e3⟩ := e1
    rw [cond_false]
    refine ⟨by rw [hd, List.length_set]; exact I.len, hrt', ?_, ?_, ?_, by have := I.n; omega⟩
    · intro i x' y' hx' hy'
      rw [hd, List.getElem?_set] at hy'
      by_cases hi : a.2.1.toNat = i
      · rw [if_pos hi, if_pos hq] at hy'
        cases hy'
        subst hi
        rw [hx] at hx'; cases hx'
        rw [e1, e2, e3]
        exact ⟨m1, m2, m3, m4⟩
      · rw [if_neg hi] at hy'
        exact I.at' i x' y' hx' hy'
    · intro b hb
      obtain ⟨b0, b1, y', b2, b3⟩ := I.pd' b hb
      refine ⟨b0, b1, ?_⟩
      rw [hd, List.getElem?_set]
      by_cases hi : a.2.1.toNat = b.2.1.toNat
      · rw [if_pos hi, if_pos hq]
        rw [← hi, h4] at b2
        cases b2
        exact ⟨z, rfl, by rw [e3]; exact b3⟩
      · rw [if_neg hi]
        exact ⟨y', b2, b3⟩
    · intro i c
      rw [hd, openS_set h4]
      have : opX z i c = opX y i c := by unfold opX; rw [e1, e2, e3]
      rw [this]
      have := I.sum i c
      omega
  | true =>
    have hk0 := eq_of_beq hk
    rw [hk0] at h5
    obtain ⟨c0, c1, c2⟩ := pay_ok h5
    have hz : effX y (kin a.1) a.2.2.1 a.2.2.2.1 a.2.2.2.2.1 = (y.1, y.2.1, y.2.2.1.set a.2.2.1.toNat true, y.2.2.2.1, y.2.2.2.2.1, ()) := by rw [hk0]; rfl
    rw [hz] at hd
    rw [cond_true]
    have hcl : a.2.2.1.toNat < y.2.2.1.length := by omega
    refine ⟨by rw [hd, List.length_set]; exact I.len, hrt', ?_, ?_, ?_, by rw [List.length_append]; have := I.n; simp; omega⟩
    · intro i x' y' hx' hy'
      rw [hd, List.getElem?_set] at hy'
      by_cases hi : a.2.1.toNat = i
      · rw [if_pos hi, if_pos hq] at hy'
        cases hy'
        subst hi
        rw [hx] at hx'; cases hx'
        refine ⟨m1, m2, by rw [List.length_set]; exact m3, fun c hc => ?_⟩
        simp only
        rw [List.getElem?_set]
        by_cases hcc : a.2.2.1.toNat = c
        · rw [if_pos hcc, if_pos hcl]
        · rw [if_neg hcc]; exact m4 c hc
      · rw [if_neg hi] at hy'
        exact I.at' i x' y' hx' hy'
    · intro b hb
      rw [List.mem_append, List.mem_singleton] at hb
      rcases hb with hb | hb
      · obtain ⟨b0, b1, y', b2, b3⟩ := I.pd' b hb
        refine ⟨b0, b1, ?_⟩
        rw [hd, List.getElem?_set]
        by_cases hi : a.2.1.toNat = b.2.1.toNat
        · rw [if_pos hi, if_pos hq]
          rw [← hi, h4] at b2
          cases b2
          refine ⟨_, rfl, ?_⟩
          simp only
          rw [List.getElem?_set]
          by_cases hcc : a.2.2.1.toNat = b.2.2.1.toNat
          · rw [if_pos hcc, if_pos hcl]
          · rw [if_neg hcc]; exact b3
        · rw [if_neg hi]
          exact ⟨y', b2, b3⟩
      · subst hb
        refine ⟨h3, c0, ?_⟩
        show ∃ y', (doA cur a).1[a.2.1.toNat]? = some y' ∧ y'.2.2.1[a.2.2.1.toNat]? = some true
        rw [hd, List.getElem?_set_self hq]
        exact ⟨_, rfl, List.getElem?_set_self hcl⟩
    · intro i c
      rw [hd, openS_set h4, paidS_app]
      have e := opX_pay c0 c2 i c
      have ep : payX l (norm a) i c = bif (y.1 == i) && (a.2.2.1 == c) then y.2.1 else 0 := by
        unfold payX norm
        simp only
        rw [hx]
        simp only [m1, m2]
      rw [ep]
      have := I.sum i c
      omega

theorem inv_all {l : List T35} (hR : rightC l = true) (acts : List T26) : ∀ j, Inv l (stF l acts j).1 (stF l acts j).2 j
  | 0 => by
    refine ⟨rfl, hR, ?_, ?_, ?_, Nat.le_refl 0⟩
    · intro i x y hx hy
      rw [show (stF l acts 0).1 = l from rfl, hx] at hy
      cases hy
      exact ⟨rfl, rfl, rfl, fun _ h => h⟩
    · intro a ha
      cases ha
    · intro i c
      exact Int.zero_add _
  | j + 1 => by
    have I := inv_all hR acts j
    have hs : ∀ I' : Inv l (stF l acts j).1 (stF l acts j).2 j, Inv l (stF l acts j).1 (stF l acts j).2 (j + 1) := fun I => ⟨I.len, I.rt, I.at', I.pd', I.sum, by have := I.n; omega⟩
    cases ha : acts[j]? with
    | none =>
      simp only [stF, ha]
      exact hs I
    | some a =>
      simp only [stF, ha]
      cases he : ((doA (stF l acts j).1 a).2.2.1 == 0) with
      | false => exact hs I
      | true => exact inv_step I a (eq_of_beq he)

end Go.Proofs.Ytbleidfkmdbhgaa
