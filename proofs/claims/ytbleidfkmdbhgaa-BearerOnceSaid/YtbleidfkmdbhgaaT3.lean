/- Bearer: what happens to pieces. -/
import Derived.Test.YtbleidfkmdbhgaaT2
namespace Go.Proofs.Ytbleidfkmdbhgaa
open Go Go.Eng
set_option linter.unusedVariables false
set_option linter.unusedSimpArgs false

def seatB (n : Int) : Bool := decide (0 ≤ n ∧ n ≤ 19999)
def dayB (n : Int) : Bool := decide (0 ≤ n ∧ n ≤ 200000)

def argB (k w d : Int) : Bool := bif k == 0 then seatB w && dayB d else bif k == 1 then dayB d else bif k == 2 then seatB w else true

def errX (x : T35) (k c w d : Int) : Int :=
  bif k == 0 then
    bif decide (c < 0) || decide (c ≥ (x.2.2.1.length : Int)) then 4 else
    bif x.2.2.1.getD c.toNat false then 5 else
    bif (x.2.2.2.1 != -1) && (x.2.2.2.2.1 != w) then 18 else
    bif (x.2.2.2.1 != -1) && decide (d < x.2.2.2.1 + 365) then 20 else 0
  else bif k == 1 then (bif x.2.2.2.1 != -1 then 5 else 0)
  else bif k == 2 then (bif x.2.2.2.1 == -1 then 7 else bif x.2.2.2.2.1 != -1 then 5 else 0)
  else (bif x.2.2.2.1 == -1 then 7 else 0)

def effX (x : T35) (k c w d : Int) : T35 :=
  bif k == 0 then (x.1, x.2.1, x.2.2.1.set c.toNat true, x.2.2.2.1, x.2.2.2.2.1, ())
  else bif k == 1 then (x.1, x.2.1, x.2.2.1, d, x.2.2.2.2.1, ())
  else bif k == 2 then (x.1, x.2.1, x.2.2.1, x.2.2.2.1, w, ())
  else (x.1, x.2.1, x.2.2.1, -1, -1, ())

abbrev Res : Type := List T35 × (Int × (Int × Unit))

/-- What comes of an act: the pieces, the units that are paid, the error. -/
def doC (l : List T35) (k p c w d : Int) : Res :=
  bif rightC l && argB k w d then (match idx l p with
    | some x => bif errX x k c w d == 0 then (l.set p.toNat (effX x k c w d), bif k == 0 then x.2.1 else 0, 0, ()) else ([], 0, errX x k c w d, ())
    | none => ([], 0, 4, ()))
  else ([], 0, 1, ())

theorem m29_eq (n : Int) : m29 n = some (seatB n) := by simp only [m29, m24_eq, Option.bind_some, seatB]
theorem m27_eq (n : Int) : m27 n = some (dayB n) := by simp only [m27, m24_eq, Option.bind_some, dayB]

theorem idx_out {α : Type} {l : List α} {p : Int} (h : (decide (p < 0) || decide (p ≥ (l.length : Int))) = true) : idx l p = none := by
  simp only [Bool.or_eq_true, decide_eq_true_eq] at h
  unfold idx
  by_cases hp : 0 ≤ p
  · rw [decide_eq_true hp, cond_true, List.getElem?_eq_none (by omega)]
  · rw [decide_eq_false hp]; rfl
theorem idx_in {α : Type} {l : List α} {p : Int} (h : (decide (p < 0) || decide (p ≥ (l.length : Int))) = false) : 0 ≤ p ∧ p < l.length ∧ idx l p = l[p.toNat]? ∧ ∃ x, l[p.toNat]? = some x := by
  simp only [Bool.or_eq_false_iff, decide_eq_false_iff_not] at h
  have h1 : p.toNat < l.length := by omega
  exact ⟨by omega, by omega, idx_pos (by omega), _, List.getElem?_eq_getElem h1⟩

theorem m26_eq (l : List T35) (p : Int) (b : Bool) : m26 l p b = some (bif rightC l && b then (match idx l p with | some _ => 0 | none => 4) else 1) := by
  unfold m26
  rw [m14_eq, Option.bind_some]
  cases hr : rightC l <;> cases b <;> simp only [Bool.not_true, Bool.not_false, Bool.or_self, Bool.or_true, Bool.true_or, Bool.or_false, Bool.false_or, cond_true, cond_false, Bool.and_self, Bool.and_false, Bool.false_and, Bool.true_and]
  cases h : (decide (p < 0) || decide (p ≥ (l.length : Int))) with
  | true => rw [idx_out h]; rfl
  | false =>
    obtain ⟨_, _, e, x, hx⟩ := idx_in h
    rw [e, hx]; rfl

theorem m17_eq (l : List T35) (p c w d : Int) : m17 l p c w d = some (doC l 0 p c w d) := by
  unfold m17 doC
  rw [m29_eq, Option.bind_some, m27_eq, bind_guard, m26_eq, Option.bind_some]
  have e0 : (bif seatB w == true then dayB d else false) = argB 0 w d := by
    unfold argB
    cases seatB w <;> rfl
  rw [e0]
  have e1 : (seatB w && argB 0 w d) = argB 0 w d := by
    unfold argB
    cases seatB w <;> simp
  rw [e1]
  cases hr : (rightC l && argB 0 w d) with
  | false => rfl
  | true =>
    have hR : rightC l = true := by
      simp only [Bool.and_eq_true] at hr; exact hr.1
    have hA : argB 0 w d = true := by
      simp only [Bool.and_eq_true] at hr; exact hr.2
    simp only [cond_true]
    cases hi : idx l p with
    | none => rfl
    | some x =>
      have hp : 0 ≤ p := by
        unfold idx at hi
        by_cases hp : 0 ≤ p
        · exact hp
        · rw [decide_eq_false hp] at hi; cases hi
      have hx : l[p.toNat]? = some x := by rw [← idx_pos hp]; exact hi
      have hlt := (List.getElem?_eq_some_iff.1 hx).1
      have hok := right_at hR hx
      simp only [okP, decide_eq_true_eq] at hok
      have hd : 0 ≤ d ∧ d ≤ 200000 := by
        simp only [argB, beq_self_eq_true, cond_true, Bool.and_eq_true, seatB, dayB, decide_eq_true_eq] at hA
        exact hA.2
      simp only [bne_same, cond_false, Option.bind_some]
      simp only [errX, beq_self_eq_true, cond_true]
      cases hc : (decide (c < 0) || decide (c ≥ (x.2.2.1.length : Int))) with
      | true => rfl
      | false =>
        obtain ⟨hc0, hc1, hc2, y, hy⟩ := idx_in hc
        simp only [cond_false, hc2, hy, Option.bind_some]
        have hg : x.2.2.1.getD c.toNat false = y := by rw [List.getD_eq_getElem?_getD, hy]; rfl
        rw [hg]
        cases y with
        | true => rfl
        | false =>
          simp only [cond_false]
          cases h18 : ((x.2.2.2.1 != -1) && (x.2.2.2.2.1 != w)) with
          | true => rfl
          | false =>
            have hw : IntKind.i64.wrap (x.2.2.2.1 + 365) = x.2.2.2.1 + 365 := wrapI (by omega) (by omega)
            simp only [cond_false, hw]
            cases h20 : ((x.2.2.2.1 != -1) && decide (d < x.2.2.2.1 + 365)) with
            | true => rfl
            | false =>
              have r1 : (decide (0 ≤ p) && decide (p < (l.length : Int))) = true := by simp; omega
              have r2 : (decide (0 ≤ c) && decide (c < (x.2.2.1.length : Int))) = true := by simp; omega
              simp only [cond_false, tell_eq hR hp hx, Option.bind_some, r1, r2, asrtT, Nat.beq_refl, hy, beq_self_eq_true, cond_true, effX]

theorem m16_eq (l : List T35) (p d : Int) (c w : Int) : (m16 l p d).bind (fun r => some (r.1, 0, r.2.1, ())) = some (doC l 1 p c w d) := by
  unfold m16 doC
  rw [m27_eq, Option.bind_some, m26_eq, Option.bind_some]
  have e0 : argB 1 w d = dayB d := rfl
  rw [e0]
  cases hr : (rightC l && dayB d) with
  | false => rfl
  | true =>
    have hR : rightC l = true := by
      simp only [Bool.and_eq_true] at hr; exact hr.1
    simp only [cond_true]
    cases hi : idx l p with
    | none => rfl
    | some x =>
      have hp : 0 ≤ p := by
        unfold idx at hi
        by_cases hp : 0 ≤ p
        · exact hp
        · rw [decide_eq_false hp] at hi; cases hi
      have hx : l[p.toNat]? = some x := by rw [← idx_pos hp]; exact hi
      have hlt := (List.getElem?_eq_some_iff.1 hx).1
      simp only [bne_same, cond_false, Option.bind_some, errX]
      cases hc : (x.2.2.2.1 != -1) with
      | true => rfl
      | false =>
        have r1 : (decide (0 ≤ p) && decide (p < (l.length : Int))) = true := by simp; omega
        simp only [cond_false, m28_eq hR, Option.bind_some, r1, asrtT, hx]
        rfl

theorem m18_eq (l : List T35) (p w : Int) (c d : Int) : (m18 l p w).bind (fun r => some (r.1, 0, r.2.1, ())) = some (doC l 2 p c w d) := by
  unfold m18 doC
  rw [m29_eq, Option.bind_some, m26_eq, Option.bind_some]
  have e0 : argB 2 w d = seatB w := rfl
  rw [e0]
  cases hr : (rightC l && seatB w) with
  | false => rfl
  | true =>
    have hR : rightC l = true := by
      simp only [Bool.and_eq_true] at hr; exact hr.1
    simp only [cond_true]
    cases hi : idx l p with
    | none => rfl
    | some x =>
      have hp : 0 ≤ p := by
        unfold idx at hi
        by_cases hp : 0 ≤ p
        · exact hp
        · rw [decide_eq_false hp] at hi; cases hi
      have hx : l[p.toNat]? = some x := by rw [← idx_pos hp]; exact hi
      have hlt := (List.getElem?_eq_some_iff.1 hx).1
      simp only [bne_same, cond_false, Option.bind_some, errX]
      cases hc : (x.2.2.2.1 == -1) with
      | true => rfl
      | false =>
        simp only [cond_false, hi, Option.bind_some]
        cases hs : (x.2.2.2.2.1 != -1) with
        | true => rfl
        | false =>
          have r1 : (decide (0 ≤ p) && decide (p < (l.length : Int))) = true := by simp; omega
          simp only [cond_false, m28_eq hR, Option.bind_some, r1, asrtT, hx]
          rfl

theorem m19_eq (l : List T35) (p : Int) (c w d : Int) (k : Int) (hk : 3 ≤ k) : (m19 l p).bind (fun r => some (r.1, 0, r.2.1, ())) = some (doC l k p c w d) := by
  unfold m19 doC
  rw [m26_eq, Option.bind_some]
  have k0 : (k == 0) = false := by simp; omega
  have k1 : (k == 1) = false := by simp; omega
  have k2 : (k == 2) = false := by simp; omega
  have e0 : argB k w d = true := by simp only [argB, k0, k1, k2, cond_false]
  rw [e0]
  cases hr : (rightC l && true) with
  | false => rfl
  | true =>
    have hR : rightC l = true := by
      simp only [Bool.and_eq_true] at hr; exact hr.1
    simp only [cond_true]
    cases hi : idx l p with
    | none => rfl
    | some x =>
      have hp : 0 ≤ p := by
        unfold idx at hi
        by_cases hp : 0 ≤ p
        · exact hp
        · rw [decide_eq_false hp] at hi; cases hi
      have hx : l[p.toNat]? = some x := by rw [← idx_pos hp]; exact hi
      have hlt := (List.getElem?_eq_some_iff.1 hx).1
      simp only [bne_same, cond_false, Option.bind_some, errX, k0, k1, k2, effX]
      cases hc : (x.2.2.2.1 == -1) with
      | true => rfl
      | false =>
        have r1 : (decide (0 ≤ p) && decide (p < (l.length : Int))) = true := by simp; omega
        simp only [cond_false, m28_eq hR, Option.bind_some, r1, asrtT, hx, List.length_set, List.getElem?_set_self hlt, List.set_set]
        rfl

theorem m9_eq (l : List T35) (a : T26) (h : 0 ≤ a.1) : m9 l a = some (doC l (bif decide (a.1 ≤ 3) then a.1 else 3) a.2.1 a.2.2.1 a.2.2.2.1 a.2.2.2.2.1) := by
  unfold m9
  by_cases k0 : a.1 = 0
  · rw [k0]
    simp only [beq_self_eq_true, cond_true, m17_eq, Option.bind_some]
    rfl
  · rw [show (a.1 == 0) = false from by simpa using k0, cond_false]
    by_cases k1 : a.1 = 1
    · rw [k1]
      exact m16_eq l a.2.1 a.2.2.2.2.1 a.2.2.1 a.2.2.2.1
    · rw [show (a.1 == 1) = false from by simpa using k1, cond_false]
      by_cases k2 : a.1 = 2
      · rw [k2]
        exact m18_eq l a.2.1 a.2.2.2.1 a.2.2.1 a.2.2.2.2.1
      · rw [show (a.1 == 2) = false from by simpa using k2, cond_false]
        by_cases k3 : a.1 ≤ 3
        · rw [decide_eq_true k3]
          exact m19_eq l a.2.1 a.2.2.1 a.2.2.2.1 a.2.2.2.2.1 a.1 (by omega)
        · rw [decide_eq_false k3]
          exact m19_eq l a.2.1 a.2.2.1 a.2.2.2.1 a.2.2.2.2.1 3 (by omega)

/-! ### The reference -/

theorem m30_eq (n : Int) : m30 n = some (seatB n) := by
  unfold m30 seatB
  congr 1
  rw [Bool.eq_iff_iff]
  simp
  omega
theorem m31_eq (n : Int) : m31 n = some (dayB n) := by
  unfold m31 dayB
  congr 1
  rw [Bool.eq_iff_iff]
  simp

theorem m22_eq (l : List T35) (a : T26) (h0 : 0 ≤ a.1) (h3 : a.1 ≤ 3) : m22 l a = some (doC l a.1 a.2.1 a.2.2.1 a.2.2.2.1 a.2.2.2.2.1).2.2.1 := by
  obtain ⟨k, p, c, w, d, _⟩ := a
  simp only at h0 h3
  unfold m22 doC
  rw [m15_eq, Option.bind_some, m30_eq, bind_guard, m31_eq, bind_guard]
  simp only
  have e : (((!rightC l) || (((k == 0) || (k == 2)) && (!(bif (((!rightC l) == false) && (((k == 0) || (k == 2)) == true)) then seatB w else false)))) || (((k == 0) || (k == 1)) && (!(bif ((((!rightC l) || (((k == 0) || (k == 2)) && (!(bif (((!rightC l) == false) && (((k == 0) || (k == 2)) == true)) then seatB w else false)))) == false) && (((k == 0) || (k == 1)) == true)) then dayB d else false)))) = !(rightC l && argB k w d) := by
    have : k = 0 ∨ k = 1 ∨ k = 2 ∨ k = 3 := by omega
    simp only [argB]
    generalize rightC l = R
    generalize seatB w = S
    generalize dayB d = D
    rcases this with rfl | rfl | rfl | rfl <;> cases R <;> cases S <;> cases D <;> rfl
  rw [e]
  cases hr : (rightC l && argB k w d) with
  | false => rfl
  | true =>
    have hR : rightC l = true := by
      simp only [Bool.and_eq_true] at hr; exact hr.1
    have hA : argB k w d = true := by
      simp only [Bool.and_eq_true] at hr; exact hr.2
    simp only [Bool.not_true, cond_false, cond_true]
    cases ho : (decide (p < 0) || decide (p ≥ (l.length : Int))) with
    | true => rw [idx_out ho]; rfl
    | false =>
      obtain ⟨hp, hp1, hp2, x, hx⟩ := idx_in ho
      have hok := right_at hR hx
      simp only [okP, decide_eq_true_eq] at hok
      rw [hp2, hx]
      simp only [cond_false, Option.bind_some]
      have e2 : (bif errX x k c w d == 0 then ((l.set p.toNat (effX x k c w d), bif k == 0 then x.2.1 else 0, 0, ()) : Res) else ([], 0, errX x k c w d, ())).2.2.1 = errX x k c w d := by
        cases he : (errX x k c w d == 0) with
        | true => rw [eq_of_beq he]; rfl
        | false => rfl
      rw [e2]
      have : k = 0 ∨ k = 1 ∨ k = 2 ∨ k = 3 := by omega
      rcases this with rfl | rfl | rfl | rfl
      · have hd : 0 ≤ d ∧ d ≤ 200000 := by
          simp only [argB, beq_self_eq_true, cond_true, Bool.and_eq_true, seatB, dayB, decide_eq_true_eq] at hA
          exact hA.2
        simp only [beq_self_eq_true, cond_true, errX]
        cases hc : (decide (c < 0) || decide (c ≥ (x.2.2.1.length : Int))) with
        | true => rfl
        | false =>
          obtain ⟨hc0, hc1, hc2, y, hy⟩ := idx_in hc
          have hg : x.2.2.1.getD c.toNat false = y := by rw [List.getD_eq_getElem?_getD, hy]; rfl
          have hw : IntKind.i64.wrap (d - x.2.2.2.1) = d - x.2.2.2.1 := wrapI (by omega) (by omega)
          have hdd : decide (d - x.2.2.2.1 < 365) = decide (d < x.2.2.2.1 + 365) := by
            rw [Bool.eq_iff_iff]; simp; omega
          simp only [cond_false, hc2, hy, Option.bind_some, hg, hw, hdd]
          cases y <;> cases ((x.2.2.2.1 != -1) && (x.2.2.2.2.1 != w)) <;> cases ((x.2.2.2.1 != -1) && decide (d < x.2.2.2.1 + 365)) <;> rfl
      · simp only [errX, show ((1 : Int) == 0) = false from rfl, show ((1 : Int) == 1) = true from rfl, show ((1 : Int) != 1) = false from rfl, show ((1 : Int) == 2) = false from rfl, cond_false, cond_true, Bool.true_and, Bool.false_and]
        cases (x.2.2.2.1 != -1) <;> rfl
      · simp only [errX, show ((2 : Int) == 0) = false from rfl, show ((2 : Int) == 1) = false from rfl, show ((2 : Int) != 1) = true from rfl, show ((2 : Int) == 2) = true from rfl, cond_false, cond_true, Bool.true_and, Bool.false_and]
        cases (x.2.2.2.1 == -1) <;> cases (x.2.2.2.2.1 != -1) <;> rfl
      · simp only [errX, show ((3 : Int) == 0) = false from rfl, show ((3 : Int) == 1) = false from rfl, show ((3 : Int) != 1) = true from rfl, show ((3 : Int) == 2) = false from rfl, cond_false, cond_true, Bool.true_and, Bool.false_and]
        cases (x.2.2.2.1 == -1) <;> rfl

theorem m10_eq (l : List T35) (a : T26) (h0 : 0 ≤ a.1) (h3 : a.1 ≤ 3) : m10 l a = some (doC l a.1 a.2.1 a.2.2.1 a.2.2.2.1 a.2.2.2.2.1) := by
  unfold m10
  rw [m22_eq l a h0 h3, Option.bind_some]
  obtain ⟨k, p, c, w, d, _⟩ := a
  simp only at h0 h3 ⊢
  unfold doC
  cases hr : (rightC l && argB k w d) with
  | false => rfl
  | true =>
    have hR : rightC l = true := by
      simp only [Bool.and_eq_true] at hr; exact hr.1
    simp only [cond_true]
    cases hi : idx l p with
    | none => rfl
    | some x =>
      have hp : 0 ≤ p := by
        unfold idx at hi
        by_cases hp : 0 ≤ p
        · exact hp
        · rw [decide_eq_false hp] at hi; cases hi
      have hx : l[p.toNat]? = some x := by rw [← idx_pos hp]; exact hi
      have hlt := (List.getElem?_eq_some_iff.1 hx).1
      simp only
      cases he : (errX x k c w d == 0) with
      | false =>
        simp only [cond_false, bne, he, Bool.not_false, cond_true]
      | true =>
        have r1 : (decide (0 ≤ p) && decide (p < (l.length : Int))) = true := by simp; omega
        simp only [cond_true, bne_same, cond_false, tell_eq hR hp hx, Option.bind_some, r1, asrtT, Nat.beq_refl]
        have : k = 0 ∨ k = 1 ∨ k = 2 ∨ k = 3 := by omega
        rcases this with rfl | rfl | rfl | rfl
        · have he' := eq_of_beq he
          simp only [errX, beq_self_eq_true, cond_true] at he'
          cases hc : (decide (c < 0) || decide (c ≥ (x.2.2.1.length : Int))) with
          | true => rw [hc] at he'; cases he'
          | false =>
            obtain ⟨hc0, hc1, hc2, y, hy⟩ := idx_in hc
            have r2 : (decide (0 ≤ c) && decide (c < (x.2.2.1.length : Int))) = true := by simp; omega
            unfold cont
            simp only [beq_self_eq_true, cond_true, r2, asrtT, hy, Option.bind_some, hi, effX]
        · rfl
        · rfl
        · rfl

end Go.Proofs.Ytbleidfkmdbhgaa
