/- Bearer: every function returns what the reference returns. -/
import Derived.Test.YtbleidfkmdbhgaaT4
namespace Go.Proofs.Ytbleidfkmdbhgaa
open Go Go.Eng
set_option linter.unusedVariables false
set_option linter.unusedSimpArgs false

def kin (z : Int) : Int := IntKind.i64.wrap ((BitVec.ofInt IntKind.i64.bits z &&& BitVec.ofInt IntKind.i64.bits 3).toNat)

theorem kin_bd (z : Int) : 0 ≤ kin z ∧ kin z ≤ 3 := by
  unfold kin
  have h : ((BitVec.ofInt IntKind.i64.bits z &&& BitVec.ofInt IntKind.i64.bits 3).toNat) ≤ 3 := by
    rw [BitVec.toNat_and]
    exact Nat.le_trans Nat.and_le_right (by decide)
  rw [wrapI (by omega) (by omega)]
  omega

def doA (l : List T35) (a : T26) : Res := doC l (kin a.1) a.2.1 a.2.2.1 a.2.2.2.1 a.2.2.2.2.1

theorem m9_kin (l : List T35) (a : T26) : m9 l (kin a.1, a.2.1, a.2.2.1, a.2.2.2.1, a.2.2.2.2.1, ()) = some (doA l a) := by
  have h := kin_bd a.1
  rw [m9_eq l _ h.1]
  simp only [decide_eq_true h.2, cond_true]
  rfl
theorem m10_kin (l : List T35) (a : T26) : m10 l (kin a.1, a.2.1, a.2.2.1, a.2.2.2.1, a.2.2.2.2.1, ()) = some (doA l a) := by
  have h := kin_bd a.1
  exact m10_eq l _ h.1 h.2

theorem doC_ok {l : List T35} {k p c w d : Int} (h : (doC l k p c w d).2.2.1 = 0) : ∃ x, rightC l = true ∧ argB k w d = true ∧ 0 ≤ p ∧ l[p.toNat]? = some x ∧ errX x k c w d = 0 ∧
    doC l k p c w d = (l.set p.toNat (effX x k c w d), bif k == 0 then x.2.1 else 0, 0, ()) := by
  unfold doC at h ⊢
  cases hr : (rightC l && argB k w d) with
  | false => rw [hr] at h; cases h
  | true =>
    rw [hr] at h
    simp only [cond_true] at h ⊢
    simp only [Bool.and_eq_true] at hr
    cases hi : idx l p with
    | none => rw [hi] at h; cases h
    | some x =>
      rw [hi] at h
      simp only at h ⊢
      have hp : 0 ≤ p := by
        unfold idx at hi
        by_cases hp : 0 ≤ p
        · exact hp
        · rw [decide_eq_false hp] at hi; cases hi
      have hx : l[p.toNat]? = some x := by rw [← idx_pos hp]; exact hi
      cases he : (errX x k c w d == 0) with
      | true => exact ⟨x, hr.1, hr.2, hp, hx, eq_of_beq he, rfl⟩
      | false =>
        rw [he] at h
        simp only [cond_false] at h
        rw [h] at he
        cases he

theorem doC_err {l : List T35} {k p c w d : Int} (h : (doC l k p c w d).2.2.1 ≠ 0) : doC l k p c w d = ([], 0, (doC l k p c w d).2.2.1, ()) := by
  unfold doC at h ⊢
  cases hr : (rightC l && argB k w d) with
  | false => rfl
  | true =>
    rw [hr] at h
    simp only [cond_true] at h ⊢
    cases hi : idx l p with
    | none => rfl
    | some x =>
      rw [hi] at h
      simp only at h ⊢
      cases he : (errX x k c w d == 0) with
      | true => rw [he] at h; exact absurd rfl h
      | false => rfl

theorem effX_ok {x : T35} {k c w d : Int} (hx : okP x = true) (ha : argB k w d = true) (he : errX x k c w d = 0) : okP (effX x k c w d) = true := by
  unfold effX argB errX at *
  simp only [okP, decide_eq_true_eq] at hx
  cases k0 : (k == 0) with
  | true =>
    simp only [cond_true, okP, decide_eq_true_eq, List.length_set]
    exact hx
  | false =>
    simp only [k0, cond_false] at ha he ⊢
    cases k1 : (k == 1) with
    | true =>
      simp only [k1, cond_true, dayB, decide_eq_true_eq] at ha
      simp only [cond_true, okP, decide_eq_true_eq]
      omega
    | false =>
      simp only [k1, cond_false] at ha he ⊢
      cases k2 : (k == 2) with
      | true =>
        simp only [k2, cond_true, seatB, decide_eq_true_eq] at ha
        simp only [k2, cond_true] at he
        simp only [cond_true, okP, decide_eq_true_eq]
        have : x.2.2.2.1 ≠ -1 := by
          intro hh
          rw [hh] at he
          exact absurd he (by simp)
        omega
      | false =>
        simp [okP]
        omega

theorem set_right {l : List T35} {i : Nat} {y : T35} (h : rightC l = true) (hy : okP y = true) : rightC (l.set i y) = true := by
  refine right_of (by rw [List.length_set]; exact right_len h) (fun j x hx => ?_)
  rw [List.getElem?_set] at hx
  split at hx
  · split at hx
    · cases hx; exact hy
    · cases hx
  · exact right_at h hx

theorem doC_right {l : List T35} {k p c w d : Int} (h : (doC l k p c w d).2.2.1 = 0) : rightC (doC l k p c w d).1 = true := by
  obtain ⟨x, h1, h2, h3, h4, h5, h6⟩ := doC_ok h
  rw [h6]
  exact set_right h1 (effX_ok (right_at h1 h4) h2 h5)

theorem same_do (l : List T35) (k p c w d : Int) : m11 (doC l k p c w d).1 (doC l k p c w d).1 = some true := by
  by_cases h : (doC l k p c w d).2.2.1 = 0
  · exact same_right (doC_right h)
  · rw [doC_err h]
    exact same_refl (by simp) (by simp)

/-- The pieces after some acts. -/
def curF (l : List T35) (acts : List T26) : Nat → List T35
  | 0 => l
  | j + 1 => match acts[j]? with
    | some a => bif (doA (curF l acts j) a).2.2.1 == 0 then (doA (curF l acts j) a).1 else curF l acts j
    | none => curF l acts j

theorem bearerTells (l : List T35) (acts : List T26) (i c : Int) : m3 l acts i c = some true := by
  unfold m3
  rw [small_true, Option.bind_some, m8_eq, Option.bind_some]
  cases hc : (!fewC l || decide ((List.length acts : Int) > 30)) with
  | true => rfl
  | false =>
    have hn : acts.length ≤ 30 := by
      simp at hc; omega
    have hk : ((bif (true == true) then (m12 l i c) else some 0).bind fun r12 =>
        (bif (true == true) then (m13 l i c) else some 0).bind fun r13 =>
        (bif ((true && (r12 == r13)) == true) then (m14 l) else some false).bind fun r14 =>
        (bif ((true && (r12 == r13)) == true) then (m15 l) else some false).bind fun r15 =>
        some ((true && (r12 == r13)) && (r14 == r15))) = some true := by
      simp only [beq_self_eq_true, cond_true, m12_eq, m13_eq, Option.bind_some, Bool.true_and, m14_eq, m15_eq]
    rw [cond_false, hk]
    exact seq_loop (R := Bool) (S := List T35) acts.length (curF l acts) (fun m j s => l3_1 acts i c (some true) (some false) m s j) (fun _ => some true) (by omega)
      (by
        intro m j hj
        have ha := List.getElem?_eq_getElem (l := acts) (i := j) (by omega)
        generalize acts[j] = a at ha
        have hw : IntKind.i64.wrap ((j : Int) + 1) = (j : Int) + 1 := wrapI (by omega) (by omega)
        simp only [l3_1, s3_1, lt1 hj, cond_true, idx_nat, ha, Option.bind_some, hw]
        simp only [← kin.eq_def, m9_kin, m10_kin, Option.bind_some, bne_same, Bool.or_self, beq_self_eq_true, cond_true]
        have hs : m11 (doA (curF l acts j) a).1 (doA (curF l acts j) a).1 = some true := same_do _ _ _ _ _ _
        rw [hs]
        simp only [Option.bind_some, Bool.not_true, Bool.or_self, cond_false]
        refine (cont_eq (curF l acts (j + 1)) fun k => ?_).trans ?_
        · simp only [curF, ha]
          cases ((doA (curF l acts j) a).2.2.1 == 0) <;> rfl
        · simp only [m12_eq, m13_eq, m14_eq, m15_eq, Option.bind_some, bne_same, beq_self_eq_true, cond_true, Bool.not_true, Bool.or_self, cond_false])
      (by intro m; simp only [l3_1, s3_1, lt0, cond_false])

end Go.Proofs.Ytbleidfkmdbhgaa
