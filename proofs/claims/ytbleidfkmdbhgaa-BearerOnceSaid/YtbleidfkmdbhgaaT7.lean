/- Bearer: the other pieces are as they were. -/
import Derived.Test.YtbleidfkmdbhgaaT6
namespace Go.Proofs.Ytbleidfkmdbhgaa
open Go Go.Eng
set_option linter.unusedVariables false
set_option linter.unusedSimpArgs false

def lessL (l : List T35) (k : Nat) : List T35 := l.take k ++ l.drop (k + 1)

theorem subl_take {α : Type} (l : List α) (k : Nat) : subl l 0 (k : Int) = l.take k := by simp [subl]
theorem subl_drop {α : Type} (l : List α) (k : Nat) : subl l (k : Int) (l.length : Int) = l.drop k := by simp [subl]
theorem subl_one {α : Type} (l : List α) (k : Nat) (x : α) (h : l[k]? = some x) : subl l (k : Int) ((k : Int) + 1) = [x] := by
  obtain ⟨h1, h2⟩ := List.getElem?_eq_some_iff.1 h
  have e : ((k : Int) + 1).toNat = k + 1 := by omega
  unfold subl
  rw [e, Int.toNat_natCast]
  apply List.ext_getElem?
  intro i
  rw [List.getElem?_drop, List.getElem?_take]
  cases i with
  | zero => simp [h]
  | succ i =>
    rw [if_neg (by omega)]
    simp

theorem less_get (l : List T35) (k j : Nat) : (lessL l k)[j]? = if j < k then l[j]? else l[j + 1]? := by
  unfold lessL
  rw [← List.eraseIdx_eq_take_drop_succ, List.getElem?_eraseIdx]

theorem less_len {l : List T35} {k : Nat} (h : k < l.length) : (lessL l k).length = l.length - 1 := by
  simp [lessL]; omega

theorem less_right {l : List T35} (h : rightC l = true) {k : Nat} (hk : k < l.length) : rightC (lessL l k) = true := by
  have := right_len h
  refine right_of (by rw [less_len hk]; omega) (fun i x hx => ?_)
  rw [less_get] at hx
  split at hx
  · exact right_at h hx
  · exact right_at h hx

theorem less_set {l : List T35} {k p : Nat} (y : T35) (hk : k < l.length) (hp : p < l.length) (hne : k ≠ p) : lessL (l.set p y) k = (lessL l k).set (if k < p then p - 1 else p) y := by
  apply List.ext_getElem?
  intro j
  have hL := less_len hk
  rw [less_get, List.getElem?_set, List.getElem?_set, List.getElem?_set, less_get, hL]
  by_cases h1 : j < k
  · rw [if_pos h1, if_pos h1]
    by_cases h2 : k < p
    · rw [if_neg (by omega), if_pos h2, if_neg (by omega)]
    · rw [if_neg h2]
      by_cases h3 : p = j
      · rw [if_pos h3, if_pos h3, if_pos hp, if_pos (by omega)]
      · rw [if_neg h3, if_neg h3]
  · rw [if_neg h1, if_neg h1]
    by_cases h2 : k < p
    · rw [if_pos h2]
      by_cases h3 : p = j + 1
      · rw [if_pos h3, if_pos hp, if_pos (by omega), if_pos (by omega)]
      · rw [if_neg h3, if_neg (by omega)]
    · rw [if_neg h2, if_neg (by omega), if_neg (by omega)]

/-- What happens to a piece does not lean on the others. -/
theorem doC_less {l : List T35} {k p : Nat} {x : T35} (K c w d : Int) (hR : rightC l = true) (hk : k < l.length) (hx : l[p]? = some x) (hne : k ≠ p) :
    doC (lessL l k) K ((if k < p then p - 1 else p : Nat) : Int) c w d = (bif (doC l K (p : Int) c w d).2.2.1 == 0 then (lessL (doC l K (p : Int) c w d).1 k, (doC l K (p : Int) c w d).2.1, 0, ()) else doC l K (p : Int) c w d) := by
  have hp := (List.getElem?_eq_some_iff.1 hx).1
  cases hA : argB K w d with
  | false =>
    have e1 : doC (lessL l k) K ((if k < p then p - 1 else p : Nat) : Int) c w d = ([], 0, 1, ()) := by unfold doC; rw [hA, Bool.and_false]; rfl
    have e2 : doC l K (p : Int) c w d = ([], 0, 1, ()) := by unfold doC; rw [hA, Bool.and_false]; rfl
    rw [e1, e2]; rfl
  | true =>
    have hx' : (lessL l k)[(((if k < p then p - 1 else p : Nat) : Int)).toNat]? = some x := by
      rw [Int.toNat_natCast, less_get]
      by_cases h2 : k < p
      · rw [if_pos h2, if_neg (by omega), show p - 1 + 1 = p from by omega, hx]
      · rw [if_neg h2, if_pos (by omega), hx]
    rw [doC_at (less_right hR hk) hA (by omega) hx', doC_at hR hA (by omega) (by rw [Int.toNat_natCast]; exact hx)]
    cases he : (errX x K c w d == 0) with
    | true =>
      simp only [cond_true, beq_self_eq_true, Int.toNat_natCast]
      rw [less_set _ hk hp hne]
    | false => simp only [cond_false, he]

theorem bearerApart (l : List T35) (a : T26) (a2 : Int) (h2 : 0 ≤ a2 ∧ a2 ≤ 255) : m6 l a a2 = some true := by
  unfold m6
  rw [small_true, Option.bind_some, m8_eq, Option.bind_some, m14_eq, bind_guard]
  cases hF : fewC l with
  | false => rfl
  | true =>
  cases hR : rightC l with
  | false => rfl
  | true =>
  have hl := right_len hR
  simp only [Bool.not_true, beq_self_eq_true, cond_true, Bool.false_or]
  cases hn : ((List.length l : Int) == 0) with
  | true => rfl
  | false =>
  have hn0 : (List.length l : Int) ≠ 0 := by simpa using hn
  simp only [cond_false, bne, hn, Bool.not_false, asrtT]
  simp only [← bne.eq_def, ← kin.eq_def]
  rw [wrapI (x := a2) (by omega) (by omega), tmod_pos _ h2.1]
  have hk0 : 0 ≤ a2 % (List.length l : Int) := Int.emod_nonneg _ hn0
  have hk1 : a2 % (List.length l : Int) < (List.length l : Int) := Int.emod_lt_of_pos _ (by omega)
  obtain ⟨k, hk⟩ : ∃ k : Nat, a2 % (List.length l : Int) = (k : Int) := ⟨(a2 % (List.length l : Int)).toNat, by omega⟩
  rw [hk]
  have hkl : k < l.length := by omega
  rw [m9_kin, Option.bind_some]
  obtain ⟨a0, p, c, w, d, _⟩ := a
  simp only
  have hK := kin_bd a0
  show (bif (decide (p < 0) || decide (p ≥ (List.length l : Int))) then some (((true && ((doA l (a0, p, c, w, d, ())).2.2.1 != 0)) && ((List.length (doA l (a0, p, c, w, d, ())).1 : Int) == 0)) && ((doA l (a0, p, c, w, d, ())).2.1 == 0)) else _) = _
  have hr : doA l (a0, p, c, w, d, ()) = doC l (kin a0) p c w d := rfl
  rw [hr]
  cases ho : (decide (p < 0) || decide (p ≥ (List.length l : Int))) with
  | true =>
    have he : (doC l (kin a0) p c w d).2.2.1 ≠ 0 := by
      intro h
      obtain ⟨x, _, _, h3, h4, _⟩ := doC_ok h
      have := (List.getElem?_eq_some_iff.1 h4).1
      simp at ho
      omega
    rw [cond_true, bne_ne he, doC_err he]
    rfl
  | false =>
  obtain ⟨hp0, hp1, hp2, x, hx⟩ := idx_in ho
  obtain ⟨q, rfl⟩ : ∃ q : Nat, p = (q : Int) := ⟨p.toNat, by omega⟩
  rw [Int.toNat_natCast] at hx
  have hq : q < l.length := by omega
  rw [cond_false]
  generalize hrr : doC l (kin a0) (q : Int) c w d = r
  have hless := fun hne => doC_less (k := k) (kin a0) c w d hR hkl hx hne
  rw [hrr] at hless
  refine (cont_eq () fun k12 => ?_).trans ?_
  · cases hne : ((k : Int) != (q : Int)) with
    | false => rfl
    | true =>
      have hne' : k ≠ q := by
        intro h; subst h; simp at hne
      rw [cond_true]
      refine (cont_eq (kin a0, (((if k < q then q - 1 else q : Nat)) : Int), c, w, d, ()) fun k5 => ?_).trans ?_
      · by_cases h : k < q
        · rw [decide_eq_true (p := (k : Int) < (q : Int)) (by omega), cond_true, wrapI (by omega) (by omega), if_pos h]
          have : ((q : Int) - 1) = ((q - 1 : Nat) : Int) := by omega
          rw [this]
        · rw [decide_eq_false (p := (k : Int) < (q : Int)) (by omega), cond_false, if_neg h]
      · have hw : IntKind.i64.wrap ((k : Int) + 1) = (k : Int) + 1 := wrapI (by omega) (by omega)
        have b1 : bounds true (List.length l) 0 (k : Int) = true := by simp [bounds]; omega
        have b2 : bounds true (List.length l) ((k : Int) + 1) (List.length l : Int) = true := by simp [bounds]; omega
        have s1 : subl l 0 (k : Int) = l.take k := subl_take l k
        have s2 : subl l ((k : Int) + 1) (List.length l : Int) = l.drop (k + 1) := subl_drop l (k + 1)
        have d1 : decide (List.length (α := T35) (l.take k) ≤ LIM) = true := decide_eq_true (by unfold LIM; simp; omega)
        have d2 : decide (List.length (α := T35) (l.take k) + List.length (α := T35) (l.drop (k + 1)) ≤ LIM) = true := decide_eq_true (by unfold LIM; simp; omega)
        simp only [hw, b1, b2, s1, s2, d1, d2, asrtT]
        rw [show l.take k ++ l.drop (k + 1) = lessL l k from rfl]
        have e6 : m9 (lessL l k) (kin a0, ((if k < q then q - 1 else q : Nat) : Int), c, w, d, ()) = some (bif r.2.2.1 == 0 then (lessL r.1 k, r.2.1, 0, ()) else r) := by
          rw [m9_eq _ _ hK.1]
          simp only [decide_eq_true hK.2, cond_true]
          rw [hless hne']
        rw [e6, Option.bind_some]
        cases he : (r.2.2.1 == 0) with
        | false =>
          simp only [cond_false, bne_same, Bool.or_self, Bool.false_and, show (false == true) = false from rfl, asrtF, Option.bind_some]
        | true =>
          have he0 := eq_of_beq he
          have hok : (doC l (kin a0) (q : Int) c w d).2.2.1 = 0 := by rw [hrr]; exact he0
          obtain ⟨x', g1, g2, g3, g4, g5, g6⟩ := doC_ok hok
          rw [Int.toNat_natCast, hx] at g4
          cases g4
          rw [hrr, Int.toNat_natCast] at g6
          have hr1 : r.1 = l.set q (effX x (kin a0) c w d) := by rw [g6]
          have hlen : r.1.length = l.length := by rw [hr1, List.length_set]
          have hRr : rightC r.1 = true := by
            have := doC_right hok
            rw [hrr] at this; exact this
          have hkx := List.getElem?_eq_getElem (l := l) (i := k) hkl
          generalize l[k] = z at hkx
          have hkr : r.1[k]? = some z := by rw [hr1, List.getElem?_set_ne (fun h => hne' h.symm)]; exact hkx
          have b3 : bounds true (List.length r.1) (k : Int) ((k : Int) + 1) = true := by simp [bounds]; omega
          have b4 : bounds true (List.length l) (k : Int) ((k : Int) + 1) = true := by simp [bounds]; omega
          have b5 : bounds true (List.length r.1) 0 (k : Int) = true := by simp [bounds]; omega
          have b6 : bounds true (List.length r.1) ((k : Int) + 1) (List.length r.1 : Int) = true := by simp [bounds]; omega
          have s3 : subl r.1 0 (k : Int) = r.1.take k := subl_take r.1 k
          have s4 : subl r.1 ((k : Int) + 1) (List.length r.1 : Int) = r.1.drop (k + 1) := subl_drop r.1 (k + 1)
          have d3 : decide (List.length (α := T35) (r.1.take k) ≤ LIM) = true := decide_eq_true (by unfold LIM; simp; omega)
          have d4 : decide (List.length (α := T35) (r.1.take k) + List.length (α := T35) (r.1.drop (k + 1)) ≤ LIM) = true := decide_eq_true (by unfold LIM; simp; omega)
          have q1 : m11 [z] [z] = some true := same_right (a := [z]) (by
            refine right_of (by simp) (fun i y hy => ?_)
            cases i with
            | zero => simp at hy; subst hy; exact right_at hR hkx
            | succ i => simp at hy)
          have q2 : m11 (lessL r.1 k) (lessL r.1 k) = some true := same_right (less_right hRr (by omega))
          have l1 : ((List.length r.1 : Int) != (List.length l : Int)) = false := by rw [hlen]; exact bne_same _
          have l2 : ((List.length (lessL r.1 k) : Int) != (List.length (lessL l k) : Int)) = false := by rw [less_len (by omega), less_len hkl, hlen]; exact bne_same _
          simp only [cond_true, he0, bne_same, Bool.or_self, cond_false, beq_self_eq_true, l1, l2, Bool.and_false, b3, b4, b5, b6, s3, s4, d3, d4, asrtT, subl_one l k z hkx, subl_one r.1 k z hkr, q1, Option.bind_some, Bool.not_true, Bool.and_self, Bool.true_and]
          rw [show r.1.take k ++ r.1.drop (k + 1) = lessL r.1 k from rfl, q2]
          rfl
  · cases he : (r.2.2.1 == 0) with
    | false =>
      have he' : r.2.2.1 ≠ 0 := by simpa using he
      have : r = ([], 0, r.2.2.1, ()) := by
        have := doC_err (l := l) (k := kin a0) (p := (q : Int)) (c := c) (w := w) (d := d) (by rw [hrr]; exact he')
        rw [hrr] at this; exact this
      rw [bne_ne he', cond_true, this]
      rfl
    | true =>
      have he0 := eq_of_beq he
      have hok : (doC l (kin a0) (q : Int) c w d).2.2.1 = 0 := by rw [hrr]; exact he0
      obtain ⟨x', g1, g2, g3, g4, g5, g6⟩ := doC_ok hok
      rw [Int.toNat_natCast, hx] at g4
      cases g4
      rw [hrr, Int.toNat_natCast] at g6
      have hr1 : r.1 = l.set q (effX x (kin a0) c w d) := by rw [g6]
      have hlen : r.1.length = l.length := by rw [hr1, List.length_set]
      have hRr : rightC r.1 = true := by
        have := doC_right hok
        rw [hrr] at this; exact this
      have l1 : ((List.length r.1 : Int) != (List.length l : Int)) = false := by rw [hlen]; exact bne_same _
      have hrx : r.1[q]? = some (effX x (kin a0) c w d) := by rw [hr1]; exact List.getElem?_set_self hq
      have hir : idx r.1 (q : Int) = some (effX x (kin a0) c w d) := by rw [idx_nat]; exact hrx
      have hil : idx l (q : Int) = some x := by rw [idx_nat]; exact hx
      have r1 : (decide (0 ≤ (q : Int)) && decide ((q : Int) < (List.length l : Int))) = true := rng hq
      have ht : tellL (q : Int) l = some x := tell_eq hR (by omega) (by rw [Int.toNat_natCast]; exact hx)
      have hsame := same_right hRr
      simp only [he0, bne_same, cond_false, l1, ht, Option.bind_some, hir, r1, asrtT, Nat.beq_refl, Int.toNat_natCast, beq_self_eq_true, cond_true]
      cases hk0 : (kin a0 == 0) with
      | true =>
        have hkz := eq_of_beq hk0
        rw [hkz] at g5
        have g5' := g5
        simp only [errX, beq_self_eq_true, cond_true] at g5'
        cases hc : (decide (c < 0) || decide (c ≥ (x.2.2.1.length : Int))) with
        | true => rw [hc] at g5'; cases g5'
        | false =>
          obtain ⟨hc0, hc1, hc2, y, hy⟩ := idx_in hc
          have r2 : (decide (0 ≤ c) && decide (c < (x.2.2.1.length : Int))) = true := by simp; omega
          have hset : l.set q (x.1, x.2.1, x.2.2.1.set c.toNat true, (effX x (kin a0) c w d).2.2.2.1, (effX x (kin a0) c w d).2.2.2.2.1, ()) = r.1 := by
            rw [hr1, hkz]; rfl
          simp only [cond_true, r2, asrtT, hy, Option.bind_some, hset, hsame, Bool.true_and, beq_self_eq_true, idxG, hir, hil]
          have h1 : (effX x (kin a0) c w d).2.2.2.1 = x.2.2.2.1 := by rw [hkz]; rfl
          have h2 : (effX x (kin a0) c w d).2.2.2.2.1 = x.2.2.2.2.1 := by rw [hkz]; rfl
          simp only [h1, h2, beq_self_eq_true, Bool.true_and, cond_true, hir, hil, Option.bind_some]
      | false =>
        have hset : l.set q (x.1, x.2.1, x.2.2.1, (effX x (kin a0) c w d).2.2.2.1, (effX x (kin a0) c w d).2.2.2.2.1, ()) = r.1 := by
          rw [hr1]
          congr 1
          unfold effX
          rw [hk0]
          cases (kin a0 == 1) <;> cases (kin a0 == 2) <;> rfl
        simp only [cond_false, hset, hsame, Option.bind_some, Bool.true_and]

end Go.Proofs.Ytbleidfkmdbhgaa
