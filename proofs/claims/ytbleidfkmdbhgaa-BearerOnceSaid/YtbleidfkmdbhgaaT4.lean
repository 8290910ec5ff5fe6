/- Bearer: equal lists, what is open, the small examples. -/
import Derived.Test.YtbleidfkmdbhgaaT3
namespace Go.Proofs.Ytbleidfkmdbhgaa
open Go Go.Eng
set_option linter.unusedVariables false
set_option linter.unusedSimpArgs false

theorem idxG_same {α : Type} {xs : List α} {i : Nat} {x : α} (gc : Bool) (d : α) (h : xs[i]? = some x) : idxG gc d xs (i : Int) = some (bif gc then x else d) := by
  unfold idxG
  rw [idx_nat, h]
  cases gc <;> rfl

theorem same_refl {a : List T35} (hl : a.length ≤ 1000000) (hr : ∀ x ∈ a, x.2.2.1.length ≤ 1000000) : m11 a a = some true := by
  unfold m11
  rw [bne_same, cond_false]
  exact seq_loop (R := Bool) (S := Unit) a.length (fun _ => ()) (fun m j _ => l11_2 a a (some true) (some false) m j) (fun _ => some true) hl
    (by
      intro m j hj
      obtain ⟨x, hx⟩ : ∃ x, a[j]? = some x := ⟨_, List.getElem?_eq_getElem hj⟩
      have hw : IntKind.i64.wrap ((j : Int) + 1) = (j : Int) + 1 := wrapI (by omega) (by omega)
      simp only [l11_2, s11_2, lt1 hj, cond_true, idx_nat, hx, Option.bind_some, idxG_same _ _ hx, bne_same, Bool.or_self, Bool.false_or, beq_self_eq_true, cond_false, hw]
      exact seq_loop (R := Bool) (S := Unit) x.2.2.1.length (fun _ => ()) (fun n t _ => l11_1 a a (j : Int) (l11_2 a a (some true) (some false) m ((j : Int) + 1)) (some false) n t) (fun _ => l11_2 a a (some true) (some false) m ((j : Int) + 1)) (hr x (List.mem_of_getElem? hx))
        (by
          intro n t ht
          obtain ⟨y, hy⟩ : ∃ y, x.2.2.1[t]? = some y := ⟨_, List.getElem?_eq_getElem ht⟩
          have := hr x (List.mem_of_getElem? hx)
          have hw : IntKind.i64.wrap ((t : Int) + 1) = (t : Int) + 1 := wrapI (by omega) (by omega)
          simp only [l11_1, s11_1, idx_nat, hx, Option.bind_some, lt1 ht, cond_true, hy, beq_self_eq_true, Bool.not_true, cond_false, hw])
        (by intro n; simp only [l11_1, s11_1, idx_nat, hx, Option.bind_some, lt0, cond_false]))
    (by intro m; simp only [l11_2, s11_2, lt0, cond_false])

theorem same_right {a : List T35} (h : rightC a = true) : m11 a a = some true := by
  have := right_len h
  refine same_refl (by omega) (fun x hx => ?_)
  obtain ⟨i, hi⟩ := List.getElem?_of_mem hx
  have := right_at h hi
  simp only [okP, decide_eq_true_eq] at this
  omega

/-! ### What is open -/

def opX (x : T35) (i c : Int) : Int := bif (((x.1 == i) && decide (c ≥ 0)) && decide (c < (x.2.2.1.length : Int))) && !(x.2.2.1.getD c.toNat false) then x.2.1 else 0
def atX (f : T35 → Int) (l : List T35) (j : Nat) : Int := match l[j]? with
  | some x => f x
  | none => 0
def openS (l : List T35) (i c : Int) : Int := sumN (atX (fun x => opX x i c) l) l.length
def openC (l : List T35) (i c : Int) : Int := bif rightC l then openS l i c else 0

theorem atX_lt {f : T35 → Int} {l : List T35} {j : Nat} {x : T35} (h : l[j]? = some x) : atX f l j = f x := by simp [atX, h]

theorem opX_bd {x : T35} (h : okP x = true) (i c : Int) : 0 ≤ opX x i c ∧ opX x i c ≤ 1000000000 := by
  simp only [okP, decide_eq_true_eq] at h
  unfold opX
  cases (((x.1 == i) && decide (c ≥ 0)) && decide (c < (x.2.2.1.length : Int))) && !(x.2.2.1.getD c.toNat false) <;> simp only [cond_true, cond_false] <;> omega

theorem sum_bd {l : List T35} (h : rightC l = true) (i c : Int) : ∀ j, j ≤ l.length → 0 ≤ sumN (atX (fun x => opX x i c) l) j ∧ sumN (atX (fun x => opX x i c) l) j ≤ 1000000000 * j
  | 0, _ => ⟨Int.le_refl 0, Int.le_refl 0⟩
  | j + 1, hj => by
    have ih := sum_bd h i c j (by omega)
    have hx := List.getElem?_eq_getElem (l := l) (i := j) (by omega)
    have hb := opX_bd (right_at h hx) i c
    simp only [sumN, atX_lt hx]
    omega

theorem m12_eq (l : List T35) (i c : Int) : m12 l i c = some (openC l i c) := by
  unfold m12 openC
  rw [m14_eq, Option.bind_some]
  cases hR : rightC l with
  | false => rfl
  | true =>
    have hl := right_len hR
    simp only [Bool.not_true, cond_false, cond_true]
    exact seq_loop (R := Int) (S := Int) l.length (fun j => sumN (atX (fun x => opX x i c) l) j) (fun m j s => l12_1 i c l (List.length l : Int) (fun y5 => some y5) m s j) (fun s => some s) (by omega)
      (by
        intro m j hj
        have hx := List.getElem?_eq_getElem (l := l) (i := j) (by omega)
        generalize l[j] = x at hx
        have hw : IntKind.i64.wrap ((j : Int) + 1) = (j : Int) + 1 := wrapI (by omega) (by omega)
        have hb := sum_bd hR i c j (by omega)
        have hok := right_at hR hx
        have hbx := opX_bd hok i c
        simp only [okP, decide_eq_true_eq] at hok
        simp only [l12_1, s12_1, lt1 hj, cond_true, idx_nat, hx, Option.bind_some, hw]
        refine (cont_eq (sumN (atX (fun x => opX x i c) l) (j + 1)) fun k => ?_).trans rfl
        simp only [sumN, atX_lt hx]
        generalize sumN (atX (fun x => opX x i c) l) j = S at hb ⊢
        simp only [opX]
        cases hg : (((x.1 == i) && decide (c ≥ 0)) && decide (c < (x.2.2.1.length : Int))) with
        | false => simp [idxG]
        | true =>
          simp only [Bool.and_eq_true, decide_eq_true_eq] at hg
          have hy := List.getElem?_eq_getElem (l := x.2.2.1) (i := c.toNat) (by omega)
          generalize x.2.2.1[c.toNat] = y at hy
          have hgd : x.2.2.1.getD c.toNat false = y := by rw [List.getD_eq_getElem?_getD, hy]; rfl
          have hw2 : IntKind.i64.wrap (S + x.2.1) = S + x.2.1 := wrapI (by omega) (by omega)
          simp only [idxG, beq_self_eq_true, cond_true, idx_pos hg.1.2, hy, Option.bind_some, hgd, Bool.true_and, hw2]
          cases y <;> simp)
      (by intro m; simp only [l12_1, s12_1, lt0, cond_false])

theorem m13_eq (l : List T35) (i c : Int) : m13 l i c = some (openC l i c) := by
  unfold m13 openC
  cases hR : rightC l with
  | false =>
    obtain ⟨m, hm⟩ := fuel_s 1 (by omega)
    rw [hm]
    simp only [l13_1, s13_1, m15_eq, hR, bind_guard, Option.bind_some, cond_false]
    cases decide ((0 : Int) < (List.length l : Int)) <;> rfl
  | true =>
    have hl := right_len hR
    simp only [cond_true]
    exact seq_loop (R := Int) (S := Int) l.length (fun j => sumN (atX (fun x => opX x i c) l) j) (fun m j s => l13_1 l i c (fun y5 => some y5) m s j) (fun s => some s) (by omega)
      (by
        intro m j hj
        have hx := List.getElem?_eq_getElem (l := l) (i := j) (by omega)
        generalize l[j] = x at hx
        have hw : IntKind.i64.wrap ((j : Int) + 1) = (j : Int) + 1 := wrapI (by omega) (by omega)
        have hb := sum_bd hR i c j (by omega)
        have hok := right_at hR hx
        have hbx := opX_bd hok i c
        simp only [okP, decide_eq_true_eq] at hok
        simp only [l13_1, s13_1, lt1 hj, cond_true, m15_eq, hR, beq_self_eq_true, Bool.and_self, idx_nat, hx, Option.bind_some, hw]
        refine (cont_eq (sumN (atX (fun x => opX x i c) l) (j + 1)) fun k => ?_).trans rfl
        simp only [sumN, atX_lt hx]
        generalize sumN (atX (fun x => opX x i c) l) j = S at hb ⊢
        simp only [opX]
        have hgg : (((x.1 != i) || decide (c < 0)) || decide (c ≥ (x.2.2.1.length : Int))) = !(((x.1 == i) && decide (c ≥ 0)) && decide (c < (x.2.2.1.length : Int))) := by
          rw [Bool.eq_iff_iff]; simp <;> omega
        rw [hgg]
        cases hg : (((x.1 == i) && decide (c ≥ 0)) && decide (c < (x.2.2.1.length : Int))) with
        | false => simp
        | true =>
          simp only [Bool.and_eq_true, decide_eq_true_eq] at hg
          have hy := List.getElem?_eq_getElem (l := x.2.2.1) (i := c.toNat) (by omega)
          generalize x.2.2.1[c.toNat] = y at hy
          have hgd : x.2.2.1.getD c.toNat false = y := by rw [List.getD_eq_getElem?_getD, hy]; rfl
          have hw2 : IntKind.i64.wrap (S + x.2.1) = S + x.2.1 := wrapI (by omega) (by omega)
          simp only [Bool.not_true, cond_false, idx_pos hg.1.2, hy, Option.bind_some, hgd, Bool.true_and, hw2]
          cases y <;> simp)
      (by
        intro m
        simp only [l13_1, s13_1, lt0, beq_self_eq_true, Bool.false_and, cond_false]
        rfl)

/-! ### The small examples -/

theorem m16_c (l : List T35) (p d : Int) : m16 l p d = some ((doC l 1 p 0 0 d).1, (doC l 1 p 0 0 d).2.2.1, ()) := by
  have h := m16_eq l p d 0 0
  cases hm : m16 l p d with
  | none => rw [hm] at h; cases h
  | some r =>
    rw [hm] at h
    rw [← Option.some.inj h]
theorem m18_c (l : List T35) (p w : Int) : m18 l p w = some ((doC l 2 p 0 w 0).1, (doC l 2 p 0 w 0).2.2.1, ()) := by
  have h := m18_eq l p w 0 0
  cases hm : m18 l p w with
  | none => rw [hm] at h; cases h
  | some r =>
    rw [hm] at h
    rw [← Option.some.inj h]
theorem m19_c (l : List T35) (p : Int) : m19 l p = some ((doC l 3 p 0 0 0).1, (doC l 3 p 0 0 0).2.2.1, ()) := by
  have h := m19_eq l p 0 0 0 3 (by omega)
  cases hm : m19 l p with
  | none => rw [hm] at h; cases h
  | some r =>
    rw [hm] at h
    rw [← Option.some.inj h]

def smp : List T35 := [(4, 10, [false, false], -1, -1, ()), (4, 20, [false, false], -1, -1, ())]
theorem m21_eq : m21 = some smp := by
  have h : (decide (0 ≤ 2) && decide (2 ≤ 2) && decide (2 ≤ (LIM : Int))) = true := by decide
  unfold m21
  rw [h, asrtT, asrtT]
  rfl

theorem small_true : m7 = some true := by
  unfold m7
  simp only [m21_eq, Option.bind_some, m17_eq, m16_c, m18_c, m12_eq, m14_eq]
  decide +kernel

end Go.Proofs.Ytbleidfkmdbhgaa
