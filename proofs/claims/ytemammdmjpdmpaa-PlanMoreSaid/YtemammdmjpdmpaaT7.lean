/- Plan: the searches, as they are computed. -/
import Derived.Test.YtemammdmjpdmpaaT2
namespace Go.Proofs.Ytemammdmjpdmpaa
open Go Go.Eng
set_option linter.unusedVariables false
set_option linter.unusedSimpArgs false

def wid (t : T24) (c : List Int) : Nat := (t.1.getD c.length []).length
def foldN {S : Type} (f : Nat → S → S) : Nat → S → S
  | 0, s => s
  | n + 1, s => f n (foldN f n s)
def nd : Nat → Nat
  | 0 => 1
  | r + 1 => 1 + 6 * nd r
abbrev LS := Int × (List Int × Int)
def stopB (t : T24) (c : List Int) (s : LS) : Bool := decide (overC t c ≥ 0) || ((!s.2.1.isEmpty) && decide (floorC t c ≥ s.2.2))
def lookP (t : T24) : Nat → List Int → LS → LS
  | 0, c, s => bif stopB t c s then (s.1 + 1, s.2) else (s.1 + 1, c, floorC t c)
  | r + 1, c, s => bif stopB t c s then (s.1 + 1, s.2) else foldN (fun j s => lookP t r (c ++ [(j : Int)]) s) (wid t c) (s.1 + 1, s.2)

theorem wid_bd {t : T24} (g : Good t) {c : List Int} (h : c.length < t.1.length) : 1 ≤ wid t c ∧ wid t c ≤ 6 := by
  obtain ⟨g1, g2, _⟩ := g.opt _ _ (g.issue h)
  exact ⟨g1, g2⟩

theorem fold_bd {f : Nat → LS → LS} {d : Nat} {s0 : LS} : ∀ w, (∀ j s, j < w → s.1 ≤ (f j s).1 ∧ (f j s).1 ≤ s.1 + d) → s0.1 ≤ (foldN f w s0).1 ∧ (foldN f w s0).1 ≤ s0.1 + (w * d : Nat)
  | 0, _ => by simp [foldN]
  | w + 1, h => by
    obtain ⟨a, b⟩ := fold_bd (f := f) (d := d) (s0 := s0) w (fun j s hj => h j s (by omega))
    obtain ⟨c, e⟩ := h w (foldN f w s0) (by omega)
    simp only [foldN]
    have : (w + 1) * d = w * d + d := Nat.succ_mul w d
    omega

theorem look_bd {t : T24} (g : Good t) : ∀ r (c : List Int) (s : LS), c.length + r = t.1.length → s.1 + 1 ≤ (lookP t r c s).1 ∧ (lookP t r c s).1 ≤ s.1 + nd r
  | 0, c, s, _ => by unfold lookP; cases stopB t c s <;> simp [nd]
  | r + 1, c, s, h => by
    have hp : 1 ≤ nd r := by cases r <;> simp [nd]
    unfold lookP
    cases stopB t c s with
    | true => simp only [cond_true, nd]; omega
    | false =>
      simp only [cond_false, nd]
      have hw := wid_bd g (c := c) (by omega)
      obtain ⟨a, b⟩ := fold_bd (f := fun j s => lookP t r (c ++ [(j : Int)]) s) (d := nd r) (s0 := (s.1 + 1, s.2)) (wid t c) (fun j s hj => by
        have := look_bd g r (c ++ [(j : Int)]) s (by simp; omega)
        exact ⟨by omega, this.2⟩)
      have : wid t c * nd r ≤ 6 * nd r := Nat.mul_le_mul_right _ hw.2
      simp only at a b
      omega

theorem look_at {t : T24} (g : Good t) {r : Nat} {c : List Int} (h : c.length + (r + 1) = t.1.length) (s0 : LS) {j : Nat} (hj : j < wid t c) :
    s0.1 ≤ (foldN (fun j s => lookP t r (c ++ [(j : Int)]) s) j s0).1 ∧ (foldN (fun j s => lookP t r (c ++ [(j : Int)]) s) j s0).1 + nd r ≤ s0.1 + 6 * nd r := by
  have hw := wid_bd g (c := c) (by omega)
  obtain ⟨a, b⟩ := fold_bd (f := fun j s => lookP t r (c ++ [(j : Int)]) s) (d := nd r) (s0 := s0) j (fun j s hj => by
    have := look_bd g r (c ++ [(j : Int)]) s (by simp; omega)
    exact ⟨by omega, this.2⟩)
  have h1 : (j + 1) * nd r ≤ 6 * nd r := Nat.mul_le_mul_right _ (by omega)
  have h2 : (j + 1) * nd r = j * nd r + nd r := Nat.succ_mul j (nd r)
  omega

theorem over_cases (t : T24) (c : List Int) : overC t c = -1 ∨ 0 ≤ overC t c := by
  rcases overG_bd (brk t c) t.2.1.length 0 with h1 | ⟨h1, _, _⟩
  · exact .inl h1
  · exact .inr h1

theorem lim_eq : (4294967296 : Nat) = LIM := rfl

/-- The reference's search. -/
theorem m32N_eq {t : T24} (g : Good t) : ∀ r n (c : List Int) (s : LS), r < n → vC t c → c.length + r = t.1.length → 0 ≤ s.1 → s.1 + nd r ≤ 100000 →
    m32N n c t s.1 s.2.1 s.2.2 = some (((()), ()), ((t, (lookP t r c s).1, (lookP t r c s).2.1, (lookP t r c s).2.2, ()), ())) := by
  intro r
  induction r with
  | zero =>
    intro n c s hn hv hc h0 h1
    obtain ⟨n, rfl⟩ : ∃ a, n = a + 1 := ⟨n - 1, by omega⟩
    have := g.n1
    have := g.n2
    have := lim_eq
    simp only [nd] at h1
    show M32 (m32N n) c t s.1 s.2.1 s.2.2 = _
    unfold M32 lookP stopB
    have w : IntKind.i64.wrap (s.1 + 1) = s.1 + 1 := wrapI (by omega) (by omega)
    have l1 : ((List.length c : Int) == (List.length t.1 : Int)) = true := by simp; omega
    have l2 : decide (List.length (α := Int) c ≤ LIM) = true := decide_eq_true (by omega)
    have l3 : (!(List.isEmpty (α := Int) c)) = true := by cases c with
      | nil => simp at hc; omega
      | cons => rfl
    rw [w, decide_eq_false (p := s.1 + 1 > 100000) (by omega)]
    simp only [beq_self_eq_true, cond_true, m35_eq g hv, m22_eq g hv, Option.bind_some, Bool.false_or, l1, l2, l3, asrtT]
    rcases over_cases t c with ho | ho
    · rw [ho]
      cases he : (!s.2.1.isEmpty) with
      | false => rfl
      | true =>
        have : decide ((-1 : Int) ≥ 0) = false := rfl
        simp only [this, bne_self_eq_false, beq_self_eq_true, Bool.and_self, cond_true, Option.bind_some, Bool.false_or, Bool.true_and]
        cases decide (floorC t c ≥ s.2.2) <;> rfl
    · have e1 : (overC t c != -1) = true := by simp; omega
      rw [e1, decide_eq_true (p := overC t c ≥ 0) ho]
      rfl
  | succ r ih =>
    intro n c s hn hv hc h0 h1
    obtain ⟨n, rfl⟩ : ∃ a, n = a + 1 := ⟨n - 1, by omega⟩
    have := g.n1
    have := g.n2
    have := lim_eq
    simp only [nd] at h1
    have hp : 1 ≤ nd r := by cases r <;> simp [nd]
    show M32 (m32N n) c t s.1 s.2.1 s.2.2 = _
    unfold M32 lookP
    have w : IntKind.i64.wrap (s.1 + 1) = s.1 + 1 := wrapI (by omega) (by omega)
    have l1 : ((List.length c : Int) == (List.length t.1 : Int)) = false := by simp; omega
    rw [w, decide_eq_false (p := s.1 + 1 > 100000) (by omega)]
    simp only [beq_self_eq_true, cond_true, m35_eq g hv, m22_eq g hv, Option.bind_some, Bool.false_or, l1]
    have hloop : l32_1 (m32N n) c (fun y6 y7 y8 y9 => some (((()), ()), ((y6, y7, y8, y9, ()), ()))) FUEL 0 t (s.1 + 1) s.2.1 s.2.2 =
        some (((()), ()), ((t, (foldN (fun j s => lookP t r (c ++ [(j : Int)]) s) (wid t c) (s.1 + 1, s.2)).1, (foldN (fun j s => lookP t r (c ++ [(j : Int)]) s) (wid t c) (s.1 + 1, s.2)).2.1, (foldN (fun j s => lookP t r (c ++ [(j : Int)]) s) (wid t c) (s.1 + 1, s.2)).2.2, ()), ())) := by
      have hw := wid_bd g (c := c) (by omega)
      exact seq_loop (R := F32o.ty) (S := LS) (wid t c) (fun j => foldN (fun j s => lookP t r (c ++ [(j : Int)]) s) j (s.1 + 1, s.2))
        (fun m j x => l32_1 (m32N n) c (fun y6 y7 y8 y9 => some (((()), ()), ((y6, y7, y8, y9, ()), ()))) m j t x.1 x.2.1 x.2.2) (fun x => some (((()), ()), ((t, x.1, x.2.1, x.2.2, ()), ()))) (by omega)
        (by
          intro m j hj
          obtain ⟨b1, b2⟩ := look_at g hc (s.1 + 1, s.2) hj
          simp only at b1 b2
          have l2 : decide (List.length (α := Int) c ≤ LIM) = true := decide_eq_true (by omega)
          have l3 : decide (List.length (α := Int) c + List.length (α := Int) [(j : Int)] ≤ LIM) = true := decide_eq_true (by simp; omega)
          have hi := ih n (c ++ [(j : Int)]) (foldN (fun j s => lookP t r (c ++ [(j : Int)]) s) j (s.1 + 1, s.2)) (by omega) (vC_app hv (by omega) hj) (by simp; omega) (by omega) (by omega)
          have hwid : (t.1.getD c.length []).length = wid t c := rfl
          simp only [l32_1, s32_1, idx_nat, g.issue (i := c.length) (by omega), Option.bind_some, hwid, lt1 hj, cond_true, l2, l3, asrtT, hi, wr1 (j := j) (by omega)]
          rfl)
        (by
          intro m
          have hwid : (t.1.getD c.length []).length = wid t c := rfl
          simp only [l32_1, s32_1, idx_nat, g.issue (i := c.length) (by omega), Option.bind_some, hwid, lt0, cond_false])
    unfold stopB
    rcases over_cases t c with ho | ho
    · rw [ho]
      cases he : (!s.2.1.isEmpty) with
      | false => exact hloop
      | true =>
        have : decide ((-1 : Int) ≥ 0) = false := rfl
        simp only [this, bne_self_eq_false, beq_self_eq_true, Bool.and_self, cond_true, Option.bind_some, Bool.false_or, Bool.true_and]
        cases decide (floorC t c ≥ s.2.2) with
        | false => exact hloop
        | true => rfl
    · have e1 : (overC t c != -1) = true := by simp; omega
      rw [e1, decide_eq_true (p := overC t c ≥ 0) ho]
      rfl

/-! ### Plan: the search of the program. -/
theorem up26 {R : Type} {t : T24} (g : Good t) {c : List Int} (hv : vC t c) (hc : c.length < t.1.length) {j : Nat} (hj : j < wid t c) (k1 : List Int → Option R) :
    l26_1 (c.length : Int) 1 (optAt t c.length (j : Int)).1 (List.length (optAt t c.length (j : Int)).1 : Int) (leastL t) k1 FUEL 0 (costsL t c) = k1 (costsL t (c ++ [(j : Int)])) :=
  step_up g hv hc hj (fun m i o => l26_1 (c.length : Int) 1 (optAt t c.length (j : Int)).1 (List.length (optAt t c.length (j : Int)).1 : Int) (leastL t) k1 m i o) k1 (fun m i o => rfl)
theorem dn26 {R : Type} {t : T24} (g : Good t) {c : List Int} (hv : vC t c) (hc : c.length < t.1.length) {j : Nat} (hj : j < wid t c) (k1 : List Int → Option R) :
    l26_2 (c.length : Int) (-1) (optAt t c.length (j : Int)).1 (List.length (optAt t c.length (j : Int)).1 : Int) (leastL t) k1 FUEL 0 (costsL t (c ++ [(j : Int)])) = k1 (costsL t c) :=
  step_down g hv hc hj (fun m i o => l26_2 (c.length : Int) (-1) (optAt t c.length (j : Int)).1 (List.length (optAt t c.length (j : Int)).1 : Int) (leastL t) k1 m i o) k1 (fun m i o => rfl)


theorem up31 {R : Type} {t : T24} (g : Good t) {c : List Int} (hv : vC t c) (hc : c.length < t.1.length) {j : Nat} (hj : j < wid t c) (k1 : List Int → Option R) :
    l31_1 (c.length : Int) 1 (optAt t c.length (j : Int)).1 (List.length (optAt t c.length (j : Int)).1 : Int) (leastL t) k1 FUEL 0 (costsL t c) = k1 (costsL t (c ++ [(j : Int)])) :=
  step_up g hv hc hj (fun m i o => l31_1 (c.length : Int) 1 (optAt t c.length (j : Int)).1 (List.length (optAt t c.length (j : Int)).1 : Int) (leastL t) k1 m i o) k1 (fun m i o => rfl)
theorem dn31 {R : Type} {t : T24} (g : Good t) {c : List Int} (hv : vC t c) (hc : c.length < t.1.length) {j : Nat} (hj : j < wid t c) (k1 : List Int → Option R) :
    l31_2 (c.length : Int) (-1) (optAt t c.length (j : Int)).1 (List.length (optAt t c.length (j : Int)).1 : Int) (leastL t) k1 FUEL 0 (costsL t (c ++ [(j : Int)])) = k1 (costsL t c) :=
  step_down g hv hc hj (fun m i o => l31_2 (c.length : Int) (-1) (optAt t c.length (j : Int)).1 (List.length (optAt t c.length (j : Int)).1 : Int) (leastL t) k1 m i o) k1 (fun m i o => rfl)


theorem up44 {R : Type} {t : T24} (g : Good t) {c : List Int} (hv : vC t c) (hc : c.length < t.1.length) {j : Nat} (hj : j < wid t c) (k1 : List Int → Option R) :
    l44_1 (c.length : Int) 1 (optAt t c.length (j : Int)).1 (List.length (optAt t c.length (j : Int)).1 : Int) (leastL t) k1 FUEL 0 (costsL t c) = k1 (costsL t (c ++ [(j : Int)])) :=
  step_up g hv hc hj (fun m i o => l44_1 (c.length : Int) 1 (optAt t c.length (j : Int)).1 (List.length (optAt t c.length (j : Int)).1 : Int) (leastL t) k1 m i o) k1 (fun m i o => rfl)
theorem dn44 {R : Type} {t : T24} (g : Good t) {c : List Int} (hv : vC t c) (hc : c.length < t.1.length) {j : Nat} (hj : j < wid t c) (k1 : List Int → Option R) :
    l44_2 (c.length : Int) (-1) (optAt t c.length (j : Int)).1 (List.length (optAt t c.length (j : Int)).1 : Int) (leastL t) k1 FUEL 0 (costsL t (c ++ [(j : Int)])) = k1 (costsL t c) :=
  step_down g hv hc hj (fun m i o => l44_2 (c.length : Int) (-1) (optAt t c.length (j : Int)).1 (List.length (optAt t c.length (j : Int)).1 : Int) (leastL t) k1 m i o) k1 (fun m i o => rfl)

theorem bnd_take (c : List Int) (j : Int) : bounds true (List.length (c ++ [j])) 0 (c.length : Int) = true := by
  simp [bounds]; omega
theorem asrt_go {R : Type} {b : Bool} {k : Option R} (h : b = true) : asrt true (true && b) k = k := by
  subst h; exact asrtT _ _
theorem subl_take (c : List Int) (j : Int) : subl (c ++ [j]) 0 (c.length : Int) = c := by
  simp [subl]

def st26 (t : T24) (c : List Int) (s : LS) : F26o.ty := (((()), ()), (s.1, (), s.2.1, s.2.2, (), t, ((), (), (), (), (), (), (), ()), (t, leastL t, (), (), ()), (), costsL t c, dueL t c, c, ()))

theorem m26N_eq {t : T24} (g : Good t) : ∀ r n (c : List Int) (s : LS), r < n → vC t c → c.length + r = t.1.length → 0 ≤ s.1 → s.1 + nd r ≤ 100000 →
    m26N n s.1 s.2.1 s.2.2 t t (leastL t) c (costsL t c) (dueL t c) = some (st26 t c (lookP t r c s)) := by
  intro r
  induction r with
  | zero =>
    intro n c s hn hv hc h0 h1
    obtain ⟨n, rfl⟩ : ∃ a, n = a + 1 := ⟨n - 1, by omega⟩
    have := g.n1
    have := g.n2
    have := lim_eq
    simp only [nd] at h1
    show M26 (m26N n) s.1 s.2.1 s.2.2 t t (leastL t) c (costsL t c) (dueL t c) = _
    unfold M26 lookP stopB
    have w : IntKind.i64.wrap (s.1 + 1) = s.1 + 1 := wrapI (by omega) (by omega)
    have l1 : ((List.length c : Int) == (List.length t.1 : Int)) = true := by simp; omega
    have l3 : (!(List.isEmpty (α := Int) c)) = true := by cases c with
      | nil => simp at hc; omega
      | cons => rfl
    rw [w, decide_eq_false (p := s.1 + 1 > 100000) (by omega), m27_eq g, m28_eq g hv, cloneM_eq (by omega)]
    simp only [beq_self_eq_true, cond_true, Option.bind_some, Bool.false_or, l1, l3, asrtT]
    rcases over_cases t c with ho | ho
    · rw [ho]
      have : decide ((-1 : Int) ≥ 0) = false := rfl
      simp only [this, beq_self_eq_true, Bool.false_or, Bool.true_and]
      cases he : (!s.2.1.isEmpty) with
      | false => rfl
      | true =>
        simp only [beq_self_eq_true, cond_true, Option.bind_some, Bool.true_and]
        cases decide (floorC t c ≥ s.2.2) <;> rfl
    · rw [decide_eq_true (p := overC t c ≥ 0) ho]
      rfl
  | succ r ih =>
    intro n c s hn hv hc h0 h1
    obtain ⟨n, rfl⟩ : ∃ a, n = a + 1 := ⟨n - 1, by omega⟩
    have := g.n1
    have := g.n2
    have := lim_eq
    simp only [nd] at h1
    have hp : 1 ≤ nd r := by cases r <;> simp [nd]
    have hc' : c.length < t.1.length := by omega
    show M26 (m26N n) s.1 s.2.1 s.2.2 t t (leastL t) c (costsL t c) (dueL t c) = _
    unfold M26 lookP
    have w : IntKind.i64.wrap (s.1 + 1) = s.1 + 1 := wrapI (by omega) (by omega)
    have l1 : ((List.length c : Int) == (List.length t.1 : Int)) = false := by simp; omega
    have hwid : (t.1.getD c.length []).length = wid t c := rfl
    rw [w, decide_eq_false (p := s.1 + 1 > 100000) (by omega), m27_eq g, m28_eq g hv]
    simp only [beq_self_eq_true, cond_true, Option.bind_some, Bool.false_or, l1, idx_nat, g.issue hc', hwid]
    have hloop : l26_3 (m26N n) (c.length : Int) (wid t c : Int) (fun y33 y34 y35 y36 y37 y38 y39 y40 y41 =>
          some (((()), ()), (y33, (), y34, y35, (), y36, ((), (), (), (), (), (), (), ()), (y37, y38, (), (), ()), (), y39, y40, y41, ()))) FUEL 0 (s.1 + 1) s.2.1 s.2.2 t t (leastL t) (costsL t c) (dueL t c) c =
        some (st26 t c (foldN (fun j s => lookP t r (c ++ [(j : Int)]) s) (wid t c) (s.1 + 1, s.2))) := by
      have hw := wid_bd g (c := c) (by omega)
      exact seq_loop (R := F26o.ty) (S := LS) (wid t c) (fun j => foldN (fun j s => lookP t r (c ++ [(j : Int)]) s) j (s.1 + 1, s.2))
        (fun m j x => l26_3 (m26N n) (c.length : Int) (wid t c : Int) (fun y33 y34 y35 y36 y37 y38 y39 y40 y41 =>
          some (((()), ()), (y33, (), y34, y35, (), y36, ((), (), (), (), (), (), (), ()), (y37, y38, (), (), ()), (), y39, y40, y41, ()))) m j x.1 x.2.1 x.2.2 t t (leastL t) (costsL t c) (dueL t c) c) (fun x => some (st26 t c x)) (by omega)
        (by
          intro m j hj
          obtain ⟨b1, b2⟩ := look_at g hc (s.1 + 1, s.2) hj
          simp only at b1 b2
          have l3 : decide (List.length (α := Int) c + List.length (α := Int) [(j : Int)] ≤ LIM) = true := decide_eq_true (by simp; omega)
          have hi := ih n (c ++ [(j : Int)]) (foldN (fun j s => lookP t r (c ++ [(j : Int)]) s) j (s.1 + 1, s.2)) (by omega) (vC_app hv (by omega) hj) (by simp; omega) (by omega) (by omega)
          have ho : (t.1.getD c.length [])[j]? = some (optAt t c.length (j : Int)) := get_of_lt hj _
          simp only [l26_3, s26_3, lt1 hj, cond_true, l3, asrtT, idx_nat, g.issue hc', Option.bind_some, ho, wr1 (j := j) (by omega)]
          rw [up26 g hv hc' hj]
          have hst : ∀ x : LS, (st26 t (c ++ [(j : Int)]) x).2.2.2.2.2.2.2.2.1.1 = t := fun _ => rfl
          cases hd : decide ((optAt t c.length (j : Int)).2.1 ≥ 0) with
          | true =>
            obtain ⟨u1, u2, u3⟩ := due_up g hv hc' hj hd
            obtain ⟨ua, ub⟩ := Bool.and_eq_true_iff.1 u1
            obtain ⟨d1, d2, d3⟩ := due_down g hv hc' hj hd
            obtain ⟨da, db⟩ := Bool.and_eq_true_iff.1 d1
            simp only [cond_true, ua, ub, Bool.and_self, asrtT, u2, Option.bind_some, u3, hi]
            simp only [st26, idx_nat, g.issue hc', Option.bind_some, ho]
            rw [dn26 g hv hc' hj]
            simp only [hd, cond_true, da, db, Bool.and_self, asrtT, d2, Option.bind_some, d3, bnd_take, subl_take]
            exact (asrt_go db).trans ((asrt_go db).trans rfl)
          | false =>
            have u := due_same hd
            simp only [cond_false]
            rw [← u, hi]
            simp only [st26, idx_nat, g.issue hc', Option.bind_some, ho]
            rw [dn26 g hv hc' hj]
            simp only [hd, cond_false, u, bnd_take, subl_take, asrtT]
            rfl)
        (by
          intro m
          simp only [l26_3, s26_3, lt0, cond_false]
          rfl)
    unfold stopB
    rcases over_cases t c with ho | ho
    · rw [ho]
      have : decide ((-1 : Int) ≥ 0) = false := rfl
      simp only [this, beq_self_eq_true, Bool.false_or, Bool.true_and]
      cases he : (!s.2.1.isEmpty) with
      | false => exact hloop
      | true =>
        simp only [beq_self_eq_true, cond_true, Option.bind_some, Bool.true_and]
        cases decide (floorC t c ≥ s.2.2) with
        | false => exact hloop
        | true => rfl
    · rw [decide_eq_true (p := overC t c ≥ 0) ho]
      rfl

/-! ### Plan: the bounds of a proof, as they are computed. -/
def catN {α : Type} (f : Nat → List α) : Nat → List α
  | 0 => []
  | n + 1 => catN f n ++ f n
def bnd (t : T24) (k : Int) : Nat → List Int → List T42
  | 0, c => bif decide (overC t c ≥ 0) then [(c, 0, overC t c, ())] else [(c, floorC t c, -1, ())]
  | r + 1, c => bif decide (overC t c ≥ 0) then [(c, 0, overC t c, ())] else bif decide (floorC t c ≥ k) then [(c, floorC t c, -1, ())] else catN (fun j => bnd t k r (c ++ [(j : Int)])) (wid t c)

theorem cat_len {α : Type} {f : Nat → List α} {d : Nat} : ∀ w, (∀ j, j < w → (f j).length ≤ d) → (catN f w).length ≤ w * d
  | 0, _ => by simp [catN]
  | w + 1, h => by
    have a := cat_len (f := f) (d := d) w (fun j hj => h j (by omega))
    have b := h w (by omega)
    simp only [catN, List.length_append]
    have : (w + 1) * d = w * d + d := Nat.succ_mul w d
    omega

theorem nd_pos (r : Nat) : 1 ≤ nd r := by cases r <;> simp [nd]

theorem bnd_len {t : T24} (g : Good t) (k : Int) : ∀ r (c : List Int), c.length + r = t.1.length → (bnd t k r c).length ≤ nd r
  | 0, c, _ => by unfold bnd; cases decide (overC t c ≥ 0) <;> simp [nd]
  | r + 1, c, h => by
    have hp := nd_pos r
    unfold bnd
    cases decide (overC t c ≥ 0) with
    | true => simp only [cond_true, nd, List.length_singleton]; omega
    | false =>
      cases decide (floorC t c ≥ k) with
      | true => simp only [cond_true, cond_false, nd, List.length_singleton]; omega
      | false =>
        simp only [cond_false, nd]
        have hw := wid_bd g (c := c) (by omega)
        have a := cat_len (f := fun j => bnd t k r (c ++ [(j : Int)])) (d := nd r) (wid t c) (fun j hj => bnd_len g k r (c ++ [(j : Int)]) (by simp; omega))
        have : wid t c * nd r ≤ 6 * nd r := Nat.mul_le_mul_right _ hw.2
        omega

theorem bnd_at {t : T24} (g : Good t) (k : Int) {r : Nat} {c : List Int} (h : c.length + (r + 1) = t.1.length) {j : Nat} (hj : j < wid t c) :
    (catN (fun j => bnd t k r (c ++ [(j : Int)])) j).length + nd r ≤ 6 * nd r := by
  have hw := wid_bd g (c := c) (by omega)
  have a := cat_len (f := fun j => bnd t k r (c ++ [(j : Int)])) (d := nd r) j (fun j hj => bnd_len g k r (c ++ [(j : Int)]) (by simp; omega))
  have h1 : (j + 1) * nd r ≤ 6 * nd r := Nat.mul_le_mul_right _ (by omega)
  have h2 : (j + 1) * nd r = j * nd r + nd r := Nat.succ_mul j (nd r)
  omega

def minK (t : T24) (k : Int) : Prop := ∀ l, vC t l → l.length = t.1.length → overC t l = -1 → k ≤ floorC t l

def st31 (t : T24) (c : List Int) (out : List T42) : F31o.ty := (((), ()), ((t, leastL t, (), (), ()), c, (), costsL t c, dueL t c, out, ()))

theorem m31N_eq {t : T24} (g : Good t) {k : Int} (hk : minK t k) : ∀ r n (c : List Int) (out : List T42), r < n → vC t c → c.length + r = t.1.length → out.length + nd r ≤ 100000 →
    m31N n k t (leastL t) c out (costsL t c) (dueL t c) = some (st31 t c (out ++ bnd t k r c)) := by
  intro r
  induction r with
  | zero =>
    intro n c out hn hv hc h1
    obtain ⟨n, rfl⟩ : ∃ a, n = a + 1 := ⟨n - 1, by omega⟩
    have := g.n1
    have := g.n2
    have := lim_eq
    simp only [nd] at h1
    show M31 (m31N n) k t (leastL t) c out (costsL t c) (dueL t c) = _
    unfold M31 bnd
    have l2 : ∀ x : T42, decide (List.length (α := T42) out + List.length (α := T42) [x] ≤ LIM) = true := fun x => decide_eq_true (by simp; omega)
    rw [m27_eq g, m28_eq g hv, cloneM_eq (by omega)]
    simp only [Option.bind_some, l2, asrtT]
    rcases over_cases t c with ho | ho
    · have hf : decide (floorC t c ≥ k) = true := decide_eq_true (hk c hv (by omega) ho)
      rw [ho, hf]
      rfl
    · rw [decide_eq_true (p := overC t c ≥ 0) ho]
      rfl
  | succ r ih =>
    intro n c out hn hv hc h1
    obtain ⟨n, rfl⟩ : ∃ a, n = a + 1 := ⟨n - 1, by omega⟩
    have := g.n1
    have := g.n2
    have := lim_eq
    simp only [nd] at h1
    have hp := nd_pos r
    have hc' : c.length < t.1.length := by omega
    show M31 (m31N n) k t (leastL t) c out (costsL t c) (dueL t c) = _
    unfold M31 bnd
    have l2 : ∀ x : T42, decide (List.length (α := T42) out + List.length (α := T42) [x] ≤ LIM) = true := fun x => decide_eq_true (by simp; omega)
    have hwid : (t.1.getD c.length []).length = wid t c := rfl
    rw [m27_eq g, m28_eq g hv, cloneM_eq (by omega)]
    simp only [Option.bind_some, l2, asrtT, idx_nat, g.issue hc', hwid]
    have hloop : l31_3 (m31N n) k (c.length : Int) (wid t c : Int) c (fun y33 y34 y35 y36 y37 =>
          some (((), ()), ((y33, y34, (), (), ()), c, (), y35, y36, y37, ()))) FUEL 0 t (leastL t) (costsL t c) (dueL t c) out =
        some (st31 t c (out ++ catN (fun j => bnd t k r (c ++ [(j : Int)])) (wid t c))) := by
      have hw := wid_bd g (c := c) (by omega)
      have h00 : out = out ++ catN (fun j => bnd t k r (c ++ [(j : Int)])) 0 := by simp [catN]
      refine Eq.trans (congrArg (fun o => l31_3 (m31N n) k (c.length : Int) (wid t c : Int) c (fun y33 y34 y35 y36 y37 =>
          some (((), ()), ((y33, y34, (), (), ()), c, (), y35, y36, y37, ()))) FUEL 0 t (leastL t) (costsL t c) (dueL t c) o) h00) ?_
      exact seq_loop (R := F31o.ty) (S := List T42) (wid t c) (fun j => out ++ catN (fun j => bnd t k r (c ++ [(j : Int)])) j)
        (fun m j x => l31_3 (m31N n) k (c.length : Int) (wid t c : Int) c (fun y33 y34 y35 y36 y37 =>
          some (((), ()), ((y33, y34, (), (), ()), c, (), y35, y36, y37, ()))) m j t (leastL t) (costsL t c) (dueL t c) x) (fun x => some (st31 t c x)) (by omega)
        (by
          intro m j hj
          have b1 := bnd_at g k hc hj
          have l3 : decide (List.length (α := Int) c + 1 ≤ LIM) = true := decide_eq_true (by omega)
          have l4 : decide ((List.length (out ++ catN (fun j => bnd t k r (c ++ [(j : Int)])) j) : Int) > 100000) = false := decide_eq_false (by rw [List.length_append]; omega)
          have hi := ih n (c ++ [(j : Int)]) (out ++ catN (fun j => bnd t k r (c ++ [(j : Int)])) j) (by omega) (vC_app hv (by omega) hj) (by simp; omega) (by rw [List.length_append]; omega)
          have ho : (t.1.getD c.length [])[j]? = some (optAt t c.length (j : Int)) := get_of_lt hj _
          have hcat : out ++ catN (fun j => bnd t k r (c ++ [(j : Int)])) (j + 1) = (out ++ catN (fun j => bnd t k r (c ++ [(j : Int)])) j) ++ bnd t k r (c ++ [(j : Int)]) := by simp only [catN, List.append_assoc]
          simp only [l31_3, s31_3, lt1 hj, cond_true, cond_false, l3, l4, asrtT, idx_nat, g.issue hc', Option.bind_some, ho, wr1 (j := j) (by omega)]
          rw [up31 g hv hc' hj, hcat]
          cases hd : decide ((optAt t c.length (j : Int)).2.1 ≥ 0) with
          | true =>
            obtain ⟨u1, u2, u3⟩ := due_up g hv hc' hj hd
            obtain ⟨ua, ub⟩ := Bool.and_eq_true_iff.1 u1
            obtain ⟨d1, d2, d3⟩ := due_down g hv hc' hj hd
            obtain ⟨da, db⟩ := Bool.and_eq_true_iff.1 d1
            simp only [cond_true, ua, ub, Bool.and_self, asrtT, u2, Option.bind_some, u3, hi]
            simp only [st31, idx_nat, g.issue hc', Option.bind_some, ho, decide_true, asrtT]
            rw [dn31 g hv hc' hj]
            simp only [hd, cond_true, da, db, Bool.and_self, asrtT, d2, Option.bind_some, d3]
            exact (asrt_go db).trans ((asrt_go db).trans rfl)
          | false =>
            have u := due_same hd
            simp only [cond_false]
            rw [← u, hi]
            simp only [st31, idx_nat, g.issue hc', Option.bind_some, ho, decide_true, asrtT]
            rw [dn31 g hv hc' hj]
            simp only [hd, cond_false, u])
        (by
          intro m
          simp only [l31_3, s31_3, lt0, cond_false]
          rfl)
    rcases over_cases t c with ho | ho
    · rw [ho]
      have : decide ((-1 : Int) ≥ 0) = false := rfl
      simp only [this, cond_false]
      cases decide (floorC t c ≥ k) with
      | true => rfl
      | false => exact hloop
    · rw [decide_eq_true (p := overC t c ≥ 0) ho]
      rfl

def st33 (out : List T42) : F33o.ty := (((), ()), ((), out, ()))

theorem m33N_eq {t : T24} (g : Good t) {k : Int} : ∀ r n (c : List Int) (out : List T42), r < n → vC t c → c.length + r = t.1.length → out.length + nd r ≤ 100000 →
    m33N n t c k out = some (st33 (out ++ bnd t k r c)) := by
  intro r
  induction r with
  | zero =>
    intro n c out hn hv hc h1
    obtain ⟨n, rfl⟩ : ∃ a, n = a + 1 := ⟨n - 1, by omega⟩
    have := g.n1
    have := g.n2
    have := lim_eq
    simp only [nd] at h1
    show M33 (m33N n) t c k out = _
    unfold M33 bnd
    have l1 : ((List.length c : Int) == (List.length t.1 : Int)) = true := by simp; omega
    have l2 : ∀ x : T42, decide (List.length (α := T42) out + List.length (α := T42) [x] ≤ LIM) = true := fun x => decide_eq_true (by simp; omega)
    have l3 : decide (List.length (α := Int) c ≤ LIM) = true := decide_eq_true (by omega)
    rw [m35_eq g hv, m22_eq g hv]
    simp only [Option.bind_some, l1, l2, l3, asrtT, Bool.or_true, cond_true]
    rcases over_cases t c with ho | ho
    · rw [ho]
      rfl
    · have e1 : (overC t c != -1) = true := by simp; omega
      rw [e1, decide_eq_true (p := overC t c ≥ 0) ho]
      rfl
  | succ r ih =>
    intro n c out hn hv hc h1
    obtain ⟨n, rfl⟩ : ∃ a, n = a + 1 := ⟨n - 1, by omega⟩
    have := g.n1
    have := g.n2
    have := lim_eq
    simp only [nd] at h1
    have hp := nd_pos r
    have hc' : c.length < t.1.length := by omega
    show M33 (m33N n) t c k out = _
    unfold M33 bnd
    have l1 : ((List.length c : Int) == (List.length t.1 : Int)) = false := by simp; omega
    have l2 : ∀ x : T42, decide (List.length (α := T42) out + List.length (α := T42) [x] ≤ LIM) = true := fun x => decide_eq_true (by simp; omega)
    have l3 : decide (List.length (α := Int) c ≤ LIM) = true := decide_eq_true (by omega)
    have hwid : (t.1.getD c.length []).length = wid t c := rfl
    rw [m35_eq g hv, m22_eq g hv]
    simp only [Option.bind_some, l1, l2, l3, asrtT, Bool.or_false]
    have hloop : l33_1 (m33N n) c k t (fun y0 => some (((), ()), ((), y0, ()))) FUEL 0 out =
        some (st33 (out ++ catN (fun j => bnd t k r (c ++ [(j : Int)])) (wid t c))) := by
      have hw := wid_bd g (c := c) (by omega)
      have h00 : out = out ++ catN (fun j => bnd t k r (c ++ [(j : Int)])) 0 := by simp [catN]
      refine Eq.trans (congrArg (fun o => l33_1 (m33N n) c k t (fun y0 => some (((), ()), ((), y0, ()))) FUEL 0 o) h00) ?_
      exact seq_loop (R := F33o.ty) (S := List T42) (wid t c) (fun j => out ++ catN (fun j => bnd t k r (c ++ [(j : Int)])) j)
        (fun m j x => l33_1 (m33N n) c k t (fun y0 => some (((), ()), ((), y0, ()))) m j x) (fun x => some (st33 x)) (by omega)
        (by
          intro m j hj
          have b1 := bnd_at g k hc hj
          have l4 : decide ((List.length (out ++ catN (fun j => bnd t k r (c ++ [(j : Int)])) j) : Int) ≤ 100000) = true := decide_eq_true (by rw [List.length_append]; omega)
          have l5 : decide (List.length (α := Int) c + List.length (α := Int) [(j : Int)] ≤ LIM) = true := decide_eq_true (by simp; omega)
          have hi := ih n (c ++ [(j : Int)]) (out ++ catN (fun j => bnd t k r (c ++ [(j : Int)])) j) (by omega) (vC_app hv (by omega) hj) (by simp; omega) (by rw [List.length_append]; omega)
          have hcat : out ++ catN (fun j => bnd t k r (c ++ [(j : Int)])) (j + 1) = (out ++ catN (fun j => bnd t k r (c ++ [(j : Int)])) j) ++ bnd t k r (c ++ [(j : Int)]) := by simp only [catN, List.append_assoc]
          simp only [l33_1, s33_1, hwid, lt1 hj, cond_true, l3, l4, l5, Bool.and_self, asrtT, idx_nat, g.issue hc', Option.bind_some, wr1 (j := j) (by omega), hi]
          rw [hcat]
          rfl)
        (by
          intro m
          simp only [l33_1, s33_1, hwid, idx_nat, g.issue hc', Option.bind_some, lt0, cond_false, Bool.false_and]
          rfl)
    rcases over_cases t c with ho | ho
    · rw [ho]
      have : decide ((-1 : Int) ≥ 0) = false := rfl
      simp only [this, cond_false, bne_self_eq_false]
      cases decide (floorC t c ≥ k) with
      | true => rfl
      | false => exact hloop
    · have e1 : (overC t c != -1) = true := by simp; omega
      rw [e1, decide_eq_true (p := overC t c ≥ 0) ho]
      rfl

/-! ### Plan: what covers a choice, as it is computed. -/
def foldO {S : Type} (f : Nat → S → Option S) : Nat → S → Option S
  | 0, s => some s
  | n + 1, s => (foldO f n s).bind (f n)
def hitB (t : T24) (k : Int) (c : List Int) (b : T42) : Bool :=
  bif b.2.2.1 == -1 then decide (b.2.1 ≤ floorC t c) && decide (b.2.1 ≥ k)
  else inB 0 ((t.2.1.length : Int) - 1) b.2.2.1 && decide (dueS t c b.2.2.1 > t.2.1.getD b.2.2.1.toNat 0)
def cov1 (t : T24) (k : Int) (c : List Int) (next : List T42 → Option (List T42)) : List T42 → Option (List T42)
  | [] => none
  | b :: p => bif decide (b.1 = c) then (bif hitB t k c b then some p else none) else next (b :: p)
def covC (t : T24) (k : Int) : Nat → List Int → List T42 → Option (List T42)
  | 0, c => cov1 t k c fun _ => none
  | r + 1, c => cov1 t k c fun p => foldO (fun j => covC t k r (c ++ [(j : Int)])) (wid t c) p

/-- A loop that may end early, with a state. -/
theorem opt_loop {R S : Type} (n : Nat) (s0 : S) (F : Nat → S → Option S) (f : Nat → Int → S → Option R) (k : S → Option R) (k2 : Option R) (hn : n ≤ 1000000)
    (hs : ∀ m j s, j < n → foldO F j s0 = some s → f (m + 1) (j : Int) s = (match F j s with | some s' => f m ((j : Int) + 1) s' | none => k2))
    (he : ∀ m s, foldO F n s0 = some s → f (m + 1) (n : Int) s = k s) :
    f FUEL 0 s0 = (match foldO F n s0 with | some s => k s | none => k2) := by
  have stop : ∀ i j, foldO F j s0 = none → foldO F (j + i) s0 = none := by
    intro i
    induction i with
    | zero => intro j h; exact h
    | succ i ih => intro j h; show (foldO F (j + i) s0).bind _ = none; rw [ih j h]; rfl
  have key : ∀ (i m j : Nat) (s : S), j + i = n → i < m → foldO F j s0 = some s → f m (j : Int) s = (match foldO F n s0 with | some s => k s | none => k2) := by
    intro i
    induction i with
    | zero =>
      intro m j s hj hm hf
      obtain ⟨m, rfl⟩ : ∃ a, m = a + 1 := ⟨m - 1, by omega⟩
      have : j = n := by omega
      subst this
      rw [he m s hf, hf]
    | succ i ih =>
      intro m j s hj hm hf
      obtain ⟨m, rfl⟩ : ∃ a, m = a + 1 := ⟨m - 1, by omega⟩
      rw [hs m j s (by omega) hf]
      have h1 : foldO F (j + 1) s0 = F j s := by show (foldO F j s0).bind (F j) = _; rw [hf]; rfl
      cases hF : F j s with
      | some s' => exact ih m (j + 1) s' (by omega) (by omega) (h1.trans hF)
      | none =>
        have := stop i (j + 1) (h1.trans hF)
        rw [show j + 1 + i = n by omega] at this
        rw [this]
  exact key n FUEL 0 s0 (by omega) (fuel_lt (by omega)) rfl

/-- What is left is an end of what there was. -/
theorem foldO_suf {f : Nat → List T42 → Option (List T42)} (h : ∀ j p q, f j p = some q → q <:+ p) : ∀ n p q, foldO f n p = some q → q <:+ p
  | 0, p, q, e => by simp only [foldO, Option.some.injEq] at e; subst e; exact List.suffix_refl _
  | n + 1, p, q, e => by
    simp only [foldO] at e
    cases h1 : foldO f n p with
    | none => rw [h1] at e; cases e
    | some x =>
      rw [h1] at e
      exact (h n x q e).trans (foldO_suf h n p x h1)
theorem cov1_suf {t : T24} {k : Int} {c : List Int} {next : List T42 → Option (List T42)} (h : ∀ p q, next p = some q → q <:+ p) {p q : List T42} (e : cov1 t k c next p = some q) : q <:+ p := by
  cases p with
  | nil => cases e
  | cons b p =>
    simp only [cov1] at e
    cases h1 : decide (b.1 = c) with
    | true =>
      rw [h1] at e
      cases h2 : hitB t k c b with
      | true => rw [h2] at e; simp only [cond_true, Option.some.injEq] at e; subst e; exact List.suffix_cons _ _
      | false => rw [h2] at e; cases e
    | false => rw [h1] at e; exact h _ _ e
theorem cov_suf (t : T24) (k : Int) : ∀ r c p q, covC t k r c p = some q → q <:+ p
  | 0, c, p, q, e => cov1_suf (fun _ _ e => by cases e) e
  | r + 1, c, p, q, e => cov1_suf (fun p q e => foldO_suf (fun j p q e => cov_suf t k r _ p q e) _ p q e) e

def st44 (t : T24) (c : List Int) (r : List T42) (b : Bool) : F44o.ty := (((r, b, ()), ()), ((t, leastL t, (), (), ()), costsL t c, dueL t c, ()))

/-- What m44 returns: what is left, if it is covered. -/
def cov44 (t : T24) (c : List Int) (x : Option F44o.ty) (o : Option (List T42)) : Prop :=
  match o with
  | some r => x = some (st44 t c r true)
  | none => ∃ r, x = some (st44 t c r false)

theorem head44 {t : T24} (g : Good t) {k : Int} (mr : (List Int) → Int → (List T42) → T24 → (List (List Int)) → (List Int) → (List Int) → Option F44o.ty) {c : List Int} (hv : vC t c) (next : List T42 → Option (List T42)) (p : List T42)
    (hp : p.length ≤ 1000000) (hc : ∀ b ∈ p, b.1.length ≤ 1000000)
    (hn : p ≠ [] → cov44 t c (bif ((List.length c : Int) == (List.length t.1 : Int)) then some (st44 t c [] false) else (idx t.1 (List.length c : Int)).bind fun x7 =>
        l44_3 mr c k (List.length c : Int) (List.length x7 : Int) (fun y37 y38 y39 y40 y41 =>
            some (((y37, true, ()), ()), ((y38, y39, (), (), ()), y40, y41, ()))) (fun y42 y43 y44 y45 =>
            some ((([], false, ()), ()), ((y42, y43, (), (), ()), y44, y45, ()))) FUEL p 0 t (leastL t) (costsL t c) (dueL t c)) (next p)) :
    cov44 t c (M44 mr c k p t (leastL t) (costsL t c) (dueL t c)) (cov1 t k c next p) := by
  have := g.y
  unfold M44
  cases p with
  | nil => exact ⟨[], rfl⟩
  | cons b p =>
    have e1 : ((List.length (b :: p) : Int) == 0) = false := by simp; omega
    have e2 : idx (b :: p) 0 = some b := by simp [idx]
    have hb := hc b (by simp)
    rw [e1, e2]
    simp only [cond_false, Option.bind_some, m51_eq b.1 c hb, cov1]
    cases h1 : decide (b.1 = c) with
    | false => exact hn (by simp)
    | true =>
      simp only [cond_true]
      have e3 : bounds true (List.length (b :: p)) 1 (List.length (b :: p) : Int) = true := by simp [bounds]; omega
      have e4 : subl (b :: p) 1 (List.length (b :: p) : Int) = p := by simp [subl]
      have e5 : (List.length (dueL t c) : Int) = (t.2.1.length : Int) := by rw [dueL, mapR_len]
      unfold hitB
      rw [e3, e4, e5, m28_eq g hv]
      cases h2 : (b.2.2.1 == -1) with
      | true =>
        simp only [cond_true, asrtT, Option.bind_some]
        cases (decide (b.2.1 ≤ floorC t c) && decide (b.2.1 ≥ k)) with
        | true => rfl
        | false => exact ⟨p, rfl⟩
      | false =>
        have w : IntKind.i64.wrap ((t.2.1.length : Int) - 1) = (t.2.1.length : Int) - 1 := wrapI (by omega) (by omega)
        have e6 : ∀ x, List.all [x] (inB 0 ((t.2.1.length : Int) - 1)) = inB 0 ((t.2.1.length : Int) - 1) x := fun x => by simp
        rw [w, m34_eq _ _ _ (by simp)]
        simp only [cond_false, asrtT, Option.bind_some, e6]
        cases h3 : inB 0 ((t.2.1.length : Int) - 1) b.2.2.1 with
        | false => exact ⟨p, rfl⟩
        | true =>
          simp only [inB, Bool.and_eq_true, decide_eq_true_eq] at h3
          obtain ⟨y, hy⟩ := Int.eq_ofNat_of_zero_le h3.1
          have hy2 : y < t.2.1.length := by omega
          rw [hy]
          have e7 : (decide (0 ≤ (y : Int)) && decide ((y : Int) < (t.2.1.length : Int))) = true := rng hy2
          simp only [beq_self_eq_true, e7, asrtT, cond_true, Int.toNat_natCast, dueL, mapR_get hy2, Option.bind_some, idxG_same true 0 (get_of_lt hy2 0), Bool.true_and]
          cases decide (dueS t c (y : Int) > t.2.1.getD y 0) with
          | true => rfl
          | false => exact ⟨p, rfl⟩

theorem m44N_eq {t : T24} (g : Good t) {k : Int} : ∀ r n (c : List Int) (p : List T42), r < n → vC t c → c.length + r = t.1.length → p.length ≤ 1000000 → (∀ b ∈ p, b.1.length ≤ 1000000) →
    cov44 t c (m44N n c k p t (leastL t) (costsL t c) (dueL t c)) (covC t k r c p) := by
  intro r
  induction r with
  | zero =>
    intro n c p hn hv hc h1 h2
    obtain ⟨n, rfl⟩ : ∃ a, n = a + 1 := ⟨n - 1, by omega⟩
    refine head44 g (m44N n) hv _ p h1 h2 (fun _ => ?_)
    have l1 : ((List.length c : Int) == (List.length t.1 : Int)) = true := by simp; omega
    rw [l1]
    exact ⟨[], rfl⟩
  | succ r ih =>
    intro n c p hn hv hc h1 h2
    obtain ⟨n, rfl⟩ : ∃ a, n = a + 1 := ⟨n - 1, by omega⟩
    have := g.n1
    have := g.n2
    have := lim_eq
    have hc' : c.length < t.1.length := by omega
    refine head44 g (m44N n) hv _ p h1 h2 (fun _ => ?_)
    have l1 : ((List.length c : Int) == (List.length t.1 : Int)) = false := by simp; omega
    have hwid : (t.1.getD c.length []).length = wid t c := rfl
    rw [l1]
    simp only [cond_false, idx_nat, g.issue hc', Option.bind_some, hwid]
    have hw := wid_bd g (c := c) (by omega)
    have hloop := opt_loop (R := F44o.ty) (S := List T42) (wid t c) p (fun j => covC t k r (c ++ [(j : Int)]))
      (fun m j x => l44_3 (m44N n) c k (c.length : Int) (wid t c : Int) (fun y37 y38 y39 y40 y41 =>
            some (((y37, true, ()), ()), ((y38, y39, (), (), ()), y40, y41, ()))) (fun y42 y43 y44 y45 =>
            some ((([], false, ()), ()), ((y42, y43, (), (), ()), y44, y45, ()))) m x j t (leastL t) (costsL t c) (dueL t c)) (fun x => some (st44 t c x true)) (some (st44 t c [] false)) (by omega)
      (by
        intro m j s hj hf
        have hsuf := foldO_suf (fun j p q e => cov_suf t k r _ p q e) _ p s hf
        have l3 : decide (List.length (α := Int) c + List.length (α := Int) [(j : Int)] ≤ LIM) = true := decide_eq_true (by simp; omega)
        have hi := ih n (c ++ [(j : Int)]) s (by omega) (vC_app hv (by omega) hj) (by simp; omega) (by have := hsuf.length_le; omega) (fun b hb => h2 b (hsuf.subset hb))
        have ho : (t.1.getD c.length [])[j]? = some (optAt t c.length (j : Int)) := get_of_lt hj _
        have hcl : cloneM c = some c := cloneM_eq (by omega)
        simp only [l44_3, s44_3, lt1 hj, cond_true, cond_false, idx_nat, g.issue hc', Option.bind_some, ho, wr1 (j := j) (by omega)]
        rw [up44 g hv hc' hj, hcl]
        have fin : ∀ (x : Option F44o.ty) (hx : cov44 t (c ++ [(j : Int)]) x (covC t k r (c ++ [(j : Int)]) s)), ∃ q b, x = some (st44 t (c ++ [(j : Int)]) q b) ∧ covC t k r (c ++ [(j : Int)]) s = (bif b then some q else none) := by
          intro x hx
          unfold cov44 at hx
          cases h : covC t k r (c ++ [(j : Int)]) s with
          | some q => rw [h] at hx; exact ⟨q, true, hx, rfl⟩
          | none => rw [h] at hx; obtain ⟨q, hq⟩ := hx; exact ⟨q, false, hq, rfl⟩
        obtain ⟨q, b, e1, e2⟩ := fin _ hi
        rw [e2]
        cases hd : decide ((optAt t c.length (j : Int)).2.1 ≥ 0) with
        | true =>
          obtain ⟨u1, u2, u3⟩ := due_up g hv hc' hj hd
          obtain ⟨ua, ub⟩ := Bool.and_eq_true_iff.1 u1
          obtain ⟨d1, d2, d3⟩ := due_down g hv hc' hj hd
          obtain ⟨da, db⟩ := Bool.and_eq_true_iff.1 d1
          simp only [cond_true, ua, ub, Bool.and_self, asrtT, u2, Option.bind_some, u3, l3, e1]
          simp only [st44, idx_nat, g.issue hc', Option.bind_some, ho, decide_true, asrtT]
          rw [dn44 g hv hc' hj]
          simp only [hd, cond_true, da, db, Bool.and_self, asrtT, d2, Option.bind_some, d3]
          exact (asrt_go db).trans ((asrt_go db).trans (by cases b <;> rfl))
        | false =>
          have u := due_same hd
          simp only [cond_false, Option.bind_some, l3, asrtT]
          rw [← u, e1]
          simp only [st44, idx_nat, g.issue hc', Option.bind_some, ho, decide_true, asrtT]
          rw [dn44 g hv hc' hj]
          simp only [hd, cond_false, u]
          cases b <;> rfl)
      (by
        intro m s _
        simp only [l44_3, s44_3, lt0, cond_false]
        rfl)
    refine hloop.symm ▸ ?_
    unfold cov44
    cases foldO (fun j => covC t k r (c ++ [(j : Int)])) (wid t c) p with
    | some q => rfl
    | none => exact ⟨[], rfl⟩

/-! ### Plan: what covers a choice, as the reference computes it. -/
/-- The sum of what falls due in a year. -/
theorem due_loop {R : Type} {t : T24} (g : Good t) {c : List Int} (hv : vC t c) (y : Int) (f : Nat → Int → Int → Option R) (k1 : Int → Option R)
    (hf : ∀ m q i, f (m + 1) q i = bif (decide (i < (List.length c : Int))) then
      cont (fun (k11 : Int → Option R) =>
        (idx t.1 i).bind fun x5 =>
        (idx c i).bind fun x6 =>
        (idx x5 x6).bind fun x7 =>
        bif (x7.2.1 == y) then
          (idx t.1 i).bind fun x8 =>
          (idx c i).bind fun x9 =>
          (idx x8 x9).bind fun x10 =>
          k11 (IntKind.i64.wrap (q + x10.2.2.1))
        else
          k11 q) (fun y11 => f m y11 (IntKind.i64.wrap (i + 1)))
      else k1 q) :
    f FUEL 0 0 = k1 (dueS t c y) := by
  have := g.n2
  have := hv.1
  exact seq_loop (R := R) (S := Int) c.length (fun j => sumN (partD t c y) j) (fun m j q => f m q j) k1 (by omega)
    (by
      intro n i hi
      have hk : c[i]? = some (c.getD i 0) := get_of_lt hi 0
      obtain ⟨k0, k1⟩ := hv.2 i _ hk
      have hi' : i < t.1.length := by omega
      obtain ⟨o1, o2, o3, _⟩ := g.at' hi' k1
      have hb := dueS_bd g hv y i (by omega)
      have hp := dueP_bd g hv y i
      have hpd : partD t c y i = bif (optAt t i (c.getD i 0)).2.1 == y then (optAt t i (c.getD i 0)).2.2.1 else 0 := by unfold partD; rw [hk]
      simp only [hf, lt1 hi, cond_true, wr1 (j := i) (by omega)]
      refine (cont_eq (sumN (partD t c y) (i + 1)) fun k => ?_).trans rfl
      simp only [sumN]
      generalize sumN (partD t c y) i = A at hb ⊢
      simp only [idx_nat, g.issue hi', hk, Option.bind_some, idx_pos k0, o1]
      rw [hpd] at hp ⊢
      cases hq : ((optAt t i (c.getD i 0)).2.1 == y) with
      | false => simp only [cond_false, Int.add_zero]
      | true =>
        rw [hq] at hp
        simp only [cond_true] at hp ⊢
        rw [wrapI (by omega) (by omega)])
    (by intro n; simp only [hf, lt0, cond_false])

def num (p : List T42) (o : Option (List T42)) : Int := match o with
  | some q => (p.length : Int) - q.length
  | none => -1

theorem head45 {t : T24} (g : Good t) {k : Int} {l : List T42} (hl : l.length ≤ 1000000) (hc : ∀ b ∈ l, b.1.length ≤ 1000000) (mr : T24 → (List Int) → Int → (List T42) → Int → Option F45o.ty) {c : List Int} (hv : vC t c) (next : List T42 → Option (List T42)) {a : Nat} (ha : a ≤ l.length)
    (hn : a < l.length → (bif ((List.length c : Int) == (List.length t.1 : Int)) then some (((-1), ()), (())) else
        l45_2 mr c k l (a : Int) t (fun y16 => some ((y16, ()), (()))) (some (((-1), ()), (()))) FUEL 0 0) = some ((num (l.drop a) (next (l.drop a)), ()), ())) :
    M45 mr t c k l (a : Int) = some ((num (l.drop a) (cov1 t k c next (l.drop a)), ()), ()) := by
  have := g.y
  unfold M45
  by_cases hlt : a < l.length
  · have e0 : decide ((a : Int) ≥ (List.length l : Int)) = false := decide_eq_false (by omega)
    have e1 : l[a]? = some l[a] := List.getElem?_eq_getElem hlt
    have hd : l.drop a = l[a] :: l.drop (a + 1) := List.drop_eq_getElem_cons hlt
    have hb := hc l[a] (List.getElem_mem hlt)
    have hn' := hn hlt
    rw [hd] at hn' ⊢
    generalize l[a] = b at *
    generalize l.drop (a + 1) = p at *
    simp only [e0, cond_false, idx_nat, e1, Option.bind_some, m14_eq b.1 c hb, cov1]
    have hone : num (b :: p) (some p) = 1 := by simp only [num, List.length_cons]; omega
    cases h1 : decide (b.1 = c) with
    | false => exact hn'
    | true =>
      simp only [cond_true]
      unfold hitB
      rw [m22_eq g hv]
      cases h2 : (b.2.2.1 == -1) with
      | true =>
        simp only [cond_true, Option.bind_some]
        cases (decide (b.2.1 ≤ floorC t c) && decide (b.2.1 ≥ k)) with
        | true => simp only [cond_true, hone]; rfl
        | false => rfl
      | false =>
        simp only [cond_false]
        cases h3 : inB 0 ((t.2.1.length : Int) - 1) b.2.2.1 with
        | false =>
          have e3 : (decide (b.2.2.1 < 0) || decide (b.2.2.1 ≥ (t.2.1.length : Int))) = true := by
            simp only [inB, Bool.and_eq_false_iff, decide_eq_false_iff_not] at h3
            simp only [Bool.or_eq_true, decide_eq_true_eq]
            omega
          rw [e3]
          rfl
        | true =>
          simp only [inB, Bool.and_eq_true, decide_eq_true_eq] at h3
          obtain ⟨y, hy⟩ := Int.eq_ofNat_of_zero_le h3.1
          have hy2 : y < t.2.1.length := by omega
          have e3 : (decide (b.2.2.1 < 0) || decide (b.2.2.1 ≥ (t.2.1.length : Int))) = false := by
            simp only [Bool.or_eq_false_iff, decide_eq_false_iff_not]
            omega
          rw [e3]
          simp only [cond_false]
          refine Eq.trans (due_loop (R := F45o.ty) g hv b.2.2.1 (fun m q i => l45_1 mr c t b (fun y12 =>
              (idx t.2.1 b.2.2.1).bind fun x13 =>
              bif (decide (y12 > x13)) then
                some ((1, ()), (()))
              else
                some (((-1), ()), (()))) m q i) (fun y12 =>
              (idx t.2.1 b.2.2.1).bind fun x13 =>
              bif (decide (y12 > x13)) then
                some ((1, ()), (()))
              else
                some (((-1), ()), (()))) (fun m q i => rfl)) ?_
          rw [hy]
          simp only [idx_nat, get_of_lt hy2 0, Option.bind_some, Int.toNat_natCast, Bool.true_and]
          cases decide (dueS t c (y : Int) > t.2.1.getD y 0) with
          | true => simp only [cond_true, hone]; rfl
          | false => rfl
  · have e0 : decide ((a : Int) ≥ (List.length l : Int)) = true := decide_eq_true (by omega)
    have : l.drop a = [] := List.drop_eq_nil_of_le (by omega)
    rw [e0, this]
    rfl

theorem m45N_eq {t : T24} (g : Good t) {k : Int} {l : List T42} (hl : l.length ≤ 1000000) (hc : ∀ b ∈ l, b.1.length ≤ 1000000) : ∀ r n (c : List Int) (a : Nat), r < n → vC t c → c.length + r = t.1.length → a ≤ l.length →
    m45N n t c k l (a : Int) = some ((num (l.drop a) (covC t k r c (l.drop a)), ()), ()) := by
  intro r
  induction r with
  | zero =>
    intro n c a hn hv h0 h1
    obtain ⟨n, rfl⟩ : ∃ a, n = a + 1 := ⟨n - 1, by omega⟩
    show M45 (m45N n) t c k l (a : Int) = _
    have l1 : ((List.length c : Int) == (List.length t.1 : Int)) = true := by simp; omega
    exact head45 g hl hc (m45N n) hv (fun _ => none) h1 (fun _ => by rw [l1]; rfl)
  | succ r ih =>
    intro n c a hn hv h0 h1
    obtain ⟨n, rfl⟩ : ∃ a, n = a + 1 := ⟨n - 1, by omega⟩
    have := g.n1
    have := g.n2
    have := lim_eq
    have hc' : c.length < t.1.length := by omega
    show M45 (m45N n) t c k l (a : Int) = _
    have l1 : ((List.length c : Int) == (List.length t.1 : Int)) = false := by simp; omega
    have hwid : (t.1.getD c.length []).length = wid t c := rfl
    refine head45 g hl hc (m45N n) hv _ h1 (fun _ => ?_)
    rw [l1]
    have hw := wid_bd g (c := c) (by omega)
    have h00 : num (l.drop a) (some (l.drop a)) = 0 := by simp [num]
    have hloop := opt_loop (R := F45o.ty) (S := List T42) (wid t c) (l.drop a) (fun j => covC t k r (c ++ [(j : Int)]))
      (fun m j x => l45_2 (m45N n) c k l (a : Int) t (fun y16 => some ((y16, ()), (()))) (some (((-1), ()), (()))) m (num (l.drop a) (some x)) j) (fun x => some ((num (l.drop a) (some x), ()), ())) (some (((-1), ()), ())) (by omega)
      (by
        intro m j s hj hf
        have hsuf := foldO_suf (fun j p q e => cov_suf t k r _ p q e) _ _ s hf
        have hlen := hsuf.length_le
        have hd : s = l.drop (l.length - s.length) := by
          have h2 : s <:+ l := hsuf.trans (List.drop_suffix _ _)
          exact (List.suffix_iff_eq_drop.1 h2)
        rw [List.length_drop] at hlen
        have l2 : decide (List.length (α := Int) c ≤ LIM) = true := decide_eq_true (by omega)
        have l3 : decide (List.length (α := Int) c + List.length (α := Int) [(j : Int)] ≤ LIM) = true := decide_eq_true (by simp; omega)
        have hi := ih n (c ++ [(j : Int)]) (l.length - s.length) (by omega) (vC_app hv (by omega) hj) (by simp; omega) (by omega)
        rw [← hd] at hi
        have w : IntKind.i64.wrap ((a : Int) + num (l.drop a) (some s)) = ((l.length - s.length : Nat) : Int) := by
          have : (a : Int) + num (l.drop a) (some s) = ((l.length - s.length : Nat) : Int) := by simp only [num, List.length_drop]; omega
          rw [this]; exact wrapI (by omega) (by omega)
        simp only [l45_2, s45_2, idx_nat, g.issue hc', Option.bind_some, hwid, lt1 hj, cond_true, l2, l3, asrtT, w, hi, wr1 (j := j) (by omega)]
        cases h : covC t k r (c ++ [(j : Int)]) s with
        | none => rfl
        | some q =>
          have hq := (cov_suf t k r _ _ _ h).length_le
          have e1 : decide (num s (some q) < 0) = false := decide_eq_false (by simp only [num]; omega)
          have e2 : IntKind.i64.wrap (num (l.drop a) (some s) + num s (some q)) = num (l.drop a) (some q) := by
            have : num (l.drop a) (some s) + num s (some q) = num (l.drop a) (some q) := by simp only [num]; omega
            rw [this]; exact wrapI (by simp only [num, List.length_drop]; omega) (by simp only [num, List.length_drop]; omega)
          show (bif decide (num s (some q) < 0) then _ else l45_2 (m45N n) c k l (a : Int) t (fun y16 => some ((y16, ()), (()))) (some (((-1), ()), (()))) m (IntKind.i64.wrap (num (l.drop a) (some s) + num s (some q))) ((j : Int) + 1)) = _
          rw [e1, e2]
          rfl)
      (by
        intro m s _
        simp only [l45_2, s45_2, idx_nat, g.issue hc', Option.bind_some, hwid, lt0, cond_false])
    simp only [h00] at hloop
    simp only [cond_false]
    refine hloop.trans ?_
    cases foldO (fun j => covC t k r (c ++ [(j : Int)])) (wid t c) (l.drop a) with
    | some q => rfl
    | none => rfl

end Go.Proofs.Ytemammdmjpdmpaa
