/- Part of a proof. -/
import Derived.Test.YtapalendgokfoaaA1
namespace Go.Proofs.Ytapalendgokfoaa
open Go Go.Eng
set_option linter.unusedVariables false

theorem wrapI {x : Int} (h1 : -9223372036854775808 ≤ x) (h2 : x ≤ 9223372036854775807) : IntKind.i64.wrap x = x := by
  rw [IntKind.wrap_i64]; omega

abbrev Purse := T22

def Rt (t o : Int) : Prop := 0 ≤ t ∧ t ≤ 1000000000000000 ∧ 0 ≤ o ∧ o ≤ 1000000000000000
instance (t o : Int) : Decidable (Rt t o) := by unfold Rt; infer_instance

def Am (n : Int) : Prop := 1 ≤ n ∧ n ≤ 1000000000000000
instance (n : Int) : Decidable (Am n) := by unfold Am; infer_instance

theorem m20_eq (t o : Int) (g : Bool) : m20 (t, o, g, ()) = some (decide (Rt t o)) := by
  simp only [m20, m26, Option.bind_some, Rt]
  by_cases h1 : 0 ≤ t <;> by_cases h2 : t ≤ 1000000000000000 <;> by_cases h3 : 0 ≤ o <;> by_cases h4 : o ≤ 1000000000000000 <;> simp [h1, h2, h3, h4]

theorem m21_eq (t o : Int) (g : Bool) : m21 (t, o, g, ()) = some (decide (Rt t o)) := by
  simp only [m21, m27, Option.bind_some, Rt]
  by_cases h1 : 0 ≤ t <;> by_cases h2 : t ≤ 1000000000000000 <;> by_cases h3 : 0 ≤ o <;> by_cases h4 : o ≤ 1000000000000000 <;> simp [h1, h2, h3, h4]

theorem am26 (n : Int) : ((n == 0) = true ∨ m26 n = some false ↔ ¬ Am n) := by
  simp only [m26, Am]
  by_cases h1 : 0 ≤ n <;> by_cases h2 : n ≤ 1000000000000000 <;> simp [h1, h2] <;> omega

/-- What changes money: the new sum and the error. -/
def chg (a b : Int) : Int × Int :=
  if a + b > 1000000000000000 then (a, 6) else if a + b < 0 then (a, 22) else (a + b, 0)

def trF (t o : Int) (g : Bool) (n b : Int) : Purse × Int × Unit :=
  if ¬(Rt t o ∧ Am n) then ((t, o, g, ()), 1, ()) else if g = true then ((t, o, g, ()), 7, ()) else (((chg t b).1, o, g, ()), (chg t b).2, ())
def owF (t o : Int) (g : Bool) (n b : Int) : Purse × Int × Unit :=
  if ¬(Rt t o ∧ Am n) then ((t, o, g, ()), 1, ()) else if g = true then ((t, o, g, ()), 7, ()) else ((t, (chg o b).1, g, ()), (chg o b).2, ())

theorem core (t o : Int) (n : Int) {R : Type} (x : R) (y : Option R) : ((some (decide (Rt t o))).bind fun r1 =>
  (bif (((!r1) || (n == 0)) == false) then m26 n else some false).bind fun r2 =>
  bif (((!r1) || (n == 0)) || (!r2)) then some x else y) = if ¬(Rt t o ∧ Am n) then some x else y := by
  simp only [Option.bind_some, m26]
  by_cases hr : Rt t o
  · by_cases hn : Am n
    · have hn' := hn
      obtain ⟨n1, n2⟩ := hn'
      have e1 : (n == 0) = false := beq_eq_false_iff_ne.2 (by omega)
      have e2 : 0 ≤ n := by omega
      simp [hr, hn, e1, e2, n2]
    · have : n = 0 ∨ n < 0 ∨ 1000000000000000 < n := by unfold Am at hn; omega
      rcases this with h | h | h
      · subst h
        simp [hr, hn]
      · have e1 : (n == 0) = false := beq_eq_false_iff_ne.2 (by omega)
        have e2 : ¬ 0 ≤ n := by omega
        simp [hr, hn, e1, e2]
      · have e1 : (n == 0) = false := beq_eq_false_iff_ne.2 (by omega)
        have e2 : ¬ n ≤ 1000000000000000 := by omega
        simp [hr, hn, e1, e2]
  · simp [hr]


theorem am_bounds {n : Int} (h : Am n) : 1 ≤ n ∧ n ≤ 1000000000000000 := h

theorem tail_eq {S : Type} (a b : Int) (f : Int → S) (hw : IntKind.i64.wrap (a + b) = a + b) (p : S) (hp : p = f a) (g : S → Int → Option (T22 × Int × Unit)) :
    (bif decide (IntKind.i64.wrap (a + b) > 1000000000000000) then g p 6 else bif decide (IntKind.i64.wrap (a + b) < 0) then g p 22 else g (f (IntKind.i64.wrap (a + b))) 0) = g (f (chg a b).1) (chg a b).2 := by
  subst hp
  rw [hw]
  unfold chg
  by_cases c1 : a + b > 1000000000000000
  · simp [c1]
  · by_cases c2 : a + b < 0
    · simp [c1, c2]
    · simp [c1, c2]

theorem m8_eq (t o : Int) (g : Bool) (n : Int) : m8 (t, o, g, ()) n = some (trF t o g n n) := by
  unfold m8 trF
  rw [m20_eq, core]
  by_cases h : Rt t o ∧ Am n
  · rw [if_neg (fun k => k h : ¬¬(Rt t o ∧ Am n)), if_neg (fun k => k h : ¬¬(Rt t o ∧ Am n))]
    obtain ⟨⟨h1, h2, h3, h4⟩, h5, h6⟩ := h
    cases g with
    | true => rfl
    | false => exact tail_eq t n (fun x => ((x, o, false, ()) : T22)) (wrapI (by omega) (by omega)) _ rfl (fun p e => some (p, e, ()))
  · rw [if_pos h, if_pos h]

theorem negI {n : Int} (h : Am n) : IntKind.i64.wrap (0 - n) = -n := by
  obtain ⟨h5, h6⟩ := h
  rw [wrapI (by omega) (by omega)]
  omega

theorem m10_eq (t o : Int) (g : Bool) (n : Int) : m10 (t, o, g, ()) n = some (trF t o g n (-n)) := by
  unfold m10 trF
  rw [m20_eq, core]
  by_cases h : Rt t o ∧ Am n
  · rw [if_neg (fun k => k h : ¬¬(Rt t o ∧ Am n)), if_neg (fun k => k h : ¬¬(Rt t o ∧ Am n)), negI h.2]
    obtain ⟨⟨h1, h2, h3, h4⟩, h5, h6⟩ := h
    cases g with
    | true => rfl
    | false => exact tail_eq t (-n) (fun x => ((x, o, false, ()) : T22)) (wrapI (by omega) (by omega)) _ rfl (fun p e => some (p, e, ()))
  · rw [if_pos h, if_pos h]

theorem m12_eq (t o : Int) (g : Bool) (n : Int) : m12 (t, o, g, ()) n = some (owF t o g n n) := by
  unfold m12 owF
  rw [m20_eq, core]
  by_cases h : Rt t o ∧ Am n
  · rw [if_neg (fun k => k h : ¬¬(Rt t o ∧ Am n)), if_neg (fun k => k h : ¬¬(Rt t o ∧ Am n))]
    obtain ⟨⟨h1, h2, h3, h4⟩, h5, h6⟩ := h
    cases g with
    | true => rfl
    | false => exact tail_eq o n (fun x => ((t, x, false, ()) : T22)) (wrapI (by omega) (by omega)) _ rfl (fun p e => some (p, e, ()))
  · rw [if_pos h, if_pos h]

theorem m14_eq (t o : Int) (g : Bool) (n : Int) : m14 (t, o, g, ()) n = some (owF t o g n (-n)) := by
  unfold m14 owF
  rw [m20_eq, core]
  by_cases h : Rt t o ∧ Am n
  · rw [if_neg (fun k => k h : ¬¬(Rt t o ∧ Am n)), if_neg (fun k => k h : ¬¬(Rt t o ∧ Am n)), negI h.2]
    obtain ⟨⟨h1, h2, h3, h4⟩, h5, h6⟩ := h
    cases g with
    | true => rfl
    | false => exact tail_eq o (-n) (fun x => ((t, x, false, ()) : T22)) (wrapI (by omega) (by omega)) _ rfl (fun p e => some (p, e, ()))
  · rw [if_pos h, if_pos h]

/-! the reference -/
theorem m28_eq (t o : Int) (g : Bool) (n : Int) : m28 (t, o, g, ()) n = some (if ¬(Rt t o ∧ Am n) then 1 else if g = true then 7 else 0) := by
  unfold m28
  rw [m21_eq]
  simp only [Option.bind_some, m27]
  by_cases hr : Rt t o
  · by_cases h5 : 1 ≤ n <;> by_cases h6 : n ≤ 1000000000000000 <;> cases g <;> simp [hr, h5, h6, Am]
  · simp [hr]

theorem m29_eq (a b : Int) (hw : IntKind.i64.wrap (a + b) = a + b) : m29 a b = some ((chg a b).1, (chg a b).2, ()) := by
  unfold m29 chg
  rw [hw]
  by_cases c1 : a + b > 1000000000000000
  · simp [c1]
  · by_cases c2 : a + b < 0
    · simp [c1, c2]
    · simp [c1, c2]

theorem m24_eq (t o : Int) (g : Bool) (n b : Int) (hb : Am n → b = n ∨ b = -n) : m24 (t, o, g, ()) n b = some (trF t o g n b) := by
  unfold m24 trF
  rw [m28_eq]
  by_cases h : Rt t o ∧ Am n
  · rw [if_neg (fun k => k h : ¬¬(Rt t o ∧ Am n)), if_neg (fun k => k h : ¬¬(Rt t o ∧ Am n))]
    obtain ⟨⟨h1, h2, h3, h4⟩, h5⟩ := h
    have := hb h5
    obtain ⟨h5, h6⟩ := h5
    cases g with
    | true => rfl
    | false =>
      simp only [Option.bind_some]
      rw [m29_eq t b (wrapI (by omega) (by omega))]
      rfl
  · rw [if_pos h, if_pos h]
    rfl

theorem m25_eq (t o : Int) (g : Bool) (n b : Int) (hb : Am n → b = n ∨ b = -n) : m25 (t, o, g, ()) n b = some (owF t o g n b) := by
  unfold m25 owF
  rw [m28_eq]
  by_cases h : Rt t o ∧ Am n
  · rw [if_neg (fun k => k h : ¬¬(Rt t o ∧ Am n)), if_neg (fun k => k h : ¬¬(Rt t o ∧ Am n))]
    obtain ⟨⟨h1, h2, h3, h4⟩, h5⟩ := h
    have := hb h5
    obtain ⟨h5, h6⟩ := h5
    cases g with
    | true => rfl
    | false =>
      simp only [Option.bind_some]
      rw [m29_eq o b (wrapI (by omega) (by omega))]
      rfl
  · rw [if_pos h, if_pos h]
    rfl

theorem m9_eq (t o : Int) (g : Bool) (n : Int) : m9 (t, o, g, ()) n = some (trF t o g n n) := by
  unfold m9
  rw [m24_eq t o g n n (fun _ => .inl rfl)]
  rfl
theorem m13_eq (t o : Int) (g : Bool) (n : Int) : m13 (t, o, g, ()) n = some (owF t o g n n) := by
  unfold m13
  rw [m25_eq t o g n n (fun _ => .inl rfl)]
  rfl
theorem trF_not {t o : Int} {g : Bool} {n b c : Int} (h : ¬ Am n) : trF t o g n b = trF t o g n c := by
  unfold trF
  rw [if_pos (fun k => h k.2), if_pos (fun k => h k.2)]
theorem owF_not {t o : Int} {g : Bool} {n b c : Int} (h : ¬ Am n) : owF t o g n b = owF t o g n c := by
  unfold owF
  rw [if_pos (fun k => h k.2), if_pos (fun k => h k.2)]
theorem m11_eq (t o : Int) (g : Bool) (n : Int) : m11 (t, o, g, ()) n = some (trF t o g n (-n)) := by
  unfold m11
  rw [m24_eq t o g n _ (fun h => .inr (negI h))]
  by_cases h : Am n
  · rw [negI h]; rfl
  · rw [trF_not h (c := -n)]; rfl
theorem m15_eq (t o : Int) (g : Bool) (n : Int) : m15 (t, o, g, ()) n = some (owF t o g n (-n)) := by
  unfold m15
  rw [m25_eq t o g n _ (fun h => .inr (negI h))]
  by_cases h : Am n
  · rw [negI h]; rfl
  · rw [owF_not h (c := -n)]; rfl

theorem m16_17 (p q : T22) (n : Int) : m16 p q n = m17 p q n := by
  obtain ⟨t, o, g, u⟩ := p
  obtain ⟨t2, o2, g2, u2⟩ := q
  unfold m16 m17
  rw [m10_eq, m11_eq, m8_eq, m9_eq]

theorem m18_19 (p : T22) : m18 p = m19 p := by
  obtain ⟨t, o, g, u⟩ := p
  unfold m18 m19
  rw [m20_eq, m21_eq]

/-! ### the examples -/
theorem small_eq : m7 = some true := by decide +kernel

end Go.Proofs.Ytapalendgokfoaa
