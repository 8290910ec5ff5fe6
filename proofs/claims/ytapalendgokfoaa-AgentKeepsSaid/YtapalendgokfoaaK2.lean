/- Purses: what each operation does. -/
import Derived.Test.YtapalendgokfoaaM
namespace Go.Proofs.Ytapalendgokfoaa
open Go Go.Eng
set_option linter.unusedVariables false
set_option linter.unusedSimpArgs false

/-- A purse is valid, and has nothing in trust if it is insolvent. -/
def Pu (p : T22) : Prop := (0 ≤ p.1 ∧ p.1 ≤ 1000000000000000) ∧ (0 ≤ p.2.1 ∧ p.2.1 ≤ 1000000000000000) ∧ (p.2.2.1 = true → p.1 = 0)

theorem am_t {n : Int} (h : 0 ≤ n) (h2 : n ≤ 1000000000000000) : m26 n = some true := by
  unfold m26
  rw [decide_eq_true (p := n ≥ 0) h, decide_eq_true h2]; rfl

theorem am_f {n : Int} (h : ¬(0 ≤ n ∧ n ≤ 1000000000000000)) : m26 n = some false := by
  unfold m26
  by_cases h1 : 0 ≤ n
  · rw [decide_eq_false (p := n ≤ 1000000000000000) (by omega), Bool.and_false]
  · rw [decide_eq_false (p := n ≥ 0) (by omega)]; rfl

theorem right_t {p : T22} (h : Pu p) : m20 p = some true := by
  unfold m20
  rw [am_t h.1.1 h.1.2]
  simp only [Option.bind_some, beq_self_eq_true, cond_true]
  rw [am_t h.2.1.1 h.2.1.2]; rfl

/-- The shape of a change: refused, or done. -/
def Ch (r : Option (T22 × Int × Unit)) (p p' : T22) (n : Int) : Prop :=
  (∃ e, e ≠ 0 ∧ r = some (p, e, ())) ∨ (1 ≤ n ∧ n ≤ 1000000000000000 ∧ p.2.2.1 = false ∧ Pu p' ∧ r = some (p', 0, ()))

theorem take_eq {p : T22} (hp : Pu p) (n : Int) : Ch (m8 p n) p (p.1 + n, p.2.1, p.2.2.1, ()) n := by
  unfold Ch m8
  rw [right_t hp]
  simp only [Option.bind_some, Bool.not_true, Bool.false_or]
  by_cases h0 : n = 0
  · subst h0; exact Or.inl ⟨1, by decide, rfl⟩
  rw [show (n == 0) = false by simpa using h0]
  simp only [beq_self_eq_true, cond_true, Bool.false_or]
  by_cases h1 : 0 ≤ n ∧ n ≤ 1000000000000000
  · rw [am_t h1.1 h1.2]
    simp only [Option.bind_some, Bool.not_true, cond_false]
    obtain ⟨ht, ho, hg⟩ := hp
    cases hgg : p.2.2.1 with
    | true => exact Or.inl ⟨7, by decide, by simp⟩
    | false =>
      simp only [cond_false]
      rw [wrapI (x := p.1 + n) (by omega) (by omega)]
      by_cases h2 : p.1 + n > 1000000000000000
      · rw [decide_eq_true h2]; exact Or.inl ⟨6, by decide, rfl⟩
      · rw [decide_eq_false h2, decide_eq_false (by omega)]
        exact Or.inr ⟨by omega, h1.2, trivial, ⟨⟨by simp only; omega, by simp only; omega⟩, ho, fun h => by simp at h⟩, rfl⟩
  · rw [am_f h1]; exact Or.inl ⟨1, by decide, rfl⟩

theorem pay_eq {p : T22} (hp : Pu p) (n : Int) : Ch (m10 p n) p (p.1 - n, p.2.1, p.2.2.1, ()) n := by
  unfold Ch m10
  rw [right_t hp]
  simp only [Option.bind_some, Bool.not_true, Bool.false_or]
  by_cases h0 : n = 0
  · subst h0; exact Or.inl ⟨1, by decide, rfl⟩
  rw [show (n == 0) = false by simpa using h0]
  simp only [beq_self_eq_true, cond_true, Bool.false_or]
  by_cases h1 : 0 ≤ n ∧ n ≤ 1000000000000000
  · rw [am_t h1.1 h1.2]
    simp only [Option.bind_some, Bool.not_true, cond_false]
    obtain ⟨ht, ho, hg⟩ := hp
    cases hgg : p.2.2.1 with
    | true => exact Or.inl ⟨7, by decide, by simp⟩
    | false =>
      simp only [cond_false]
      rw [wrapI (x := 0 - n) (by omega) (by omega), show p.1 + (0 - n) = p.1 - n by omega, wrapI (x := p.1 - n) (by omega) (by omega)]
      rw [decide_eq_false (p := p.1 - n > 1000000000000000) (by omega)]
      by_cases h2 : p.1 - n < 0
      · rw [decide_eq_true h2]; exact Or.inl ⟨22, by decide, rfl⟩
      · rw [decide_eq_false h2]
        exact Or.inr ⟨by omega, h1.2, trivial, ⟨⟨by simp only; omega, by simp only; omega⟩, ho, fun h => by simp at h⟩, rfl⟩
  · rw [am_f h1]; exact Or.inl ⟨1, by decide, rfl⟩

theorem earn_eq {p : T22} (hp : Pu p) (n : Int) : Ch (m12 p n) p (p.1, p.2.1 + n, p.2.2.1, ()) n := by
  unfold Ch m12
  rw [right_t hp]
  simp only [Option.bind_some, Bool.not_true, Bool.false_or]
  by_cases h0 : n = 0
  · subst h0; exact Or.inl ⟨1, by decide, rfl⟩
  rw [show (n == 0) = false by simpa using h0]
  simp only [beq_self_eq_true, cond_true, Bool.false_or]
  by_cases h1 : 0 ≤ n ∧ n ≤ 1000000000000000
  · rw [am_t h1.1 h1.2]
    simp only [Option.bind_some, Bool.not_true, cond_false]
    obtain ⟨ht, ho, hg⟩ := hp
    cases hgg : p.2.2.1 with
    | true => exact Or.inl ⟨7, by decide, by simp⟩
    | false =>
      simp only [cond_false]
      rw [wrapI (x := p.2.1 + n) (by omega) (by omega)]
      by_cases h2 : p.2.1 + n > 1000000000000000
      · rw [decide_eq_true h2]; exact Or.inl ⟨6, by decide, rfl⟩
      · rw [decide_eq_false h2, decide_eq_false (by omega)]
        exact Or.inr ⟨by omega, h1.2, trivial, ⟨ht, ⟨by simp only; omega, by simp only; omega⟩, fun h => by simp at h⟩, rfl⟩
  · rw [am_f h1]; exact Or.inl ⟨1, by decide, rfl⟩

theorem spend_eq {p : T22} (hp : Pu p) (n : Int) : Ch (m14 p n) p (p.1, p.2.1 - n, p.2.2.1, ()) n := by
  unfold Ch m14
  rw [right_t hp]
  simp only [Option.bind_some, Bool.not_true, Bool.false_or]
  by_cases h0 : n = 0
  · subst h0; exact Or.inl ⟨1, by decide, rfl⟩
  rw [show (n == 0) = false by simpa using h0]
  simp only [beq_self_eq_true, cond_true, Bool.false_or]
  by_cases h1 : 0 ≤ n ∧ n ≤ 1000000000000000
  · rw [am_t h1.1 h1.2]
    simp only [Option.bind_some, Bool.not_true, cond_false]
    obtain ⟨ht, ho, hg⟩ := hp
    cases hgg : p.2.2.1 with
    | true => exact Or.inl ⟨7, by decide, by simp⟩
    | false =>
      simp only [cond_false]
      rw [wrapI (x := 0 - n) (by omega) (by omega), show p.2.1 + (0 - n) = p.2.1 - n by omega, wrapI (x := p.2.1 - n) (by omega) (by omega)]
      rw [decide_eq_false (p := p.2.1 - n > 1000000000000000) (by omega)]
      by_cases h2 : p.2.1 - n < 0
      · rw [decide_eq_true h2]; exact Or.inl ⟨22, by decide, rfl⟩
      · rw [decide_eq_false h2]
        exact Or.inr ⟨by omega, h1.2, trivial, ⟨ht, ⟨by simp only; omega, by simp only; omega⟩, fun h => by simp at h⟩, rfl⟩
  · rw [am_f h1]; exact Or.inl ⟨1, by decide, rfl⟩

theorem pass_eq {p q : T22} (hp : Pu p) (hq : Pu q) (n : Int) :
    (∃ e, e ≠ 0 ∧ m16 p q n = some (p, q, e, ())) ∨
    (1 ≤ n ∧ n ≤ 1000000000000000 ∧ Pu (p.1 - n, p.2.1, p.2.2.1, ()) ∧ Pu (q.1 + n, q.2.1, q.2.2.1, ()) ∧
      m16 p q n = some ((p.1 - n, p.2.1, p.2.2.1, ()), (q.1 + n, q.2.1, q.2.2.1, ()), 0, ())) := by
  unfold m16
  rcases pay_eq hp n with ⟨e, he, h⟩ | ⟨h1, h2, h3, h4, h⟩
  · rw [h]
    simp only [Option.bind_some, bne_ne he, cond_true]
    exact Or.inl ⟨e, he, rfl⟩
  · rw [h]
    simp only [Option.bind_some, bne_same, cond_false]
    rcases take_eq hq n with ⟨e, he, g⟩ | ⟨g1, g2, g3, g4, g⟩
    · rw [g]
      simp only [Option.bind_some, bne_ne he, cond_true]
      exact Or.inl ⟨e, he, rfl⟩
    · rw [g]
      simp only [Option.bind_some, bne_same, cond_false]
      exact Or.inr ⟨h1, h2, h4, g4, by simp⟩

theorem break_eq {p : T22} (hp : Pu p) :
    (∃ e, e ≠ 0 ∧ m18 p = some (p, 0, e, ())) ∨ (Pu (0, p.2.1, true, ()) ∧ m18 p = some ((0, p.2.1, true, ()), p.1, 0, ())) := by
  unfold m18
  rw [right_t hp]
  simp only [Option.bind_some, Bool.not_true, cond_false]
  cases hg : p.2.2.1 with
  | true => exact Or.inl ⟨7, by decide, by simp⟩
  | false => exact Or.inr ⟨⟨⟨Int.le_refl 0, by simp only; omega⟩, hp.2.1, fun _ => rfl⟩, rfl⟩

theorem small_t : m7 = some true := by
  have pu : Pu (10, 3, false, ()) := ⟨⟨by decide, by decide⟩, ⟨by decide, by decide⟩, fun h => by simp at h⟩
  have e1 : m8 (10, 3, false, ()) 5 = some ((15, 3, false, ()), 0, ()) := by kernel_rfl
  have e2 : m10 (10, 3, false, ()) 4 = some ((6, 3, false, ()), 0, ()) := by kernel_rfl
  have e3 : m10 (10, 3, false, ()) 11 = some ((10, 3, false, ()), 22, ()) := by kernel_rfl
  have e4 : m14 (10, 3, false, ()) 4 = some ((10, 3, false, ()), 22, ()) := by kernel_rfl
  have e5 : m18 (10, 3, false, ()) = some ((0, 3, true, ()), 10, 0, ()) := by kernel_rfl
  have e6 : m12 (0, 3, true, ()) 1 = some ((0, 3, true, ()), 7, ()) := by kernel_rfl
  unfold m7
  rw [e1, e2, e3, e4, e5]
  simp only [Option.bind_some]
  rw [e6]
  simp only [Option.bind_some]
  rw [right_t pu]
  rfl

end Go.Proofs.Ytapalendgokfoaa
