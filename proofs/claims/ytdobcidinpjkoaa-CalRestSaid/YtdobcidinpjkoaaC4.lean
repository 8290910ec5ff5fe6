/- Walks to the next and to the previous business day. -/
import Derived.Test.YtdobcidinpjkoaaC3
namespace Go.Proofs.Ytdobcidinpjkoaa
open Go Go.Eng
set_option linter.unusedVariables false
set_option linter.unusedSimpArgs false

/-- The first business day from a day on. -/
def upN (c : T23) : Nat → Int → Int × Int × Unit
  | 0, _ => (0, 3, ())
  | n + 1, d => if op c d then (d, 0, ()) else upN c n (d + 1)
def up (c : T23) (d : Int) : Int × Int × Unit := upN c (200001 - d).toNat d

/-- The last business day up to a day. -/
def dnN (c : T23) : Nat → Int → Int × Int × Unit
  | 0, _ => (0, 3, ())
  | n + 1, d => if op c d then (d, 0, ()) else dnN c n (d - 1)
def dn (c : T23) (d : Int) : Int × Int × Unit := dnN c (d + 1).toNat d

theorem upN_spec (c : T23) : ∀ (n : Nat) (d : Int), (∃ x, upN c n d = (x, 0, ()) ∧ d ≤ x ∧ x < d + n ∧ op c x = true ∧ ∀ y, d ≤ y → y < x → op c y = false) ∨ (upN c n d = (0, 3, ()) ∧ ∀ y, d ≤ y → y < d + n → op c y = false)
  | 0, d => Or.inr ⟨rfl, fun y h1 h2 => by omega⟩
  | n + 1, d => by
    unfold upN
    by_cases h : op c d = true
    · rw [if_pos h]
      exact Or.inl ⟨d, rfl, by omega, by omega, h, fun y h1 h2 => by omega⟩
    · rw [if_neg h]
      have h' : op c d = false := by simpa using h
      rcases upN_spec c n (d + 1) with ⟨x, e, h1, h2, h3, h4⟩ | ⟨e, h1⟩
      · refine Or.inl ⟨x, e, by omega, by omega, h3, fun y g1 g2 => ?_⟩
        by_cases e : y = d
        · rw [e, h']
        · exact h4 y (by omega) g2
      · refine Or.inr ⟨e, fun y g1 g2 => ?_⟩
        by_cases e : y = d
        · rw [e, h']
        · exact h1 y (by omega) (by omega)

theorem dnN_spec (c : T23) : ∀ (n : Nat) (d : Int), (∃ x, dnN c n d = (x, 0, ()) ∧ x ≤ d ∧ d - n < x ∧ op c x = true ∧ ∀ y, x < y → y ≤ d → op c y = false) ∨ (dnN c n d = (0, 3, ()) ∧ ∀ y, d - n < y → y ≤ d → op c y = false)
  | 0, d => Or.inr ⟨rfl, fun y h1 h2 => by omega⟩
  | n + 1, d => by
    unfold dnN
    by_cases h : op c d = true
    · rw [if_pos h]
      exact Or.inl ⟨d, rfl, by omega, by omega, h, fun y h1 h2 => by omega⟩
    · rw [if_neg h]
      have h' : op c d = false := by simpa using h
      rcases dnN_spec c n (d - 1) with ⟨x, e, h1, h2, h3, h4⟩ | ⟨e, h1⟩
      · refine Or.inl ⟨x, e, by omega, by omega, h3, fun y g1 g2 => ?_⟩
        by_cases e : y = d
        · rw [e, h']
        · exact h4 y (by omega) (by omega)
      · refine Or.inr ⟨e, fun y g1 g2 => ?_⟩
        by_cases e : y = d
        · rw [e, h']
        · exact h1 y (by omega) (by omega)

/-- What the way up finds. -/
theorem up_spec (c : T23) (d : Int) : (∃ x, up c d = (x, 0, ()) ∧ d ≤ x ∧ x ≤ 200000 ∧ op c x = true ∧ ∀ y, d ≤ y → y < x → op c y = false) ∨ (up c d = (0, 3, ()) ∧ ∀ y, d ≤ y → y ≤ 200000 → op c y = false) := by
  rcases upN_spec c (200001 - d).toNat d with ⟨x, e, h1, h2, h3, h4⟩ | ⟨e, h⟩
  · exact Or.inl ⟨x, e, h1, by omega, h3, h4⟩
  · exact Or.inr ⟨e, fun y h1 h2 => h y h1 (by omega)⟩

theorem dn_spec (c : T23) (d : Int) : (∃ x, dn c d = (x, 0, ()) ∧ x ≤ d ∧ 0 ≤ x ∧ op c x = true ∧ ∀ y, x < y → y ≤ d → op c y = false) ∨ (dn c d = (0, 3, ()) ∧ ∀ y, 0 ≤ y → y ≤ d → op c y = false) := by
  rcases dnN_spec c (d + 1).toNat d with ⟨x, e, h1, h2, h3, h4⟩ | ⟨e, h⟩
  · exact Or.inl ⟨x, e, h1, by omega, h3, h4⟩
  · exact Or.inr ⟨e, fun y h1 h2 => h y (by omega) (by omega)⟩

theorem up_of {c : T23} {d x : Int} (h1 : d ≤ x) (h2 : x ≤ 200000) (h3 : op c x = true) (h4 : ∀ y, d ≤ y → y < x → op c y = false) : up c d = (x, 0, ()) := by
  rcases up_spec c d with ⟨z, e, g1, g2, g3, g4⟩ | ⟨e, g⟩
  · have : z = x := by
      by_cases c1 : z < x
      · have := h4 z g1 c1; simp_all
      · by_cases c2 : x < z
        · have := g4 x h1 c2; simp_all
        · omega
    rw [e, this]
  · have := g x h1 h2; simp_all

theorem dn_of {c : T23} {d x : Int} (h1 : x ≤ d) (h2 : 0 ≤ x) (h3 : op c x = true) (h4 : ∀ y, x < y → y ≤ d → op c y = false) : dn c d = (x, 0, ()) := by
  rcases dn_spec c d with ⟨z, e, g1, g2, g3, g4⟩ | ⟨e, g⟩
  · have : z = x := by
      by_cases c1 : x < z
      · have := h4 z c1 g1; simp_all
      · by_cases c2 : z < x
        · have := g4 x c2 h1; simp_all
        · omega
    rw [e, this]
  · have := g x h2 h1; simp_all

theorem l32_up {R : Type} (c : T23) (hr : RightC c) (k1 : Option R) (k2 : Int → Option R) : ∀ (n m : Nat) (d : Int), 0 ≤ d → (200001 - d).toNat = m → m < n →
    l32_1 1 c k1 k2 n d = bif (upN c m d).2.1 == 0 then k2 (upN c m d).1 else k1
  | 0, m, d, _, _, hm => by omega
  | n + 1, m, d, hd, he, hm => by
    unfold l32_1 s32_1
    rw [m29_eq]
    by_cases h : d ≤ 200000
    · rw [decide_eq_true ⟨hd, h⟩, m30_eq c hr d hd, wrapI (by omega) (by omega)]
      obtain ⟨m', rfl⟩ : ∃ m', m = m' + 1 := ⟨m - 1, by omega⟩
      unfold upN
      by_cases g : op c d = true
      · simp [g]
      · have g' : op c d = false := by simpa using g
        simp only [Option.bind_some, cond_true, g', cond_false, Bool.false_eq_true, if_false]
        exact l32_up c hr k1 k2 n m' (d + 1) (by omega) (by omega) (by omega)
    · rw [decide_eq_false (by omega)]
      have : m = 0 := by omega
      subst this
      rfl

theorem l32_dn {R : Type} (c : T23) (hr : RightC c) (k1 : Option R) (k2 : Int → Option R) : ∀ (n m : Nat) (d : Int), -1 ≤ d → d ≤ 200000 → (d + 1).toNat = m → m < n →
    l32_1 (-1) c k1 k2 n d = bif (dnN c m d).2.1 == 0 then k2 (dnN c m d).1 else k1
  | 0, m, d, _, _, _, hm => by omega
  | n + 1, m, d, hd0, hd, he, hm => by
    unfold l32_1 s32_1
    rw [m29_eq]
    by_cases h : 0 ≤ d
    · rw [decide_eq_true ⟨h, hd⟩, m30_eq c hr d h, wrapI (by omega) (by omega)]
      obtain ⟨m', rfl⟩ : ∃ m', m = m' + 1 := ⟨m - 1, by omega⟩
      unfold dnN
      by_cases g : op c d = true
      · simp [g]
      · have g' : op c d = false := by simpa using g
        simp only [Option.bind_some, cond_true, g', cond_false, Bool.false_eq_true, if_false]
        exact l32_dn c hr k1 k2 n m' (d - 1) (by omega) (by omega) (by omega) (by omega)
    · rw [decide_eq_false (by omega)]
      have : m = 0 := by omega
      subst this
      rfl

theorem m32_up (c : T23) (hr : RightC c) (d : Int) (h : 0 ≤ d) : m32 c d 1 = some (up c d) := by
  unfold m32
  have hF := FUEL_eq
  rw [l32_up c hr _ _ FUEL _ d h rfl (fuel_lt (by omega))]
  rcases up_spec c d with ⟨x, e, _⟩ | ⟨e, _⟩ <;> rw [show upN c (200001 - d).toNat d = up c d from rfl, e] <;> rfl

theorem m32_dn (c : T23) (hr : RightC c) (d : Int) (h0 : -1 ≤ d) (h : d ≤ 200000) : m32 c d (-1) = some (dn c d) := by
  unfold m32
  have hF := FUEL_eq
  rw [l32_dn c hr _ _ FUEL _ d h0 h rfl (fuel_lt (by omega))]
  rcases dn_spec c d with ⟨x, e, _⟩ | ⟨e, _⟩ <;> rw [show dnN c (d + 1).toNat d = dn c d from rfl, e] <;> rfl

theorem l26_eq {R : Type} (c : T23) (hr : RightC c) (s : Int) (k1 : Option R) (k2 : Int → Option R) : ∀ (n : Nat) (d : Int), l26_1 s c k1 k2 n d = l32_1 s c k1 k2 n d
  | 0, _ => rfl
  | n + 1, d => by
    unfold l26_1 l32_1 s26_1 s32_1
    rw [m25_eq, m29_eq, m17_eq]
    by_cases h : 0 ≤ d ∧ d ≤ 200000
    · rw [m30_eq c hr d h.1, show l26_1 s c k1 k2 n = l32_1 s c k1 k2 n from funext (l26_eq c hr s k1 k2 n)]
      unfold busS
      rw [decide_eq_true hr, decide_eq_true h, decide_eq_true (show Dy d from h)]
      simp only [Bool.true_and]
    · rw [decide_eq_false h]; rfl

theorem m26_eq (c : T23) (hr : RightC c) (d s : Int) : m26 c d s = m32 c d s := by
  unfold m26 m32
  rw [l26_eq c hr]

end Go.Proofs.Ytdobcidinpjkoaa
