/- The engine, part 32: sums over numbers below a bound; lists by their places. -/
import Derived.Test.YtondjihmmjjinaaE31
namespace Go.Eng
open Go
set_option linter.unusedVariables false
set_option linter.unusedSimpArgs false

/-- f 0 + .. + f (n - 1) -/
def sumN (f : Nat → Int) : Nat → Int
  | 0 => 0
  | n + 1 => sumN f n + f n

theorem sumN_congr {f g : Nat → Int} : ∀ {n : Nat}, (∀ i, i < n → f i = g i) → sumN f n = sumN g n
  | 0, _ => rfl
  | n + 1, h => by simp only [sumN]; rw [sumN_congr (fun i hi => h i (by omega)), h n (by omega)]

theorem sumN_add (f g : Nat → Int) : ∀ n, sumN (fun i => f i + g i) n = sumN f n + sumN g n
  | 0 => rfl
  | n + 1 => by simp only [sumN, sumN_add f g n]; omega

theorem sumN_sub (f g : Nat → Int) : ∀ n, sumN (fun i => f i - g i) n = sumN f n - sumN g n
  | 0 => rfl
  | n + 1 => by simp only [sumN, sumN_sub f g n]; omega

theorem sumN_zero : ∀ n, sumN (fun _ => 0) n = 0
  | 0 => rfl
  | n + 1 => by simp only [sumN, sumN_zero n]; rfl

theorem sumN_mul (c : Int) (f : Nat → Int) : ∀ n, sumN (fun i => c * f i) n = c * sumN f n
  | 0 => by simp [sumN]
  | n + 1 => by simp only [sumN, sumN_mul c f n, Int.mul_add]

theorem sumN_swap (f : Nat → Nat → Int) (m : Nat) : ∀ n, sumN (fun i => sumN (fun j => f i j) m) n = sumN (fun j => sumN (fun i => f i j) n) m
  | 0 => by simp only [sumN]; rw [sumN_zero]
  | n + 1 => by simp only [sumN, sumN_swap f m n, sumN_add]

theorem sumN_nonneg {f : Nat → Int} : ∀ {n : Nat}, (∀ i, i < n → 0 ≤ f i) → 0 ≤ sumN f n
  | 0, _ => Int.le_refl 0
  | n + 1, h => by have := sumN_nonneg (f := f) (n := n) (fun i hi => h i (by omega)); have := h n (by omega); simp only [sumN]; omega

theorem sumN_le {f g : Nat → Int} : ∀ {n : Nat}, (∀ i, i < n → f i ≤ g i) → sumN f n ≤ sumN g n
  | 0, _ => Int.le_refl 0
  | n + 1, h => by have := sumN_le (f := f) (g := g) (n := n) (fun i hi => h i (by omega)); have := h n (by omega); simp only [sumN]; omega

/-- Only one part counts. -/
theorem sumN_one {f : Nat → Int} {k : Nat} : ∀ {n : Nat}, k < n → (∀ i, i < n → i ≠ k → f i = 0) → sumN f n = f k
  | 0, h, _ => by omega
  | n + 1, h, h0 => by
    simp only [sumN]
    by_cases e : k = n
    · subst e
      have := sumN_congr (f := f) (g := fun _ => 0) (n := k) (fun i hi => h0 i (by omega) (by omega))
      rw [this, sumN_zero]; omega
    · rw [sumN_one (n := n) (by omega) (fun i hi hne => h0 i (by omega) hne), h0 n (by omega) (fun x => e x.symm)]; omega

theorem sumN_none {f : Nat → Int} {n : Nat} (h : ∀ i, i < n → f i = 0) : sumN f n = 0 := by
  rw [sumN_congr (g := fun _ => 0) h, sumN_zero]

/-- One part is at most the sum of parts that are not negative. -/
theorem sumN_part {f : Nat → Int} {n k : Nat} (hk : k < n) (h : ∀ i, i < n → 0 ≤ f i) : f k ≤ sumN f n := by
  have := sumN_le (f := fun i => if i = k then f k else 0) (g := f) (n := n) (fun i hi => by
    by_cases e : i = k
    · simp [e]
    · simp [e]; exact h i hi)
  rw [sumN_one (k := k) hk (fun i _ hne => by simp [hne])] at this
  simpa using this

theorem sumN_split (f : Nat → Int) (k : Nat) : ∀ n, k ≤ n → sumN f n = sumN f k + sumN (fun i => if k ≤ i then f i else 0) n
  | 0, h => by
    have : k = 0 := by omega
    subst this; rfl
  | n + 1, h => by
    by_cases e : k = n + 1
    · subst e
      rw [sumN_none (f := fun i => if n + 1 ≤ i then f i else 0) (fun i hi => if_neg (by omega))]; omega
    · simp only [sumN]
      rw [sumN_split f k n (by omega), if_pos (by omega)]
      omega

/-- Element i of a list, 0 behind its end. -/
def gI (l : List Int) (i : Nat) : Int := l.getD i 0

theorem gI_get {l : List Int} {i : Nat} (h : i < l.length) : l[i]? = some (gI l i) := by
  unfold gI
  rw [List.getD_eq_getElem?_getD, List.getElem?_eq_getElem h]
  rfl

theorem gI_set {l : List Int} {i j : Nat} {x : Int} (h : i < l.length) : gI (l.set i x) j = if j = i then x else gI l j := by
  unfold gI
  rw [List.getD_eq_getElem?_getD, List.getD_eq_getElem?_getD, List.getElem?_set]
  by_cases e : j = i
  · subst e; simp [h]
  · rw [if_neg (fun x => e x.symm), if_neg e]

theorem ext_gI {a b : List Int} (hl : a.length = b.length) (h : ∀ i, i < a.length → gI a i = gI b i) : a = b := by
  apply List.ext_getElem? 
  intro i
  by_cases hi : i < a.length
  · rw [gI_get hi, gI_get (hl ▸ hi), h i hi]
  · rw [List.getElem?_eq_none (by omega), List.getElem?_eq_none (by omega)]

theorem gI_rep (n i : Nat) : gI (List.replicate n 0) i = 0 := by
  unfold gI
  rw [List.getD_eq_getElem?_getD, List.getElem?_replicate]
  split <;> rfl

theorem cloneM_eq {α : Type} {xs : List α} (h : xs.length ≤ 4294967296) : cloneM xs = some xs := by
  unfold cloneM
  rw [asrtP (fun _ => decide_eq_true (by unfold LIM; exact h))]

end Go.Eng
