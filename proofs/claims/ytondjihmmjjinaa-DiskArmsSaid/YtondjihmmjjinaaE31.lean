/- The engine, part 31: plain lemmas for the models. -/
import Derived.Test.YtondjihmmjjinaaE30
namespace Go.Eng
open Go
set_option linter.unusedVariables false
set_option linter.unusedSimpArgs false

theorem wrapI {x : Int} (h1 : -9223372036854775808 ≤ x) (h2 : x ≤ 9223372036854775807) : IntKind.i64.wrap x = x := by
  rw [IntKind.wrap_i64]; omega

theorem asrtT {R : Type} (g : Bool) (k : Option R) : asrt g true k = k := by
  cases g <;> rfl
theorem asrtP {R : Type} {g c : Bool} {k : Option R} (h : g = true → c = true) : asrt g c k = k := by
  cases g with
  | false => rfl
  | true => rw [h rfl]; rfl
theorem asrtF {R : Type} (c : Bool) (k : Option R) : asrt false c k = k := rfl

theorem idx_nat {α : Type} (xs : List α) (n : Nat) : idx xs (n : Int) = xs[n]? := by
  unfold idx
  rw [show decide (0 ≤ (n : Int)) = true from decide_eq_true (Int.natCast_nonneg n)]
  simp
theorem idx_pos {α : Type} {xs : List α} {i : Int} (h : 0 ≤ i) : idx xs i = xs[i.toNat]? := by
  unfold idx
  rw [decide_eq_true h]; rfl
theorem idx_lt {α : Type} {xs : List α} {i : Int} (h : 0 ≤ i) (h2 : i < xs.length) : idx xs i = some (xs[i.toNat]'(by omega)) := by
  rw [idx_pos h, List.getElem?_eq_getElem (by omega)]

theorem fuel_le {n : Nat} (h : n ≤ 18446744073709551616) : n ≤ FUEL := by rw [FUEL_eq]; exact h
theorem fuel_lt {n : Nat} (h : n < 18446744073709551616) : n < FUEL := by rw [FUEL_eq]; exact h
theorem fuel_s (n : Nat) (h : n ≤ 18446744073709551616) : ∃ m, FUEL = m + n := ⟨FUEL - n, by have := fuel_le h; omega⟩

theorem cond_if {α : Sort _} (c : Bool) (a b : α) : (bif c then a else b) = if c = true then a else b := by cases c <;> rfl

theorem bifT {α : Sort _} {c : Bool} (h : c = true) (a b : α) : (bif c then a else b) = a := by rw [h]; rfl
theorem bifF {α : Sort _} {c : Bool} (h : c = false) (a b : α) : (bif c then a else b) = b := by rw [h]; rfl

theorem tmod_pos {a : Int} (b : Int) (h : 0 ≤ a) : Int.tmod a b = a % b := Int.tmod_eq_emod_of_nonneg h
theorem tdiv_pos {a : Int} (b : Int) (h : 0 ≤ a) : Int.tdiv a b = a / b := Int.tdiv_eq_ediv_of_nonneg h

theorem wf_i64 {n : Int} (h : Wf (.int .i64) n) : -9223372036854775808 ≤ n ∧ n ≤ 9223372036854775807 := by
  have h : (Lit.int .i64 n).wf = true := h
  simp [Lit.wf, IntKind.min, IntKind.max, IntKind.bits, IntKind.signed] at h
  omega

theorem wf_i16 {n : Int} (h : Wf (.int .i16) n) : -32768 ≤ n ∧ n ≤ 32767 := by
  have h : (Lit.int .i16 n).wf = true := h
  simp [Lit.wf, IntKind.min, IntKind.max, IntKind.bits, IntKind.signed] at h
  omega
theorem wf_u8 {n : Int} (h : Wf (.int .u8) n) : 0 ≤ n ∧ n ≤ 255 := by
  have h : (Lit.int .u8 n).wf = true := h
  simp [Lit.wf, IntKind.min, IntKind.max, IntKind.bits, IntKind.signed] at h
  omega

theorem cont_eq {α R : Type} {t : (α → Option R) → Option R} {K : α → Option R} (x : α) (h : ∀ k, t k = k x) : cont t K = K x := h K

theorem bind_guard {α β : Type} (c : Bool) (a d : α) (f : α → Option β) : (bif c then some a else some d).bind f = f (bif c then a else d) := by cases c <;> rfl
theorem bne_ne {a b : Int} (h : a ≠ b) : (a != b) = true := by simp [h]
theorem bne_same (a : Int) : (a != a) = false := by simp
theorem min_eq (a b : Int) : (bif decide (b < a) then b else a) = min a b := by
  by_cases h : b < a
  · rw [decide_eq_true h]; simp only [cond_true]; omega
  · rw [decide_eq_false h]; simp only [cond_false]; omega
theorem max_eq (a b : Int) : (bif decide (b > a) then b else a) = max a b := by
  by_cases h : b > a
  · rw [decide_eq_true h]; simp only [cond_true]; omega
  · rw [decide_eq_false h]; simp only [cond_false]; omega
theorem tm0 (a b : Int) : (Int.tmod a b == 0) = (a % b == 0) := by
  rw [Bool.eq_iff_iff, beq_iff_eq, beq_iff_eq, ← Int.dvd_iff_tmod_eq_zero, Int.dvd_iff_emod_eq_zero]

end Go.Eng
