/- Dates: texts. -/
import Derived.Test.YtecidmdihmcclaaD4
namespace Go.Proofs.Ytecidmdihmcclaa
open Go Go.Eng
set_option linter.unusedVariables false
set_option linter.unusedSimpArgs false

theorem wrap8 {x : Int} (h1 : 0 ≤ x) (h2 : x ≤ 255) : IntKind.u8.wrap x = x := by
  rw [IntKind.wrap_u8]; omega

def dg (n : Int) : UInt8 := UInt8.ofNat (48 + n % 10).toNat
def pad2 (n : Int) : List UInt8 := [dg (n / 10), dg n]
def pad4 (n : Int) : List UInt8 := [dg (n / 1000), dg (n / 100), dg (n / 10), dg n]

theorem l29_s {R : Type} (k : List Int → Option R) (n : Nat) (a i : Int) (o : List Int) : l29_1 k (n + 1) a i o = s29_1 (l29_1 k n) k a i o := rfl

theorem fuel5 : ∃ m, FUEL = m + 1 + 1 + 1 + 1 + 1 := ⟨FUEL - 5, by have := FUEL_eq; omega⟩

theorem s29_go {R : Type} (kn : Int → Int → List Int → Option R) (k : List Int → Option R) (a : Int) (j : Nat) (o : List Int) (h0 : 0 ≤ a) (h1 : a ≤ 1000000000) (hj : j < o.length) (hj2 : j ≤ 10) :
    s29_1 kn k a (j : Int) o = kn (a / 10) ((j : Int) - 1) (o.set j (48 + a % 10)) := by
  unfold s29_1
  rw [bifT (decide_eq_true (by omega)), asrtP (fun _ => by simp; omega)]
  have e : ((j : Int)).toNat = j := by omega
  rw [e, List.getElem?_eq_getElem hj]
  simp only [Option.bind_some]
  rw [tdiv_pos _ h0, tmod_pos _ h0]
  simp (disch := omega) only [wrapI, wrap8]

theorem s29_end {R : Type} (kn : Int → Int → List Int → Option R) (k : List Int → Option R) (a : Int) (o : List Int) : s29_1 kn k a (-1) o = k o := by
  unfold s29_1
  rfl

theorem m29_4 (n : Int) (h0 : 0 ≤ n) (h1 : n ≤ 1000000000) : m29 n 4 = some (pad4 n) := by
  unfold m29
  rw [asrtP (fun _ => by decide)]
  obtain ⟨m, hm⟩ := fuel5
  rw [hm, show IntKind.i64.wrap (4 - 1) = ((3 : Nat) : Int) by decide, show List.replicate (4 : Int).toNat (0 : Int) = [0, 0, 0, 0] by rfl]
  rw [l29_s, s29_go _ _ _ _ _ h0 h1 (by decide) (by decide), l29_s, show (((3 : Nat) : Int) - 1) = ((2 : Nat) : Int) by decide, s29_go _ _ _ _ _ (by omega) (by omega) (by simp) (by decide),
    l29_s, show (((2 : Nat) : Int) - 1) = ((1 : Nat) : Int) by decide, s29_go _ _ _ _ _ (by omega) (by omega) (by simp) (by decide),
    l29_s, show (((1 : Nat) : Int) - 1) = ((0 : Nat) : Int) by decide, s29_go _ _ _ _ _ (by omega) (by omega) (by simp) (by decide), l29_s]
  rw [show (((0 : Nat) : Int) - 1) = -1 by decide, s29_end]
  simp only [List.set, List.map, pad4, dg]
  congr 1
  have e1 : n / 10 / 10 / 10 = n / 1000 := by omega
  have e2 : n / 10 / 10 = n / 100 := by omega
  rw [e1, e2]

theorem m29_2 (n : Int) (h0 : 0 ≤ n) (h1 : n ≤ 1000000000) : m29 n 2 = some (pad2 n) := by
  unfold m29
  rw [asrtP (fun _ => by decide)]
  obtain ⟨m, hm⟩ := fuel5
  rw [hm, show IntKind.i64.wrap (2 - 1) = ((1 : Nat) : Int) by decide, show List.replicate (2 : Int).toNat (0 : Int) = [0, 0] by rfl]
  rw [l29_s, s29_go _ _ _ _ _ h0 h1 (by decide) (by decide),
    l29_s, show (((1 : Nat) : Int) - 1) = ((0 : Nat) : Int) by decide, s29_go _ _ _ _ _ (by omega) (by omega) (by simp) (by decide), l29_s]
  rw [show (((0 : Nat) : Int) - 1) = -1 by decide, s29_end]
  rfl

/-- The text of a date. -/
def txt (y m d : Int) : List UInt8 := pad4 y ++ [45] ++ pad2 m ++ [45] ++ pad2 d

theorem m20_of {day y d : Int} {M : Nat} (h : IsDate day y M d) (h0 : 0 ≤ day) (h1 : day ≤ 200000) : m20 day = some (txt y (M + 1) d) := by
  unfold m20
  obtain ⟨y1, y2⟩ := h.ys h0 h1
  have hm := h.m
  have hd := h.d1
  have hd2 := h.d2
  have hl := last_bounds y (M + 1)
  rw [m10_of h h0 h1]
  simp only [Option.bind_some]
  rw [bifF (by simp), m29_4 y (by omega) (by omega), m29_2 (M + 1) (by omega) (by omega), m29_2 d (by omega) (by omega)]
  rfl

theorem m20_bad {day : Int} (h : ¬ (0 ≤ day ∧ day ≤ 200000)) : m20 day = some [] := by
  unfold m20
  rw [m10_bad h]
  rfl

/-! ### Reading -/

/-- A digit. -/
def isD (c : UInt8) : Bool := !(decide ((c.toNat : Int) < 48) || decide ((c.toNat : Int) > 57))
def stepD (a : Int) (c : UInt8) : Int := IntKind.i64.wrap (IntKind.i64.wrap (10 * a) + IntKind.i64.wrap (IntKind.u8.wrap ((c.toNat : Int) - 48)))

def digs : List UInt8 → Int → Option Int
  | [], a => some a
  | c :: l, a => if isD c = true then digs l (stepD a c) else none

theorem l28_eq {R : Type} (L : List UInt8) (hL : L.length ≤ 100) (k1 : Int → Option R) (k2 : Option R) : ∀ (n j : Nat) (acc : Int), j ≤ L.length → L.length - j < n →
    l28_1 (L.length : Int) (L.map fun c => (UInt8.toNat c : Int)) k1 k2 n acc j = match digs (L.drop j) acc with
      | some v => k1 v
      | none => k2
  | 0, j, acc, _, h => by omega
  | n + 1, j, acc, hj, hn => by
    unfold l28_1 s28_1
    by_cases h : j = L.length
    · subst h
      rw [bifF (decide_eq_false (by omega)), List.drop_length]
      rfl
    · have hlt : j < L.length := by omega
      rw [bifT (decide_eq_true (by omega)), asrtP (fun _ => by simp; omega)]
      have e : ((j : Int)).toNat = j := by omega
      rw [e, List.getElem?_map, List.getElem?_eq_getElem hlt]
      simp only [Option.map_some, Option.bind_some]
      rw [List.drop_eq_getElem_cons hlt]
      simp only [digs]
      by_cases hd : isD L[j] = true
      · rw [if_pos hd]
        unfold isD at hd
        rw [Bool.not_eq_true'] at hd
        rw [bifF hd, wrapI (x := (j : Int) + 1) (by omega) (by omega)]
        have := l28_eq L hL k1 k2 n (j + 1) (stepD acc L[j]) (by omega) (by omega)
        rw [← this]
        rfl
      · rw [if_neg hd]
        unfold isD at hd
        rw [Bool.not_eq_true, Bool.not_eq_false'] at hd
        rw [bifT hd]

theorem m28_eq (L : List UInt8) (hL : L.length ≤ 100) : m28 L = some (match digs L 0 with
    | some v => (v, true, ())
    | none => (0, false, ())) := by
  unfold m28
  have := l28_eq L hL (fun y2 => some ((y2, true, ()) : Int × Bool × Unit)) (some (0, false, ())) FUEL 0 0 (by omega) (fuel_lt (by omega))
  rw [List.length_map]
  simp only [Int.natCast_zero] at this
  rw [this, List.drop_zero]
  split <;> rfl

end Go.Proofs.Ytecidmdihmcclaa
