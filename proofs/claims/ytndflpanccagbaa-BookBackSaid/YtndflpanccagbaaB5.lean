/- Seats: Held, Move, comparing. -/
import Derived.Test.YtndflpanccagbaaB4
namespace Go.Proofs.Ytndflpanccagbaa
open Go Go.Eng
set_option linter.unusedVariables false
set_option linter.unusedSimpArgs false

theorem Valid.hl {S : List T35} {u : List Int} (h : Valid S u) : S.length ≤ 20000 := h.1.1

theorem Valid.nn {S : List T35} {u : List Int} (h : Valid S u) {i : Nat} (hi : i < S.length) : 0 ≤ gI u i ∧ gI u i ≤ 1000000000 := ⟨(h.2.2.1 i hi).1, (h.2.2.1 i hi).2.1⟩

theorem has_b {S : List T35} {u : List Int} (h : Valid S u) (j : Nat) : 0 ≤ has S u j ∧ has S u j ≤ 1000000000 := by
  constructor
  · exact sumN_nonneg (fun i hi => by have := h.nn hi; split <;> omega)
  · have : has S u j ≤ sumN (gI u) S.length := sumN_le (fun i hi => by have := h.nn hi; split <;> omega)
    have := h.2.2.2
    omega

/-- What stands in the sums, when the seats from m on are done. -/
def part (S : List T35) (u : List Int) (m j : Nat) : Int := gI u j + sumN (fun c => if m ≤ c ∧ P S c = j then has S u c else 0) S.length

theorem part_b {S : List T35} {u : List Int} (h : Valid S u) (m : Nat) {j : Nat} (hj : j < S.length) : 0 ≤ part S u m j ∧ part S u m j ≤ has S u j := by
  have hn := h.nn hj
  constructor
  · have := sumN_nonneg (f := fun c => if m ≤ c ∧ P S c = j then has S u c else 0) (n := S.length) (fun c hc => by have := has_b h c; split <;> omega)
    unfold part; omega
  · rw [has_eq h.1.up u hj]
    unfold part
    have := sumN_le (f := fun c => if m ≤ c ∧ P S c = j then has S u c else 0) (g := fun c => if P S c = j then has S u c else 0) (n := S.length) (fun c hc => by
      have := has_b h c
      by_cases h1 : P S c = j
      · by_cases h2 : m ≤ c
        · rw [if_pos ⟨h2, h1⟩, if_pos h1]; omega
        · rw [if_neg (fun x => h2 x.1), if_pos h1]; omega
      · rw [if_neg (fun x => h1 x.2), if_neg h1]; omega)
    omega

theorem part_full {S : List T35} {u : List Int} (h : Valid S u) (m : Nat) {j : Nat} (hj : j < S.length) (hm : m ≤ j + 1) : part S u m j = has S u j := by
  rw [has_eq h.1.up u hj]
  unfold part
  congr 1
  apply sumN_congr
  intro c hc
  by_cases h1 : P S c = j
  · have := h.1.up c hc
    rw [if_pos ⟨by omega, h1⟩, if_pos h1]
  · rw [if_neg (fun x => h1 x.2), if_neg h1]

theorem part_step {S : List T35} {u : List Int} (h : Valid S u) {m : Nat} (hm : m < S.length) (j : Nat) : part S u m j = part S u (m + 1) j + (if P S m = j then has S u m else 0) := by
  unfold part
  have e : ∀ c, (if m ≤ c ∧ P S c = j then has S u c else 0) = (if m + 1 ≤ c ∧ P S c = j then has S u c else 0) + (if c = m then (if P S m = j then has S u m else 0) else 0) := by
    intro c
    by_cases h1 : c = m
    · subst h1
      rw [if_pos rfl, if_neg (show ¬ (c + 1 ≤ c ∧ P S c = j) by omega)]
      by_cases h2 : P S c = j
      · rw [if_pos ⟨by omega, h2⟩, if_pos h2]; omega
      · rw [if_neg (fun x => h2 x.2), if_neg h2]; omega
    · rw [if_neg h1]
      by_cases h2 : m + 1 ≤ c ∧ P S c = j
      · rw [if_pos h2, if_pos ⟨by omega, h2.2⟩]; omega
      · rw [if_neg h2, if_neg (fun x => h2 ⟨by omega, x.2⟩)]; omega
  rw [sumN_congr (fun c _ => e c), sumN_add, sumN_one (f := fun c => if c = m then (if P S m = j then has S u m else 0) else 0) (k := m) hm (fun i _ hne => if_neg hne), if_pos rfl]
  omega

theorem l21_eq {R : Type} (S : List T35) (u : List Int) (hv : Valid S u) (s : Nat) (hs : s < S.length) (k : List Int → Option R) : ∀ (n m : Nat) (o : List Int), s + 1 ≤ m → m ≤ S.length → m - s ≤ n → o.length = S.length → (∀ j, j < S.length → gI o j = part S u m j) →
    ∃ o', o'.length = S.length ∧ gI o' s = has S u s ∧ l21_1 S (s : Int) k n ((m : Int) - 1) o = k o'
  | 0, m, o, h1, _, h2, _, _ => by omega
  | n + 1, m, o, h1, h2, h3, hl, ho => by
    have hL := hv.hl
    unfold l21_1 s21_1
    by_cases c : m = s + 1
    · subst c
      rw [bifF (decide_eq_false (by omega))]
      exact ⟨o, hl, by rw [ho s hs, part_full hv _ hs (by omega)], rfl⟩
    · rw [bifT (decide_eq_true (by omega))]
      have hm : m - 1 < S.length := by omega
      have em : (m : Int) - 1 = ((m - 1 : Nat) : Int) := by omega
      have hP := hv.1.up (m - 1) hm
      have hself : gI o (m - 1) = has S u (m - 1) := by rw [ho _ hm, part_full hv _ hm (by omega)]
      have hst := part_step hv hm
      rw [show m - 1 + 1 = m by omega] at hst
      have key : ∃ o', o'.length = S.length ∧ (∀ j, j < S.length → gI o' j = part S u (m - 1) j) ∧ ∀ k7 : List Int → Option R, ((idx S ((m : Int) - 1)).bind fun x3 =>
          bif (decide (x3.1 ≥ 0)) then
            asrt true (decide (0 ≤ x3.1) && decide (x3.1 < (List.length o : Int))) (
              ((o)[(x3.1 : Int).toNat]?).bind fun x4 =>
              asrt true (decide (0 ≤ ((m : Int) - 1)) && decide (((m : Int) - 1) < (List.length o : Int))) (
                ((o)[(((m : Int) - 1) : Int).toNat]?).bind fun x5 =>
                asrt true (decide (0 ≤ x3.1) && decide (x3.1 < (List.length o : Int))) (
                  ((o)[(x3.1 : Int).toNat]?).bind fun x6 =>
                  k7 (List.set o (x3.1 : Int).toNat (IntKind.i64.wrap (x4 + x5))))))
          else
            k7 o) = k7 o' := by
        rw [em, seat_idx hm]
        by_cases hp0 : 0 ≤ P S (m - 1)
        · have hpl : (P S (m - 1)).toNat < S.length := by omega
          have hb := part_b hv m hpl
          have hb2 := has_b hv (m - 1)
          have hb3 := has_b hv (P S (m - 1)).toNat
          refine ⟨o.set (P S (m - 1)).toNat (part S u m (P S (m - 1)).toNat + has S u (m - 1)), by simpa using hl, ?_, ?_⟩
          · intro j hj
            rw [gI_set (by omega), hst]
            by_cases e : j = (P S (m - 1)).toNat
            · subst e; rw [if_pos rfl, if_pos (by omega)]
            · rw [if_neg e, if_neg (by omega), ho j hj]; omega
          · intro k7
            simp only [Option.bind_some]
            rw [bifT (decide_eq_true (show (seat S (m - 1)).1 ≥ 0 from hp0))]
            have e1 : (seat S (m - 1)).1 = P S (m - 1) := rfl
            rw [e1, asrtP (fun _ => by simp; omega), gI_get (by omega)]
            simp only [Option.bind_some]
            rw [asrtP (fun _ => by simp; omega), show (((m - 1 : Nat) : Int)).toNat = m - 1 by omega, gI_get (by omega)]
            simp only [Option.bind_some]
            rw [asrtP (fun _ => by simp; omega), hself, ho _ hpl, wrapI (by omega) (by omega)]
        · refine ⟨o, hl, ?_, ?_⟩
          · intro j hj
            rw [hst, if_neg (by omega), ho j hj]; omega
          · intro k7
            simp only [Option.bind_some]
            rw [bifF (decide_eq_false (show ¬ (seat S (m - 1)).1 ≥ 0 from hp0))]
      obtain ⟨o', a1, a2, a3⟩ := key
      rw [cont_eq o' a3, wrapI (x := (m : Int) - 1 - 1) (by omega) (by omega), show (m : Int) - 1 - 1 = ((m - 1 : Nat) : Int) - 1 by omega]
      exact l21_eq S u hv s hs k n (m - 1) o' (by omega) (by omega) (by omega) a1 a2

def heldS (S : List T35) (u : List Int) (s : Int) : Int := if Valid S u ∧ In S s then has S u s.toNat else 0

theorem m21_eq (S : List T35) (u : List Int) (s : Int) : m21 S u s = some (heldS S u s) := by
  unfold m21 heldS
  rw [m26_eq]
  simp only [Option.bind_some]
  rw [dec_out]
  by_cases h : Valid S u ∧ In S s
  · rw [if_pos h, decide_eq_true h.1, decide_eq_true h.2]
    simp only [Bool.and_true, Bool.not_true, cond_false]
    obtain ⟨q, rfl⟩ : ∃ q : Nat, s = q := ⟨s.toNat, by have := h.2.1; omega⟩
    have hq : q < S.length := by have := h.2.2; omega
    have hL := h.1.hl
    have hul := h.1.2.1
    rw [cloneM_eq (by omega)]
    simp only [Option.bind_some]
    rw [wrapI (x := (S.length : Int) - 1) (by omega) (by omega)]
    obtain ⟨o', a1, a2, a3⟩ := l21_eq S u h.1 q hq (fun y8 => asrt true (decide (0 ≤ (q : Int)) && decide ((q : Int) < (List.length y8 : Int))) (((y8)[((q : Int) : Int).toNat]?).bind fun x9 => some x9)) FUEL S.length u (by omega) (by omega) (fuel_le (by omega)) hul (fun j hj => by
      unfold part
      rw [sumN_none (fun c hc => if_neg (by omega))]; omega)
    rw [a3, asrtP (fun _ => by simp; omega), show ((q : Int)).toNat = q by omega, gI_get (by omega), a2]
    rfl
  · rw [if_neg h]
    have : (decide (Valid S u) && decide (In S s)) = false := by
      by_cases h1 : Valid S u
      · by_cases h2 : In S s
        · exact absurd ⟨h1, h2⟩ h
        · simp [h2]
      · simp [h1]
    rw [this]
    rfl

/-! ### The reference's Below and Held -/

theorem l24_eq {R : Type} (S : List T35) (hU : Up S S.length) (t : Nat) (k : Int → Option R) : ∀ (n i : Nat), i < S.length → i < n → ∃ y : Nat, l24_1 S (t : Int) k n i = k y ∧ (decide (y = t) = below S i t)
  | 0, i, _, h => by omega
  | n + 1, i, hi, hn => by
    have hu : Up S (i + 1) := fun j hj => hU j (by omega)
    have hP := hU i hi
    have ig : ∀ g : Bool, idxG g (0, 0, ()) S (i : Int) = some (bif g then seat S i else (0, 0, ())) := by
      intro g
      unfold idxG
      rw [seat_idx hi]
      cases g <;> rfl
    unfold l24_1 s24_1
    rw [ig]
    simp only [Option.bind_some]
    by_cases e : i = t
    · subst e
      rw [bifF (by simp)]
      exact ⟨i, rfl, by rw [below_eq hu]; simp⟩
    · have hne : ((i : Int) != (t : Int)) = true := bne_ne (by omega)
      rw [hne]
      simp only [beq_self_eq_true, cond_true, Bool.true_and]
      by_cases h0 : 0 ≤ P S i
      · rw [bifT (decide_eq_true (show (seat S i).1 ≥ 0 from h0)), seat_idx hi]
        simp only [Option.bind_some]
        have e1 : (seat S i).1 = (((P S i).toNat : Nat) : Int) := by show P S i = _; omega
        rw [e1]
        obtain ⟨y, q1, q2⟩ := l24_eq S hU t k n (P S i).toNat (by omega) (by omega)
        exact ⟨y, q1, by rw [q2, below_eq hu, decide_eq_false e, decide_eq_true h0]; simp⟩
      · rw [bifF (decide_eq_false (show ¬ (seat S i).1 ≥ 0 from h0))]
        exact ⟨i, rfl, by rw [below_eq hu, decide_eq_false e, decide_eq_false h0]; simp⟩

theorem m24_eq (S : List T35) (hr : Right S) (i t : Nat) (hi : i < S.length) : m24 S i t = some (below S i t) := by
  unfold m24
  obtain ⟨y, q1, q2⟩ := l24_eq S hr.up t (fun y3 => some (y3 == (t : Int))) FUEL i hi (fuel_lt (by have := hr.1; omega))
  rw [q1, ← q2]
  congr 1
  rw [Bool.eq_iff_iff]
  simp
  omega

theorem l22_eq {R : Type} (S : List T35) (u : List Int) (hv : Valid S u) (s : Nat) (k : Int → Option R) : ∀ (n j : Nat), j ≤ S.length → S.length - j < n →
    l22_1 S u s k n (sumN (fun i => if below S i s = true then gI u i else 0) j) j = k (has S u s)
  | 0, j, _, h => by omega
  | n + 1, j, hj, hn => by
    have hL := hv.hl
    have hul := hv.2.1
    unfold l22_1 s22_1
    by_cases c : j = S.length
    · subst c
      rw [bifF (decide_eq_false (by omega))]
      rfl
    · have hlt : j < S.length := by omega
      rw [bifT (decide_eq_true (by omega))]
      have hsum : 0 ≤ sumN (fun i => if below S i s = true then gI u i else 0) j ∧ sumN (fun i => if below S i s = true then gI u i else 0) j ≤ 1000000000 * j := by
        constructor
        · exact sumN_nonneg (fun i hi => by have := hv.nn (i := i) (by omega); split <;> omega)
        · have := sumN_le (f := fun i => if below S i s = true then gI u i else 0) (g := fun _ => 1000000000) (n := j) (fun i hi => by have := hv.nn (i := i) (by omega); split <;> omega)
          have e : ∀ n : Nat, sumN (fun _ => (1000000000 : Int)) n = 1000000000 * n := by
            intro n; induction n with
            | zero => rfl
            | succ n ih => simp only [sumN, ih]; omega
          rw [e] at this; exact this
      have hnj := hv.nn hlt
      rw [cont_eq (sumN (fun i => if below S i s = true then gI u i else 0) (j + 1)) (by
        intro k5
        rw [m24_eq S hv.1 j s hlt]
        simp only [Option.bind_some]
        cases hb : below S j s with
        | true =>
          simp only [cond_true]
          rw [idx_nat, gI_get (by omega)]
          simp only [Option.bind_some, sumN, hb, if_true]
          rw [wrapI (by omega) (by omega)]
        | false =>
          simp only [cond_false, sumN, hb]
          simp)]
      rw [wrapI (x := (j : Int) + 1) (by omega) (by omega)]
      exact l22_eq S u hv s k n (j + 1) (by omega) (by omega)

theorem m22_eq (S : List T35) (u : List Int) (hL : S.length ≤ 20000) (s : Int) : m22 S u s = some (heldS S u s) := by
  unfold m22 heldS
  rw [m23_eq S u hL, m31_eq S hL]
  simp only [Option.bind_some]
  by_cases hv : Valid S u
  · rw [decide_eq_true hv]
    by_cases hi : In S s
    · rw [if_pos ⟨hv, hi⟩, decide_eq_true (show In S s ∧ Right S from ⟨hi, hv.1⟩)]
      simp only [Bool.not_true, beq_self_eq_true, cond_true, Option.bind_some, Bool.or_self, cond_false]
      obtain ⟨q, rfl⟩ : ∃ q : Nat, s = q := ⟨s.toNat, by have := hi.1; omega⟩
      have := l22_eq S u hv q (fun y6 => some y6) FUEL 0 (by omega) (fuel_lt (by omega))
      simp only [Int.natCast_zero, sumN] at this
      rw [this]
      rfl
    · rw [if_neg (fun h => hi h.2), decide_eq_false (fun h : In S s ∧ Right S => hi h.1)]
      rfl
  · rw [decide_eq_false hv, if_neg (fun h => hv h.1)]
    rfl

/-! ### Ints -/

theorem l12_eq {R : Type} (a b : List Int) (hl : a.length = b.length) (hb : a.length ≤ 4294967296) (k1 k2 : Option R) : ∀ (n j : Nat), j ≤ a.length → a.length - j < n → (∀ i, i < j → gI a i = gI b i) →
    l12_1 a b k1 k2 n j = if a = b then k1 else k2
  | 0, j, _, h, _ => by omega
  | n + 1, j, hj, hn, hp => by
    unfold l12_1 s12_1
    by_cases c : j = a.length
    · subst c
      rw [bifF (decide_eq_false (by omega)), if_pos (ext_gI hl hp)]
    · have hlt : j < a.length := by omega
      rw [bifT (decide_eq_true (by omega)), idx_nat, idx_nat, gI_get hlt, gI_get (by omega)]
      simp only [Option.bind_some]
      by_cases e : gI a j = gI b j
      · rw [e, bne_same]
        simp only [cond_false]
        rw [wrapI (x := (j : Int) + 1) (by omega) (by omega)]
        exact l12_eq a b hl hb k1 k2 n (j + 1) (by omega) (by omega) (fun i hi => by
          by_cases e2 : i = j
          · subst e2; exact e
          · exact hp i (by omega))
      · rw [bne_ne e, if_neg (fun h => e (by rw [h]))]
        rfl

theorem m12_eq (a b : List Int) (hb : a.length ≤ 4294967296) : m12 a b = some (decide (a = b)) := by
  unfold m12
  by_cases hl : a.length = b.length
  · rw [bifF (by simp; omega)]
    have := l12_eq a b hl hb (some true) (some false) FUEL 0 (by omega) (fuel_lt (by omega)) (by omega)
    simp only [Int.natCast_zero] at this
    rw [this]
    by_cases e : a = b
    · rw [if_pos e, decide_eq_true e]
    · rw [if_neg e, decide_eq_false e]
  · rw [bifT (by simp; omega), decide_eq_false (fun h => hl (by rw [h]))]

/-! ### Move -/

def mvU (u : List Int) (f t : Nat) (n : Int) : List Int := (u.set f (gI u f - n)).set t (gI (u.set f (gI u f - n)) t + n)

def moveS (S : List T35) (u : List Int) (f t n : Int) : List Int × Int × Unit :=
  if ¬ Valid S u ∨ n < 1 then ([], 1, ()) else if ¬ (In S f ∧ LeafP S f) ∨ ¬ (In S t ∧ LeafP S t) then ([], 4, ()) else
  if gI u f.toNat < n then ([], 22, ()) else (mvU u f.toNat t.toNat n, 0, ())

theorem mvU_len (u : List Int) (f t : Nat) (n : Int) : (mvU u f t n).length = u.length := by unfold mvU; simp

theorem mvU_get {u : List Int} {f t : Nat} {n : Int} (hf : f < u.length) (ht : t < u.length) (i : Nat) : gI (mvU u f t n) i = gI u i - (if i = f then n else 0) + (if i = t then n else 0) := by
  unfold mvU
  rw [gI_set (by simpa using ht), gI_set hf, gI_set hf]
  by_cases h1 : i = t
  · subst h1
    by_cases h2 : i = f
    · subst h2; simp
    · simp [h2]
  · by_cases h2 : i = f
    · subst h2; simp [h1]
    · simp [h1, h2]

theorem m10_eq (S : List T35) (u : List Int) (f t n : Int) : m10 S u f t n = some (moveS S u f t n) := by
  unfold m10 moveS
  rw [m26_eq]
  simp only [Option.bind_some]
  by_cases h1 : ¬ Valid S u ∨ n < 1
  · rw [if_pos h1, bifT]
    rcases h1 with h | h
    · simp [h]
    · simp [h]
  · have hv : Valid S u := Classical.byContradiction fun h => h1 (.inl h)
    have hn : ¬ n < 1 := fun h => h1 (.inr h)
    have hL := hv.hl
    have hul := hv.2.1
    rw [if_neg h1, bifF (by simp [hv, hn]), m27_eq S (by omega), m27_eq S (by omega)]
    simp only [Option.bind_some]
    by_cases hf : In S f ∧ LeafP S f
    · rw [decide_eq_true hf]
      simp only [Bool.not_true, beq_self_eq_true, cond_true, Option.bind_some, Bool.false_or]
      by_cases ht : In S t ∧ LeafP S t
      · rw [decide_eq_true ht, if_neg (by simp [hf, ht])]
        simp only [Bool.not_true, cond_false]
        obtain ⟨p, rfl⟩ : ∃ p : Nat, f = p := ⟨f.toNat, by have := hf.1.1; omega⟩
        obtain ⟨q, rfl⟩ : ∃ q : Nat, t = q := ⟨t.toNat, by have := ht.1.1; omega⟩
        have hp := hf.1.2
        have hq := ht.1.2
        have hnp := hv.nn (i := p) (by omega)
        have hnq := hv.nn (i := q) (by omega)
        have ep : ((p : Int)).toNat = p := by omega
        have eq : ((q : Int)).toNat = q := by omega
        rw [idx_nat, gI_get (by omega), ep, eq]
        simp only [Option.bind_some]
        by_cases hlt : gI u p < n
        · rw [if_pos hlt, bifT (decide_eq_true hlt)]
        · rw [if_neg hlt, bifF (decide_eq_false hlt), cloneM_eq (by omega)]
          simp only [Option.bind_some]
          have hset : (u.set p (gI u p - n)).length = u.length := by simp
          rw [asrtP (fun _ => by simp; omega), gI_get (by omega)]
          simp only [Option.bind_some]
          rw [asrtP (fun _ => by simp; omega)]
          rw [wrapI (x := gI u p - n) (by omega) (by omega)]
          have hg : gI (u.set p (gI u p - n)) q = if q = p then gI u p - n else gI u q := gI_set (by omega)
          rw [asrtP (fun _ => by simp; omega), gI_get (by omega)]
          simp only [Option.bind_some]
          rw [asrtP (fun _ => by simp; omega), wrapI (by rw [hg]; split <;> omega) (by rw [hg]; split <;> omega)]
          rfl
      · rw [decide_eq_false ht, if_pos (.inr ht)]
        rfl
    · rw [decide_eq_false hf, if_pos (.inl hf)]
      rfl

theorem m11_eq (S : List T35) (u : List Int) (hL : S.length ≤ 20000) (f t n : Int) : m11 S u f t n = some (moveS S u f t n) := by
  unfold m11 moveS
  rw [m23_eq S u hL]
  simp only [Option.bind_some]
  by_cases h1 : ¬ Valid S u ∨ n < 1
  · rw [if_pos h1, bifT]
    rcases h1 with h | h
    · simp [h]
    · simp [h]
  · have hv : Valid S u := Classical.byContradiction fun h => h1 (.inl h)
    have hn : ¬ n < 1 := fun h => h1 (.inr h)
    have hul := hv.2.1
    have lf : ∀ i, leafS S i = decide (In S i ∧ LeafP S i) := by
      intro i; unfold leafS; rw [decide_eq_decide]; exact ⟨fun h => h.2, fun h => ⟨hv.1, h⟩⟩
    rw [if_neg h1, bifF (by simp [hv, hn]), m20_eq S hL, m20_eq S hL, lf, lf]
    simp only [Option.bind_some]
    by_cases hf : In S f ∧ LeafP S f
    · rw [decide_eq_true hf]
      simp only [Bool.not_true, beq_self_eq_true, cond_true, Option.bind_some, Bool.false_or]
      by_cases ht : In S t ∧ LeafP S t
      · rw [decide_eq_true ht, if_neg (by simp [hf, ht])]
        simp only [Bool.not_true, cond_false]
        obtain ⟨p, rfl⟩ : ∃ p : Nat, f = p := ⟨f.toNat, by have := hf.1.1; omega⟩
        obtain ⟨q, rfl⟩ : ∃ q : Nat, t = q := ⟨t.toNat, by have := ht.1.1; omega⟩
        have hp := hf.1.2
        have hq := ht.1.2
        have hnp := hv.nn (i := p) (by omega)
        have hnq := hv.nn (i := q) (by omega)
        have ep : ((p : Int)).toNat = p := by omega
        have eq : ((q : Int)).toNat = q := by omega
        rw [idx_nat, gI_get (by omega), ep, eq]
        simp only [Option.bind_some]
        by_cases hlt : gI u p < n
        · rw [if_pos hlt, bifT (decide_eq_true hlt)]
        · rw [if_neg hlt, bifF (decide_eq_false hlt)]
          have hset : (u.set p (gI u p - n)).length = u.length := by simp
          rw [asrtP (fun _ => decide_eq_true (by unfold LIM; simp; omega)), List.nil_append]
          rw [asrtP (fun _ => by simp; omega), gI_get (by omega)]
          simp only [Option.bind_some]
          rw [asrtP (fun _ => by simp; omega)]
          rw [wrapI (x := gI u p - n) (by omega) (by omega)]
          have hg : gI (u.set p (gI u p - n)) q = if q = p then gI u p - n else gI u q := gI_set (by omega)
          rw [asrtP (fun _ => by simp; omega), gI_get (by omega)]
          simp only [Option.bind_some]
          rw [asrtP (fun _ => by simp; omega), wrapI (by rw [hg]; split <;> omega) (by rw [hg]; split <;> omega)]
          rfl
      · rw [decide_eq_false ht, if_pos (.inr ht)]
        rfl
    · rw [decide_eq_false hf, if_pos (.inl hf)]
      rfl

/-! ### The examples -/

theorem small : m8 = some true := by
  unfold m8 m25
  generalize hS : [((-1 : Int), (-1 : Int), ()), (0, -1, ()), (0, -1, ()), (1, -1, ()), (-1, -1, ())] = S
  have a1 : moveS S [0, 0, 5, 7, 2] 3 4 3 = ([0, 0, 5, 4, 5], 0, ()) := by subst hS; decide +kernel
  have a2 : (moveS S [0, 0, 5, 7, 2] 1 4 1).2.1 = 4 := by subst hS; decide +kernel
  have a3 : (moveS S [0, 0, 5, 7, 2] 3 4 8).2.1 = 22 := by subst hS; decide +kernel
  have b0 : heldS S [0, 0, 5, 7, 2] 0 = 12 := by subst hS; decide +kernel
  have b1 : heldS S [0, 0, 5, 7, 2] 1 = 7 := by subst hS; decide +kernel
  have b2 : heldS S [0, 0, 5, 7, 2] 2 = 5 := by subst hS; decide +kernel
  have b4 : heldS S [0, 0, 5, 7, 2] 4 = 2 := by subst hS; decide +kernel
  have c1 : levelS S 3 = 2 := by subst hS; decide +kernel
  have c2 : rootS S 3 = 0 := by subst hS; decide +kernel
  have c3 : decide (Right S) = true := by subst hS; decide +kernel
  have c4 : leafS S 2 = true := by subst hS; decide +kernel
  have c5 : m19 S 2 = some true := by rw [m19_eq S (by subst hS; decide), c4]
  have c6 : m12 [0, 0, 5, 4, 5] [0, 0, 5, 4, 5] = some true := by rw [m12_eq _ _ (by decide)]; rfl
  simp only [Option.bind_some, m10_eq, m21_eq, m15_eq, m17_eq, m13_eq, a1, a2, a3, b0, b1, b2, b4, c1, c2, c3, c5, c6, beq_self_eq_true, cond_true, Bool.and_self]

end Go.Proofs.Ytndflpanccagbaa
