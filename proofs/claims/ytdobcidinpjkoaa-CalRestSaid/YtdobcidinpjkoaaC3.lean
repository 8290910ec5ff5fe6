/- Calendars: which days are business days; walking. -/
import Derived.Test.YtdobcidinpjkoaaC2
namespace Go.Proofs.Ytdobcidinpjkoaa
open Go Go.Eng
set_option linter.unusedVariables false
set_option linter.unusedSimpArgs false

/-- Strictly ascending numbers from 0 to a greatest one. -/
def Asc (l : List Int) (most : Int) : Prop := ∀ i, i < l.length → 0 ≤ gI l i ∧ gI l i ≤ most ∧ (0 < i → gI l (i - 1) < gI l i)
instance (l : List Int) (most : Int) : Decidable (Asc l most) := by unfold Asc; infer_instance

theorem Asc.lt {l : List Int} {most : Int} (h : Asc l most) {i : Nat} : ∀ {j : Nat}, i < j → j < l.length → gI l i < gI l j
  | 0, h1, _ => by omega
  | j + 1, h1, h2 => by
    have h3 := (h (j + 1) h2).2.2 (by omega)
    simp only [Nat.add_sub_cancel] at h3
    by_cases e : i = j
    · subst e; exact h3
    · have := Asc.lt h (i := i) (j := j) (by omega) (by omega)
      omega

def RightC (c : T23) : Prop := List.length c.1 ≤ 6 ∧ List.length c.2.1 ≤ 4000 ∧ Asc c.1 6 ∧ Asc c.2.1 200000
instance (c : T23) : Decidable (RightC c) := by unfold RightC; infer_instance

theorem l27_eq {R : Type} (most : Int) (l : List Int) (hl : l.length ≤ 5000) (k1 k2 : Option R) : ∀ (n j : Nat) (a : Int), j ≤ l.length → l.length - j < n → (a = if j = 0 then -1 else gI l (j - 1)) → (∀ i, i < j → 0 ≤ gI l i ∧ gI l i ≤ most ∧ (0 < i → gI l (i - 1) < gI l i)) →
    l27_1 most l (l.length : Int) k1 k2 n a j = if Asc l most then k1 else k2
  | 0, j, a, _, h, _, _ => by omega
  | n + 1, j, a, hj, hn, ha, hp => by
    unfold l27_1 s27_1
    by_cases c : j = l.length
    · subst c
      rw [bifF (decide_eq_false (by omega)), if_pos (show Asc l most from hp)]
    · have hlt : j < l.length := by omega
      rw [bifT (decide_eq_true (by omega)), idx_nat, gI_get hlt]
      simp only [Option.bind_some]
      by_cases hok : 0 ≤ gI l j ∧ gI l j ≤ most ∧ (0 < j → gI l (j - 1) < gI l j)
      · have hlast : a < gI l j := by
          rw [ha]
          by_cases e : j = 0
          · rw [if_pos e]; omega
          · rw [if_neg e]; exact hok.2.2 (by omega)
        rw [bifF (by simp; omega), wrapI (x := (j : Int) + 1) (by omega) (by omega)]
        exact l27_eq most l hl k1 k2 n (j + 1) (gI l j) (by omega) (by omega) (by simp) (fun i hi => by
          by_cases e : i = j
          · subst e; exact hok
          · exact hp i (by omega))
      · rw [if_neg (fun h => hok (h j hlt)), bifT]
        simp only [Bool.or_eq_true, decide_eq_true_eq]
        by_cases e : j = 0
        · rw [if_pos e] at ha; omega
        · rw [if_neg e] at ha
          have := (hp (j - 1) (by omega)).1
          omega

theorem m27_eq (l : List Int) (hl : l.length ≤ 5000) (most : Int) : m27 l most = some (decide (Asc l most)) := by
  unfold m27
  have := l27_eq most l hl (some true) (some false) FUEL 0 (-1) (by omega) (fuel_lt (by omega)) (by simp) (by omega)
  simp only [Int.natCast_zero] at this
  rw [this]
  by_cases h : Asc l most
  · rw [if_pos h, decide_eq_true h]
  · rw [if_neg h, decide_eq_false h]

theorem l28_eq {R : Type} (most : Int) (l : List Int) (hl : l.length ≤ 5000) (k1 k2 : Option R) : ∀ (n j : Nat), j ≤ l.length → l.length - j < n → (∀ i, i < j → 0 ≤ gI l i ∧ gI l i ≤ most ∧ (0 < i → gI l (i - 1) < gI l i)) →
    l28_1 l most k1 k2 n j = if Asc l most then k1 else k2
  | 0, j, _, h, _ => by omega
  | n + 1, j, hj, hn, hp => by
    unfold l28_1 s28_1
    by_cases c : j = l.length
    · subst c
      rw [bifF (decide_eq_false (by omega)), if_pos (show Asc l most from hp)]
    · have hlt : j < l.length := by omega
      have ig : ∀ g : Bool, idxG g 0 l (j : Int) = some (bif g then gI l j else 0) := by
        intro g; unfold idxG; rw [idx_nat, gI_get hlt]; cases g <;> rfl
      have ip : ∀ g : Bool, (g = true → 0 < j) → idxG g 0 l (IntKind.i64.wrap ((j : Int) - 1)) = some (bif g then gI l (j - 1) else 0) := by
        intro g hg
        unfold idxG
        cases g with
        | false => rfl
        | true =>
          have := hg rfl
          rw [wrapI (by omega) (by omega), show (j : Int) - 1 = ((j - 1 : Nat) : Int) by omega, idx_nat, gI_get (by omega)]
          rfl
      rw [bifT (decide_eq_true (by omega)), idx_nat, gI_get hlt]
      simp only [Option.bind_some, ig]
      rw [ip _ (fun h => by
        simp only [Bool.and_eq_true, beq_iff_eq, decide_eq_true_eq] at h
        omega)]
      simp only [Option.bind_some]
      by_cases hok : 0 ≤ gI l j ∧ gI l j ≤ most ∧ (0 < j → gI l (j - 1) < gI l j)
      · rw [decide_eq_false (show ¬ gI l j < 0 by omega)]
        simp only [beq_self_eq_true, cond_true, Bool.false_or, Bool.true_and]
        rw [decide_eq_false (show ¬ gI l j > most by omega)]
        simp only [beq_self_eq_true, cond_true, Bool.false_or, Bool.true_and]
        have hlast : (decide ((j : Int) > 0) && decide ((bif decide ((j : Int) > 0) == true then gI l (j - 1) else 0) ≥ (bif decide ((j : Int) > 0) == true then gI l j else 0))) = false := by
          by_cases e : (j : Int) > 0
          · rw [decide_eq_true e]
            have := hok.2.2 (by omega)
            simp; omega
          · rw [decide_eq_false e]; rfl
        rw [hlast, wrapI (x := (j : Int) + 1) (by omega) (by omega)]
        exact l28_eq most l hl k1 k2 n (j + 1) (by omega) (by omega) (fun i hi => by
          by_cases e : i = j
          · subst e; exact hok
          · exact hp i (by omega))
      · rw [if_neg (fun h => hok (h j hlt)), bifT]
        by_cases c1 : gI l j < 0
        · simp [c1]
        · by_cases c2 : gI l j > most
          · simp [c1, c2]
          · have c3 : 0 < j ∧ ¬ gI l (j - 1) < gI l j := by
              by_cases c4 : 0 < j
              · exact ⟨c4, fun h => hok ⟨by omega, by omega, fun _ => h⟩⟩
              · exact absurd ⟨by omega, by omega, fun h => absurd h c4⟩ hok
            have e1 : decide ((j : Int) > 0) = true := decide_eq_true (by omega)
            have c4 := c3.1
            simp [c1, c2, e1, c4]
            omega

theorem m28_eq (l : List Int) (hl : l.length ≤ 5000) (most : Int) : m28 l most = some (decide (Asc l most)) := by
  unfold m28
  have := l28_eq most l hl (some true) (some false) FUEL 0 (by omega) (fuel_lt (by omega)) (by omega)
  simp only [Int.natCast_zero] at this
  rw [this]
  by_cases h : Asc l most
  · rw [if_pos h, decide_eq_true h]
  · rw [if_neg h, decide_eq_false h]

theorem m14_eq (c : T23) : m14 c = some (decide (RightC c)) := by
  unfold m14
  by_cases h1 : (List.length c.1 : Int) ≤ 6
  · by_cases h2 : (List.length c.2.1 : Int) ≤ 4000
    · rw [decide_eq_true h1, decide_eq_true h2, m27_eq _ (by omega), m27_eq _ (by omega)]
      by_cases h3 : Asc c.1 6
      · by_cases h4 : Asc c.2.1 200000
        · have hr : RightC c := ⟨by omega, by omega, h3, h4⟩
          rw [decide_eq_true h3, decide_eq_true h4, decide_eq_true hr]; rfl
        · rw [decide_eq_true h3, decide_eq_false h4, decide_eq_false (fun h : RightC c => h4 h.2.2.2)]; rfl
      · rw [decide_eq_false h3, decide_eq_false (fun h : RightC c => h3 h.2.2.1)]; rfl
    · rw [decide_eq_true h1, decide_eq_false h2, decide_eq_false (fun h : RightC c => h2 (by have := h.2.1; omega))]; rfl
  · rw [decide_eq_false h1, decide_eq_false (fun h : RightC c => h1 (by have := h.1; omega))]; rfl

theorem m15_eq (c : T23) : m15 c = some (decide (RightC c)) := by
  unfold m15
  by_cases h1 : (List.length c.1 : Int) ≤ 6
  · by_cases h2 : (List.length c.2.1 : Int) ≤ 4000
    · rw [decide_eq_true h1, decide_eq_true h2, m28_eq _ (by omega), m28_eq _ (by omega)]
      by_cases h3 : Asc c.1 6
      · by_cases h4 : Asc c.2.1 200000
        · have hr : RightC c := ⟨by omega, by omega, h3, h4⟩
          rw [decide_eq_true h3, decide_eq_true h4, decide_eq_true hr]; rfl
        · rw [decide_eq_true h3, decide_eq_false h4, decide_eq_false (fun h : RightC c => h4 h.2.2.2)]; rfl
      · rw [decide_eq_false h3, decide_eq_false (fun h : RightC c => h3 h.2.2.1)]; rfl
    · rw [decide_eq_true h1, decide_eq_false h2, decide_eq_false (fun h : RightC c => h2 (by have := h.2.1; omega))]; rfl
  · rw [decide_eq_false h1, decide_eq_false (fun h : RightC c => h1 (by have := h.1; omega))]; rfl

/-! ### Is a number in a list? -/

def Has (l : List Int) (x : Int) : Prop := ∃ i, i < l.length ∧ gI l i = x

theorem has_mem (l : List Int) (x : Int) : Has l x ↔ x ∈ l := by
  constructor
  · rintro ⟨i, hi, rfl⟩
    have := gI_get hi
    exact List.mem_of_getElem? this
  · intro h
    obtain ⟨i, hi⟩ := List.getElem?_of_mem h
    have hl := (List.getElem?_eq_some_iff.1 hi).1
    rw [gI_get hl] at hi
    exact ⟨i, hl, Option.some.inj hi⟩

theorem m43_eq (a b : Int) : m43 a b = some (decide (a < b)) := by
  unfold m43 m47
  simp

theorem m44_eq (a : Int) : m44 a = some false := by
  unfold m44
  simp

theorem half (i j : Nat) (h : i < j) (hj : j ≤ 1000000) : IntKind.i64.wrap (shr2 (IntKind.u64.wrap (IntKind.i64.wrap ((i : Int) + (j : Int)))) 1) = (((i + j) / 2 : Nat) : Int) := by
  rw [wrapI (x := (i : Int) + j) (by omega) (by omega)]
  have e : IntKind.u64.wrap ((i : Int) + j) = (i : Int) + j := by rw [IntKind.wrap_u64]; omega
  rw [e]
  unfold shr2
  have e2 : ((i : Int) + (j : Int)).fdiv (2 ^ 1) = (((i + j) / 2 : Nat) : Int) := by
    rw [Int.fdiv_eq_ediv_of_nonneg _ (by decide)]
    omega
  rw [e2, wrapI (by omega) (by omega)]

theorem l38_eq {R : Type} (l : List Int) (hl : l.length ≤ 5000) (most : Int) (hA : Asc l most) (x : Int) (k : Int → Option R) : ∀ (n i j : Nat), i ≤ j → j ≤ l.length → j - i < n → (∀ q, q < i → gI l q < x) → (∀ q, j ≤ q → q < l.length → x ≤ gI l q) →
    ∃ p : Nat, p ≤ l.length ∧ (∀ q, q < p → gI l q < x) ∧ (∀ q, p ≤ q → q < l.length → x ≤ gI l q) ∧ l38_1 l x k n i j = k p
  | 0, i, j, _, _, h, _, _ => by omega
  | n + 1, i, j, hij, hj, hn, h1, h2 => by
    unfold l38_1 s38_1
    by_cases c : i < j
    · rw [bifT (decide_eq_true (by omega)), half i j c (by omega)]
      have hm : (i + j) / 2 < l.length := by omega
      rw [idx_nat, gI_get hm]
      simp only [Option.bind_some, m43_eq]
      by_cases hlt : gI l ((i + j) / 2) < x
      · rw [decide_eq_true hlt, bifT rfl, wrapI (by omega) (by omega)]
        have := l38_eq l hl most hA x k n ((i + j) / 2 + 1) j (by omega) hj (by omega) (fun q hq => by
          rcases Nat.lt_or_ge q ((i + j) / 2) with c2 | c2
          · have := hA.lt c2 hm; omega
          · have : q = (i + j) / 2 := by omega
            subst this; exact hlt) h2
        simpa using this
      · rw [decide_eq_false hlt, bifF rfl]
        exact l38_eq l hl most hA x k n i ((i + j) / 2) (by omega) (by omega) (by omega) h1 (fun q hq hq2 => by
          rcases Nat.lt_or_ge ((i + j) / 2) q with c2 | c2
          · have := hA.lt c2 hq2; omega
          · have : q = (i + j) / 2 := by omega
            subst this; omega)
    · have : i = j := by omega
      subst this
      rw [bifF (decide_eq_false (by omega))]
      exact ⟨i, hj, h1, h2, rfl⟩

theorem m38_eq (l : List Int) (hl : l.length ≤ 5000) (most : Int) (hA : Asc l most) (x : Int) : ∃ p : Nat, p ≤ l.length ∧ (∀ q, q < p → gI l q < x) ∧ (∀ q, p ≤ q → q < l.length → x ≤ gI l q) ∧ m38 l x = some ((p : Int), decide (x ∈ l), ()) := by
  unfold m38
  obtain ⟨p, p1, p2, p3, p4⟩ := l38_eq l hl most hA x (fun y3 => (idxG ((decide (y3 < (List.length l : Int))) == true) 0 l y3).bind fun x4 =>
      (idxG (((decide (y3 < (List.length l : Int))) == true) && ((x4 == x) == false)) 0 l y3).bind fun x5 =>
      (bif (((decide (y3 < (List.length l : Int))) == true) && ((x4 == x) == false)) then (m44 x5) else some false).bind fun r6 =>
      (bif ((((decide (y3 < (List.length l : Int))) == true) && ((x4 == x) == false)) && (r6 == true)) then (m44 x) else some false).bind fun r7 =>
      some ((y3, ((decide (y3 < (List.length l : Int))) && ((x4 == x) || (r6 && r7))), ()) : Int × Bool × Unit)) FUEL 0 l.length (by omega) (by omega) (fuel_lt (by omega)) (by omega) (by omega)
  simp only [Int.natCast_zero] at p4
  refine ⟨p, p1, p2, p3, ?_⟩
  rw [p4]
  have hm : x ∈ l ↔ p < l.length ∧ gI l p = x := by
    rw [← has_mem]
    constructor
    · rintro ⟨i, hi, e⟩
      rcases Nat.lt_trichotomy i p with c | c | c
      · have := p2 i c; omega
      · subst c; exact ⟨hi, e⟩
      · have := hA.lt c hi
        have := p3 p (by omega) (by omega)
        omega
    · rintro ⟨h1, h2⟩; exact ⟨p, h1, h2⟩
  by_cases c : p < l.length
  · have ig : ∀ g : Bool, idxG g 0 l (p : Int) = some (bif g then gI l p else 0) := by
      intro g; unfold idxG; rw [idx_nat, gI_get c]; cases g <;> rfl
    rw [decide_eq_true (show (p : Int) < l.length by omega)]
    simp only [ig, Option.bind_some, beq_self_eq_true, cond_true, m44_eq, bind_guard]
    have : (gI l p == x) = decide (x ∈ l) := by
      rw [Bool.eq_iff_iff, beq_iff_eq, decide_eq_true_eq, hm]
      exact ⟨fun h => ⟨c, h⟩, fun h => h.2⟩
    rw [← this]
    simp
  · rw [decide_eq_false (show ¬ (p : Int) < l.length by omega), decide_eq_false (fun h => c (hm.1 h).1)]
    rfl

theorem l45_eq {R : Type} (l : List Int) (hl : l.length ≤ 5000) (x : Int) (k1 : Option R) (k2 : Int → Option R) : ∀ (n j : Nat), j ≤ l.length → l.length - j < n → (∀ i, i < j → gI l i ≠ x) →
    (x ∉ l → l45_1 l x (l.length : Int) k1 k2 n j = k1) ∧ (x ∈ l → ∃ i : Nat, l45_1 l x (l.length : Int) k1 k2 n j = k2 i)
  | 0, j, _, h, _ => by omega
  | n + 1, j, hj, hn, hp => by
    unfold l45_1 s45_1
    by_cases c : j = l.length
    · subst c
      rw [bifF (decide_eq_false (by omega))]
      exact ⟨fun _ => rfl, fun h => by obtain ⟨i, h1, h2⟩ := (has_mem l x).2 h; exact absurd h2 (hp i h1)⟩
    · have hlt : j < l.length := by omega
      rw [bifT (decide_eq_true (by omega)), idx_nat, gI_get hlt]
      simp only [Option.bind_some]
      by_cases h : gI l j = x
      · rw [bifT (beq_iff_eq.2 h.symm)]
        exact ⟨fun hne => absurd ((has_mem l x).1 ⟨j, hlt, h⟩) hne, fun _ => ⟨j, rfl⟩⟩
      · rw [bifF (beq_eq_false_iff_ne.2 (fun e => h e.symm)), wrapI (x := (j : Int) + 1) (by omega) (by omega)]
        exact l45_eq l hl x k1 k2 n (j + 1) (by omega) (by omega) (fun i hi => by
          by_cases e : i = j
          · subst e; exact h
          · exact hp i (by omega))

theorem m39_eq (l : List Int) (hl : l.length ≤ 5000) (x : Int) : m39 l x = some (decide (x ∈ l)) := by
  unfold m39 m45
  obtain ⟨h1, h2⟩ := l45_eq l hl x (some (-1)) (fun y2 => some y2) FUEL 0 (by omega) (fuel_lt (by omega)) (by omega)
  simp only [Int.natCast_zero] at h1 h2
  by_cases h : x ∈ l
  · obtain ⟨i, e⟩ := h2 h
    rw [e, decide_eq_true h]
    simp only [Option.bind_some]
    rw [decide_eq_true (by omega)]
  · rw [h1 h, decide_eq_false h]
    rfl

theorem l31_eq {R : Type} (l : List Int) (hl : l.length ≤ 5000) (x : Int) (k1 k2 : Option R) : ∀ (n j : Nat), j ≤ l.length → l.length - j < n → (∀ i, i < j → gI l i ≠ x) →
    l31_1 l x k1 k2 n j = if x ∈ l then k2 else k1
  | 0, j, _, h, _ => by omega
  | n + 1, j, hj, hn, hp => by
    unfold l31_1 s31_1
    by_cases c : j = l.length
    · subst c
      rw [bifF (decide_eq_false (by omega)), if_neg]
      intro h
      obtain ⟨i, h1, h2⟩ := (has_mem l x).2 h
      exact absurd h2 (hp i h1)
    · have hlt : j < l.length := by omega
      rw [bifT (decide_eq_true (by omega)), idx_nat, gI_get hlt]
      simp only [Option.bind_some]
      by_cases h : gI l j = x
      · rw [bifT (beq_iff_eq.2 h), if_pos ((has_mem l x).1 ⟨j, hlt, h⟩)]
      · rw [bifF (beq_eq_false_iff_ne.2 h), wrapI (x := (j : Int) + 1) (by omega) (by omega)]
        exact l31_eq l hl x k1 k2 n (j + 1) (by omega) (by omega) (fun i hi => by
          by_cases e : i = j
          · subst e; exact h
          · exact hp i (by omega))

theorem m31_eq (l : List Int) (hl : l.length ≤ 5000) (x : Int) : m31 l x = some (decide (x ∈ l)) := by
  unfold m31
  have := l31_eq l hl x (some false) (some true) FUEL 0 (by omega) (fuel_lt (by omega)) (by omega)
  simp only [Int.natCast_zero] at this
  rw [this]
  by_cases h : x ∈ l
  · rw [if_pos h, decide_eq_true h]
  · rw [if_neg h, decide_eq_false h]

/-- A business day. -/
def op (c : T23) (d : Int) : Bool := !(decide (d ∈ (show List Int from c.2.1))) && !(decide (d % 7 ∈ (show List Int from c.1)))

theorem m30_eq (c : T23) (hr : RightC c) (d : Int) (hd : 0 ≤ d) : m30 c d = some (op c d) := by
  unfold m30 op
  have h1 := hr.1
  have h2 := hr.2.1
  obtain ⟨p, _, _, _, e⟩ := m38_eq c.2.1 (by omega) 200000 hr.2.2.2 d
  rw [e, tmod_pos _ hd, m39_eq _ (by omega)]
  simp only [Option.bind_some, asrtT, bind_guard]
  by_cases h : d ∈ c.2.1
  · rw [decide_eq_true h]; rfl
  · rw [decide_eq_false h]; rfl

theorem m29_eq (d : Int) : m29 d = some (decide (0 ≤ d ∧ d ≤ 200000)) := by
  unfold m29
  by_cases h1 : 0 ≤ d <;> by_cases h2 : d ≤ 200000 <;> simp [h1, h2]
theorem m25_eq (d : Int) : m25 d = some (decide (0 ≤ d ∧ d ≤ 200000)) := by
  unfold m25
  by_cases h1 : 0 ≤ d <;> by_cases h2 : d ≤ 200000 <;> simp [h1, h2]

def Dy (d : Int) : Prop := 0 ≤ d ∧ d ≤ 200000
instance (d : Int) : Decidable (Dy d) := by unfold Dy; infer_instance

def busS (c : T23) (d : Int) : Bool := decide (RightC c) && decide (Dy d) && op c d

theorem m16_eq (c : T23) (d : Int) : m16 c d = some (busS c d) := by
  unfold m16 busS
  rw [m14_eq, m29_eq]
  by_cases hr : RightC c
  · rw [decide_eq_true hr]
    by_cases hd : 0 ≤ d ∧ d ≤ 200000
    · rw [decide_eq_true hd, m30_eq c hr d hd.1, decide_eq_true (show Dy d from hd)]; rfl
    · rw [decide_eq_false hd, decide_eq_false (show ¬ Dy d from hd)]; rfl
  · rw [decide_eq_false hr]; rfl

theorem m17_eq (c : T23) (d : Int) : m17 c d = some (busS c d) := by
  unfold m17 busS
  rw [m15_eq, m25_eq]
  by_cases hr : RightC c
  · rw [decide_eq_true hr]
    by_cases hd : 0 ≤ d ∧ d ≤ 200000
    · have h1 := hr.1
      have h2 := hr.2.1
      rw [decide_eq_true hd, m31_eq _ (by omega), m31_eq _ (by omega), tmod_pos _ hd.1, decide_eq_true (show Dy d from hd)]
      simp only [Option.bind_some, bind_guard, asrtT, beq_self_eq_true, cond_true, Bool.true_and, Bool.and_self]
      unfold op
      by_cases g1 : d % 7 ∈ c.1 <;> by_cases g2 : d ∈ c.2.1 <;> simp [g1, g2]
    · rw [decide_eq_false hd, decide_eq_false (show ¬ Dy d from hd)]
      simp [asrt]
  · rw [decide_eq_false hr]
    simp [asrt]

end Go.Proofs.Ytdobcidinpjkoaa
