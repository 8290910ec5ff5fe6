/- Lemmas over models (carried over from another seat). -/
import Derived.Test.YtophafggfmhooaaS2
namespace Go.Proofs.Ytophafggfmhooaa
open Go Go.Eng
set_option linter.unusedVariables false
set_option linter.unusedSimpArgs false

/-- Strictly ascending numbers from 0 to a greatest one. -/
def Asc (l : List Int) (most : Int) : Prop := ∀ i, i < l.length → 0 ≤ gI l i ∧ gI l i ≤ most ∧ (0 < i → gI l (i - 1) < gI l i)

instance (l : List Int) (most : Int) : Decidable (Asc l most) := by unfold Asc; infer_instance

theorem Asc.lt {l : List Int} {most : Int} (h : Asc l most) {i : Nat} : ∀ {j : Nat}, i < j → j < l.length → gI l i < gI l j
  | 0, h1, _ => by omega
  | j + 1, h1, h2 => by
    have h3 := (h (j + 1) h2).2.2 (by omega)
    simp only [Nat.add_sub_cancel] at h3
    by_cases e : i = j
    · subst e; exact h3
    · have := Asc.lt h (i := i) (j := j) (by omega) (by omega)
      omega

def RightC (c : T32) : Prop := List.length c.1 ≤ 6 ∧ List.length c.2.1 ≤ 4000 ∧ Asc c.1 6 ∧ Asc c.2.1 200000

instance (c : T32) : Decidable (RightC c) := by unfold RightC; infer_instance

theorem l44_eq {R : Type} (most : Int) (l : List Int) (hl : l.length ≤ 5000) (k1 k2 : Option R) : ∀ (n j : Nat) (a : Int), j ≤ l.length → l.length - j < n → (a = if j = 0 then -1 else gI l (j - 1)) → (∀ i, i < j → 0 ≤ gI l i ∧ gI l i ≤ most ∧ (0 < i → gI l (i - 1) < gI l i)) →
    l44_1 most l (l.length : Int) k1 k2 n a j = if Asc l most then k1 else k2
  | 0, j, a, _, h, _, _ => by omega
  | n + 1, j, a, hj, hn, ha, hp => by
    unfold l44_1 s44_1
    by_cases c : j = l.length
    · subst c
      rw [bifF (decide_eq_false (by omega)), if_pos (show Asc l most from hp)]
    · have hlt : j < l.length := by omega
      rw [bifT (decide_eq_true (by omega)), idx_nat, gI_get hlt]
      simp only [Option.bind_some]
      by_cases hok : 0 ≤ gI l j ∧ gI l j ≤ most ∧ (0 < j → gI l (j - 1) < gI l j)
      · have hlast : a < gI l j := by
          rw [ha]
          by_cases e : j = 0
          · rw [if_pos e]; omega
          · rw [if_neg e]; exact hok.2.2 (by omega)
        rw [bifF (by simp; omega), wrapI (x := (j : Int) + 1) (by omega) (by omega)]
        exact l44_eq most l hl k1 k2 n (j + 1) (gI l j) (by omega) (by omega) (by simp) (fun i hi => by
          by_cases e : i = j
          · subst e; exact hok
          · exact hp i (by omega))
      · rw [if_neg (fun h => hok (h j hlt)), bifT]
        simp only [Bool.or_eq_true, decide_eq_true_eq]
        by_cases e : j = 0
        · rw [if_pos e] at ha; omega
        · rw [if_neg e] at ha
          have := (hp (j - 1) (by omega)).1
          omega

theorem m44_eq (l : List Int) (hl : l.length ≤ 5000) (most : Int) : m44 l most = some (decide (Asc l most)) := by
  unfold m44
  have := l44_eq most l hl (some true) (some false) FUEL 0 (-1) (by omega) (fuel_lt (by omega)) (by simp) (by omega)
  simp only [Int.natCast_zero] at this
  rw [this]
  by_cases h : Asc l most
  · rw [if_pos h, decide_eq_true h]
  · rw [if_neg h, decide_eq_false h]

theorem l47_eq {R : Type} (most : Int) (l : List Int) (hl : l.length ≤ 5000) (k1 k2 : Option R) : ∀ (n j : Nat), j ≤ l.length → l.length - j < n → (∀ i, i < j → 0 ≤ gI l i ∧ gI l i ≤ most ∧ (0 < i → gI l (i - 1) < gI l i)) →
    l47_1 l most k1 k2 n j = if Asc l most then k1 else k2
  | 0, j, _, h, _ => by omega
  | n + 1, j, hj, hn, hp => by
    unfold l47_1 s47_1
    by_cases c : j = l.length
    · subst c
      rw [bifF (decide_eq_false (by omega)), if_pos (show Asc l most from hp)]
    · have hlt : j < l.length := by omega
      have ig : ∀ g : Bool, idxG g 0 l (j : Int) = some (bif g then gI l j else 0) := by
        intro g; unfold idxG; rw [idx_nat, gI_get hlt]; cases g <;> rfl
      have ip : ∀ g : Bool, (g = true → 0 < j) → idxG g 0 l (IntKind.i64.wrap ((j : Int) - 1)) = some (bif g then gI l (j - 1) else 0) := by
        intro g hg
        unfold idxG
        cases g with
        | false => rfl
        | true =>
          have := hg rfl
          rw [wrapI (by omega) (by omega), show (j : Int) - 1 = ((j - 1 : Nat) : Int) by omega, idx_nat, gI_get (by omega)]
          rfl
      rw [bifT (decide_eq_true (by omega)), idx_nat, gI_get hlt]
      simp only [Option.bind_some, ig]
      rw [ip _ (fun h => by
        simp only [Bool.and_eq_true, beq_iff_eq, decide_eq_true_eq] at h
        omega)]
      simp only [Option.bind_some]
      by_cases hok : 0 ≤ gI l j ∧ gI l j ≤ most ∧ (0 < j → gI l (j - 1) < gI l j)
      · rw [decide_eq_false (show ¬ gI l j < 0 by omega)]
        simp only [beq_self_eq_true, cond_true, Bool.false_or, Bool.true_and]
        rw [decide_eq_false (show ¬ gI l j > most by omega)]
        simp only [beq_self_eq_true, cond_true, Bool.false_or, Bool.true_and]
        have hlast : (decide ((j : Int) > 0) && decide ((bif decide ((j : Int) > 0) == true then gI l (j - 1) else 0) ≥ (bif decide ((j : Int) > 0) == true then gI l j else 0))) = false := by
          by_cases e : (j : Int) > 0
          · rw [decide_eq_true e]
            have := hok.2.2 (by omega)
            simp; omega
          · rw [decide_eq_false e]; rfl
        rw [hlast, wrapI (x := (j : Int) + 1) (by omega) (by omega)]
        exact l47_eq most l hl k1 k2 n (j + 1) (by omega) (by omega) (fun i hi => by
          by_cases e : i = j
          · subst e; exact hok
          · exact hp i (by omega))
      · rw [if_neg (fun h => hok (h j hlt)), bifT]
        by_cases c1 : gI l j < 0
        · simp [c1]
        · by_cases c2 : gI l j > most
          · simp [c1, c2]
          · have c3 : 0 < j ∧ ¬ gI l (j - 1) < gI l j := by
              by_cases c4 : 0 < j
              · exact ⟨c4, fun h => hok ⟨by omega, by omega, fun _ => h⟩⟩
              · exact absurd ⟨by omega, by omega, fun h => absurd h c4⟩ hok
            have e1 : decide ((j : Int) > 0) = true := decide_eq_true (by omega)
            have c4 := c3.1
            simp [c1, c2, e1, c4]
            omega

theorem m47_eq (l : List Int) (hl : l.length ≤ 5000) (most : Int) : m47 l most = some (decide (Asc l most)) := by
  unfold m47
  have := l47_eq most l hl (some true) (some false) FUEL 0 (by omega) (fuel_lt (by omega)) (by omega)
  simp only [Int.natCast_zero] at this
  rw [this]
  by_cases h : Asc l most
  · rw [if_pos h, decide_eq_true h]
  · rw [if_neg h, decide_eq_false h]

theorem m27_eq (c : T32) : m27 c = some (decide (RightC c)) := by
  unfold m27
  by_cases h1 : (List.length c.1 : Int) ≤ 6
  · by_cases h2 : (List.length c.2.1 : Int) ≤ 4000
    · rw [decide_eq_true h1, decide_eq_true h2, m44_eq _ (by omega), m44_eq _ (by omega)]
      by_cases h3 : Asc c.1 6
      · by_cases h4 : Asc c.2.1 200000
        · have hr : RightC c := ⟨by omega, by omega, h3, h4⟩
          rw [decide_eq_true h3, decide_eq_true h4, decide_eq_true hr]; rfl
        · rw [decide_eq_true h3, decide_eq_false h4, decide_eq_false (fun h : RightC c => h4 h.2.2.2)]; rfl
      · rw [decide_eq_false h3, decide_eq_false (fun h : RightC c => h3 h.2.2.1)]; rfl
    · rw [decide_eq_true h1, decide_eq_false h2, decide_eq_false (fun h : RightC c => h2 (by have := h.2.1; omega))]; rfl
  · rw [decide_eq_false h1, decide_eq_false (fun h : RightC c => h1 (by have := h.1; omega))]; rfl

theorem m31_eq (c : T32) : m31 c = some (decide (RightC c)) := by
  unfold m31
  by_cases h1 : (List.length c.1 : Int) ≤ 6
  · by_cases h2 : (List.length c.2.1 : Int) ≤ 4000
    · rw [decide_eq_true h1, decide_eq_true h2, m47_eq _ (by omega), m47_eq _ (by omega)]
      by_cases h3 : Asc c.1 6
      · by_cases h4 : Asc c.2.1 200000
        · have hr : RightC c := ⟨by omega, by omega, h3, h4⟩
          rw [decide_eq_true h3, decide_eq_true h4, decide_eq_true hr]; rfl
        · rw [decide_eq_true h3, decide_eq_false h4, decide_eq_false (fun h : RightC c => h4 h.2.2.2)]; rfl
      · rw [decide_eq_false h3, decide_eq_false (fun h : RightC c => h3 h.2.2.1)]; rfl
    · rw [decide_eq_true h1, decide_eq_false h2, decide_eq_false (fun h : RightC c => h2 (by have := h.2.1; omega))]; rfl
  · rw [decide_eq_false h1, decide_eq_false (fun h : RightC c => h1 (by have := h.1; omega))]; rfl

def Has (l : List Int) (x : Int) : Prop := ∃ i, i < l.length ∧ gI l i = x

theorem has_mem (l : List Int) (x : Int) : Has l x ↔ x ∈ l := by
  constructor
  · rintro ⟨i, hi, rfl⟩
    have := gI_get hi
    exact List.mem_of_getElem? this
  · intro h
    obtain ⟨i, hi⟩ := List.getElem?_of_mem h
    have hl := (List.getElem?_eq_some_iff.1 hi).1
    rw [gI_get hl] at hi
    exact ⟨i, hl, Option.some.inj hi⟩

theorem m58_eq (a b : Int) : m58 a b = some (decide (a < b)) := by
  unfold m58 m63
  simp

theorem m59_eq (a : Int) : m59 a = some false := by
  unfold m59
  simp

theorem half (i j : Nat) (h : i < j) (hj : j ≤ 1000000) : IntKind.i64.wrap (shr2 (IntKind.u64.wrap (IntKind.i64.wrap ((i : Int) + (j : Int)))) 1) = (((i + j) / 2 : Nat) : Int) := by
  rw [wrapI (x := (i : Int) + j) (by omega) (by omega)]
  have e : IntKind.u64.wrap ((i : Int) + j) = (i : Int) + j := by rw [IntKind.wrap_u64]; omega
  rw [e]
  unfold shr2
  have e2 : ((i : Int) + (j : Int)).fdiv (2 ^ 1) = (((i + j) / 2 : Nat) : Int) := by
    rw [Int.fdiv_eq_ediv_of_nonneg _ (by decide)]
    omega
  rw [e2, wrapI (by omega) (by omega)]

theorem l52_eq {R : Type} (l : List Int) (hl : l.length ≤ 5000) (most : Int) (hA : Asc l most) (x : Int) (k : Int → Option R) : ∀ (n i j : Nat), i ≤ j → j ≤ l.length → j - i < n → (∀ q, q < i → gI l q < x) → (∀ q, j ≤ q → q < l.length → x ≤ gI l q) →
    ∃ p : Nat, p ≤ l.length ∧ (∀ q, q < p → gI l q < x) ∧ (∀ q, p ≤ q → q < l.length → x ≤ gI l q) ∧ l52_1 l x k n i j = k p
  | 0, i, j, _, _, h, _, _ => by omega
  | n + 1, i, j, hij, hj, hn, h1, h2 => by
    unfold l52_1 s52_1
    by_cases c : i < j
    · rw [bifT (decide_eq_true (by omega)), half i j c (by omega)]
      have hm : (i + j) / 2 < l.length := by omega
      rw [idx_nat, gI_get hm]
      simp only [Option.bind_some, m58_eq]
      by_cases hlt : gI l ((i + j) / 2) < x
      · rw [decide_eq_true hlt, bifT rfl, wrapI (by omega) (by omega)]
        have := l52_eq l hl most hA x k n ((i + j) / 2 + 1) j (by omega) hj (by omega) (fun q hq => by
          rcases Nat.lt_or_ge q ((i + j) / 2) with c2 | c2
          · have := hA.lt c2 hm; omega
          · have : q = (i + j) / 2 := by omega
            subst this; exact hlt) h2
        simpa using this
      · rw [decide_eq_false hlt, bifF rfl]
        exact l52_eq l hl most hA x k n i ((i + j) / 2) (by omega) (by omega) (by omega) h1 (fun q hq hq2 => by
          rcases Nat.lt_or_ge ((i + j) / 2) q with c2 | c2
          · have := hA.lt c2 hq2; omega
          · have : q = (i + j) / 2 := by omega
            subst this; omega)
    · have : i = j := by omega
      subst this
      rw [bifF (decide_eq_false (by omega))]
      exact ⟨i, hj, h1, h2, rfl⟩

theorem m52_eq (l : List Int) (hl : l.length ≤ 5000) (most : Int) (hA : Asc l most) (x : Int) : ∃ p : Nat, p ≤ l.length ∧ (∀ q, q < p → gI l q < x) ∧ (∀ q, p ≤ q → q < l.length → x ≤ gI l q) ∧ m52 l x = some ((p : Int), decide (x ∈ l), ()) := by
  unfold m52
  obtain ⟨p, p1, p2, p3, p4⟩ := l52_eq l hl most hA x (fun y3 => (idxG ((decide (y3 < (List.length l : Int))) == true) 0 l y3).bind fun x4 =>
      (idxG (((decide (y3 < (List.length l : Int))) == true) && ((x4 == x) == false)) 0 l y3).bind fun x5 =>
      (bif (((decide (y3 < (List.length l : Int))) == true) && ((x4 == x) == false)) then (m59 x5) else some false).bind fun r6 =>
      (bif ((((decide (y3 < (List.length l : Int))) == true) && ((x4 == x) == false)) && (r6 == true)) then (m59 x) else some false).bind fun r7 =>
      some ((y3, ((decide (y3 < (List.length l : Int))) && ((x4 == x) || (r6 && r7))), ()) : Int × Bool × Unit)) FUEL 0 l.length (by omega) (by omega) (fuel_lt (by omega)) (by omega) (by omega)
  simp only [Int.natCast_zero] at p4
  refine ⟨p, p1, p2, p3, ?_⟩
  rw [p4]
  have hm : x ∈ l ↔ p < l.length ∧ gI l p = x := by
    rw [← has_mem]
    constructor
    · rintro ⟨i, hi, e⟩
      rcases Nat.lt_trichotomy i p with c | c | c
      · have := p2 i c; omega
      · subst c; exact ⟨hi, e⟩
      · have := hA.lt c hi
        have := p3 p (by omega) (by omega)
        omega
    · rintro ⟨h1, h2⟩; exact ⟨p, h1, h2⟩
  by_cases c : p < l.length
  · have ig : ∀ g : Bool, idxG g 0 l (p : Int) = some (bif g then gI l p else 0) := by
      intro g; unfold idxG; rw [idx_nat, gI_get c]; cases g <;> rfl
    rw [decide_eq_true (show (p : Int) < l.length by omega)]
    simp only [ig, Option.bind_some, beq_self_eq_true, cond_true, m59_eq, bind_guard]
    have : (gI l p == x) = decide (x ∈ l) := by
      rw [Bool.eq_iff_iff, beq_iff_eq, decide_eq_true_eq, hm]
      exact ⟨fun h => ⟨c, h⟩, fun h => h.2⟩
    rw [← this]
    simp
  · rw [decide_eq_false (show ¬ (p : Int) < l.length by omega), decide_eq_false (fun h => c (hm.1 h).1)]
    rfl

theorem l60_eq {R : Type} (l : List Int) (hl : l.length ≤ 5000) (x : Int) (k1 : Option R) (k2 : Int → Option R) : ∀ (n j : Nat), j ≤ l.length → l.length - j < n → (∀ i, i < j → gI l i ≠ x) →
    (x ∉ l → l60_1 l x (l.length : Int) k1 k2 n j = k1) ∧ (x ∈ l → ∃ i : Nat, l60_1 l x (l.length : Int) k1 k2 n j = k2 i)
  | 0, j, _, h, _ => by omega
  | n + 1, j, hj, hn, hp => by
    unfold l60_1 s60_1
    by_cases c : j = l.length
    · subst c
      rw [bifF (decide_eq_false (by omega))]
      exact ⟨fun _ => rfl, fun h => by obtain ⟨i, h1, h2⟩ := (has_mem l x).2 h; exact absurd h2 (hp i h1)⟩
    · have hlt : j < l.length := by omega
      rw [bifT (decide_eq_true (by omega)), idx_nat, gI_get hlt]
      simp only [Option.bind_some]
      by_cases h : gI l j = x
      · rw [bifT (beq_iff_eq.2 h.symm)]
        exact ⟨fun hne => absurd ((has_mem l x).1 ⟨j, hlt, h⟩) hne, fun _ => ⟨j, rfl⟩⟩
      · rw [bifF (beq_eq_false_iff_ne.2 (fun e => h e.symm)), wrapI (x := (j : Int) + 1) (by omega) (by omega)]
        exact l60_eq l hl x k1 k2 n (j + 1) (by omega) (by omega) (fun i hi => by
          by_cases e : i = j
          · subst e; exact h
          · exact hp i (by omega))

theorem m53_eq (l : List Int) (hl : l.length ≤ 5000) (x : Int) : m53 l x = some (decide (x ∈ l)) := by
  unfold m53 m60
  obtain ⟨h1, h2⟩ := l60_eq l hl x (some (-1)) (fun y2 => some y2) FUEL 0 (by omega) (fuel_lt (by omega)) (by omega)
  simp only [Int.natCast_zero] at h1 h2
  by_cases h : x ∈ l
  · obtain ⟨i, e⟩ := h2 h
    rw [e, decide_eq_true h]
    simp only [Option.bind_some]
    rw [decide_eq_true (by omega)]
  · rw [h1 h, decide_eq_false h]
    rfl

theorem l62_eq {R : Type} (l : List Int) (hl : l.length ≤ 5000) (x : Int) (k1 k2 : Option R) : ∀ (n j : Nat), j ≤ l.length → l.length - j < n → (∀ i, i < j → gI l i ≠ x) →
    l62_1 l x k1 k2 n j = if x ∈ l then k2 else k1
  | 0, j, _, h, _ => by omega
  | n + 1, j, hj, hn, hp => by
    unfold l62_1 s62_1
    by_cases c : j = l.length
    · subst c
      rw [bifF (decide_eq_false (by omega)), if_neg]
      intro h
      obtain ⟨i, h1, h2⟩ := (has_mem l x).2 h
      exact absurd h2 (hp i h1)
    · have hlt : j < l.length := by omega
      rw [bifT (decide_eq_true (by omega)), idx_nat, gI_get hlt]
      simp only [Option.bind_some]
      by_cases h : gI l j = x
      · rw [bifT (beq_iff_eq.2 h), if_pos ((has_mem l x).1 ⟨j, hlt, h⟩)]
      · rw [bifF (beq_eq_false_iff_ne.2 h), wrapI (x := (j : Int) + 1) (by omega) (by omega)]
        exact l62_eq l hl x k1 k2 n (j + 1) (by omega) (by omega) (fun i hi => by
          by_cases e : i = j
          · subst e; exact h
          · exact hp i (by omega))

theorem m62_eq (l : List Int) (hl : l.length ≤ 5000) (x : Int) : m62 l x = some (decide (x ∈ l)) := by
  unfold m62
  have := l62_eq l hl x (some false) (some true) FUEL 0 (by omega) (fuel_lt (by omega)) (by omega)
  simp only [Int.natCast_zero] at this
  rw [this]
  by_cases h : x ∈ l
  · rw [if_pos h, decide_eq_true h]
  · rw [if_neg h, decide_eq_false h]

/-- A business day. -/
def op (c : T32) (d : Int) : Bool := !(decide (d ∈ (show List Int from c.2.1))) && !(decide (d % 7 ∈ (show List Int from c.1)))

theorem m42_eq (c : T32) (hr : RightC c) (d : Int) (hd : 0 ≤ d) : m42 c d = some (op c d) := by
  unfold m42 op
  have h1 := hr.1
  have h2 := hr.2.1
  obtain ⟨p, _, _, _, e⟩ := m52_eq c.2.1 (by omega) 200000 hr.2.2.2 d
  rw [e, tmod_pos _ hd, m53_eq _ (by omega)]
  simp only [Option.bind_some, asrtT, bind_guard]
  by_cases h : d ∈ c.2.1
  · rw [decide_eq_true h]; rfl
  · rw [decide_eq_false h]; rfl

theorem m41_eq (d : Int) : m41 d = some (decide (0 ≤ d ∧ d ≤ 200000)) := by
  unfold m41
  by_cases h1 : 0 ≤ d <;> by_cases h2 : d ≤ 200000 <;> simp [h1, h2]

theorem m49_eq (d : Int) : m49 d = some (decide (0 ≤ d ∧ d ≤ 200000)) := by
  unfold m49
  by_cases h1 : 0 ≤ d <;> by_cases h2 : d ≤ 200000 <;> simp [h1, h2]

def Dy (d : Int) : Prop := 0 ≤ d ∧ d ≤ 200000

instance (d : Int) : Decidable (Dy d) := by unfold Dy; infer_instance

def busS (c : T32) (d : Int) : Bool := decide (RightC c) && decide (Dy d) && op c d

theorem m22_eq (c : T32) (d : Int) : m22 c d = some (busS c d) := by
  unfold m22 busS
  rw [m27_eq, m41_eq]
  by_cases hr : RightC c
  · rw [decide_eq_true hr]
    by_cases hd : 0 ≤ d ∧ d ≤ 200000
    · rw [decide_eq_true hd, m42_eq c hr d hd.1, decide_eq_true (show Dy d from hd)]; rfl
    · rw [decide_eq_false hd, decide_eq_false (show ¬ Dy d from hd)]; rfl
  · rw [decide_eq_false hr]; rfl

theorem m56_eq (c : T32) (d : Int) : m56 c d = some (busS c d) := by
  unfold m56 busS
  rw [m31_eq, m49_eq]
  by_cases hr : RightC c
  · rw [decide_eq_true hr]
    by_cases hd : 0 ≤ d ∧ d ≤ 200000
    · have h1 := hr.1
      have h2 := hr.2.1
      rw [decide_eq_true hd, m62_eq _ (by omega), m62_eq _ (by omega), tmod_pos _ hd.1, decide_eq_true (show Dy d from hd)]
      simp only [Option.bind_some, bind_guard, asrtT, beq_self_eq_true, cond_true, Bool.true_and, Bool.and_self]
      unfold op
      by_cases g1 : d % 7 ∈ c.1 <;> by_cases g2 : d ∈ c.2.1 <;> simp [g1, g2]
    · rw [decide_eq_false hd, decide_eq_false (show ¬ Dy d from hd)]
      simp [asrt]
  · rw [decide_eq_false hr]
    simp [asrt]

/-- The first business day from a day on. -/
def upN (c : T32) : Nat → Int → Int × Int × Unit
  | 0, _ => (0, 3, ())
  | n + 1, d => if op c d then (d, 0, ()) else upN c n (d + 1)

def up (c : T32) (d : Int) : Int × Int × Unit := upN c (200001 - d).toNat d

/-- The last business day up to a day. -/
def dnN (c : T32) : Nat → Int → Int × Int × Unit
  | 0, _ => (0, 3, ())
  | n + 1, d => if op c d then (d, 0, ()) else dnN c n (d - 1)

def dn (c : T32) (d : Int) : Int × Int × Unit := dnN c (d + 1).toNat d

theorem upN_spec (c : T32) : ∀ (n : Nat) (d : Int), (∃ x, upN c n d = (x, 0, ()) ∧ d ≤ x ∧ x < d + n ∧ op c x = true ∧ ∀ y, d ≤ y → y < x → op c y = false) ∨ (upN c n d = (0, 3, ()) ∧ ∀ y, d ≤ y → y < d + n → op c y = false)
  | 0, d => Or.inr ⟨rfl, fun y h1 h2 => by omega⟩
  | n + 1, d => by
    unfold upN
    by_cases h : op c d = true
    · rw [if_pos h]
      exact Or.inl ⟨d, rfl, by omega, by omega, h, fun y h1 h2 => by omega⟩
    · rw [if_neg h]
      have h' : op c d = false := by simpa using h
      rcases upN_spec c n (d + 1) with ⟨x, e, h1, h2, h3, h4⟩ | ⟨e, h1⟩
      · refine Or.inl ⟨x, e, by omega, by omega, h3, fun y g1 g2 => ?_⟩
        by_cases e : y = d
        · rw [e, h']
        · exact h4 y (by omega) g2
      · refine Or.inr ⟨e, fun y g1 g2 => ?_⟩
        by_cases e : y = d
        · rw [e, h']
        · exact h1 y (by omega) (by omega)

theorem dnN_spec (c : T32) : ∀ (n : Nat) (d : Int), (∃ x, dnN c n d = (x, 0, ()) ∧ x ≤ d ∧ d - n < x ∧ op c x = true ∧ ∀ y, x < y → y ≤ d → op c y = false) ∨ (dnN c n d = (0, 3, ()) ∧ ∀ y, d - n < y → y ≤ d → op c y = false)
  | 0, d => Or.inr ⟨rfl, fun y h1 h2 => by omega⟩
  | n + 1, d => by
    unfold dnN
    by_cases h : op c d = true
    · rw [if_pos h]
      exact Or.inl ⟨d, rfl, by omega, by omega, h, fun y h1 h2 => by omega⟩
    · rw [if_neg h]
      have h' : op c d = false := by simpa using h
      rcases dnN_spec c n (d - 1) with ⟨x, e, h1, h2, h3, h4⟩ | ⟨e, h1⟩
      · refine Or.inl ⟨x, e, by omega, by omega, h3, fun y g1 g2 => ?_⟩
        by_cases e : y = d
        · rw [e, h']
        · exact h4 y (by omega) (by omega)
      · refine Or.inr ⟨e, fun y g1 g2 => ?_⟩
        by_cases e : y = d
        · rw [e, h']
        · exact h1 y (by omega) (by omega)

/-- What the way up finds. -/
theorem up_spec (c : T32) (d : Int) : (∃ x, up c d = (x, 0, ()) ∧ d ≤ x ∧ x ≤ 200000 ∧ op c x = true ∧ ∀ y, d ≤ y → y < x → op c y = false) ∨ (up c d = (0, 3, ()) ∧ ∀ y, d ≤ y → y ≤ 200000 → op c y = false) := by
  rcases upN_spec c (200001 - d).toNat d with ⟨x, e, h1, h2, h3, h4⟩ | ⟨e, h⟩
  · exact Or.inl ⟨x, e, h1, by omega, h3, h4⟩
  · exact Or.inr ⟨e, fun y h1 h2 => h y h1 (by omega)⟩

theorem dn_spec (c : T32) (d : Int) : (∃ x, dn c d = (x, 0, ()) ∧ x ≤ d ∧ 0 ≤ x ∧ op c x = true ∧ ∀ y, x < y → y ≤ d → op c y = false) ∨ (dn c d = (0, 3, ()) ∧ ∀ y, 0 ≤ y → y ≤ d → op c y = false) := by
  rcases dnN_spec c (d + 1).toNat d with ⟨x, e, h1, h2, h3, h4⟩ | ⟨e, h⟩
  · exact Or.inl ⟨x, e, h1, by omega, h3, h4⟩
  · exact Or.inr ⟨e, fun y h1 h2 => h y (by omega) (by omega)⟩

theorem up_of {c : T32} {d x : Int} (h1 : d ≤ x) (h2 : x ≤ 200000) (h3 : op c x = true) (h4 : ∀ y, d ≤ y → y < x → op c y = false) : up c d = (x, 0, ()) := by
  rcases up_spec c d with ⟨z, e, g1, g2, g3, g4⟩ | ⟨e, g⟩
  · have : z = x := by
      by_cases c1 : z < x
      · have := h4 z g1 c1; simp_all
      · by_cases c2 : x < z
        · have := g4 x h1 c2; simp_all
        · omega
    rw [e, this]
  · have := g x h1 h2; simp_all

theorem dn_of {c : T32} {d x : Int} (h1 : x ≤ d) (h2 : 0 ≤ x) (h3 : op c x = true) (h4 : ∀ y, x < y → y ≤ d → op c y = false) : dn c d = (x, 0, ()) := by
  rcases dn_spec c d with ⟨z, e, g1, g2, g3, g4⟩ | ⟨e, g⟩
  · have : z = x := by
      by_cases c1 : x < z
      · have := h4 z c1 g1; simp_all
      · by_cases c2 : z < x
        · have := g4 x c2 h1; simp_all
        · omega
    rw [e, this]
  · have := g x h2 h1; simp_all

theorem l45_up {R : Type} (c : T32) (hr : RightC c) (k1 : Option R) (k2 : Int → Option R) : ∀ (n m : Nat) (d : Int), 0 ≤ d → (200001 - d).toNat = m → m < n →
    l45_1 1 c k1 k2 n d = bif (upN c m d).2.1 == 0 then k2 (upN c m d).1 else k1
  | 0, m, d, _, _, hm => by omega
  | n + 1, m, d, hd, he, hm => by
    unfold l45_1 s45_1
    rw [m41_eq]
    by_cases h : d ≤ 200000
    · rw [decide_eq_true ⟨hd, h⟩, m42_eq c hr d hd, wrapI (by omega) (by omega)]
      obtain ⟨m', rfl⟩ : ∃ m', m = m' + 1 := ⟨m - 1, by omega⟩
      unfold upN
      by_cases g : op c d = true
      · simp [g]
      · have g' : op c d = false := by simpa using g
        simp only [Option.bind_some, cond_true, g', cond_false, Bool.false_eq_true, if_false]
        exact l45_up c hr k1 k2 n m' (d + 1) (by omega) (by omega) (by omega)
    · rw [decide_eq_false (by omega)]
      have : m = 0 := by omega
      subst this
      rfl

theorem l45_dn {R : Type} (c : T32) (hr : RightC c) (k1 : Option R) (k2 : Int → Option R) : ∀ (n m : Nat) (d : Int), -1 ≤ d → d ≤ 200000 → (d + 1).toNat = m → m < n →
    l45_1 (-1) c k1 k2 n d = bif (dnN c m d).2.1 == 0 then k2 (dnN c m d).1 else k1
  | 0, m, d, _, _, _, hm => by omega
  | n + 1, m, d, hd0, hd, he, hm => by
    unfold l45_1 s45_1
    rw [m41_eq]
    by_cases h : 0 ≤ d
    · rw [decide_eq_true ⟨h, hd⟩, m42_eq c hr d h, wrapI (by omega) (by omega)]
      obtain ⟨m', rfl⟩ : ∃ m', m = m' + 1 := ⟨m - 1, by omega⟩
      unfold dnN
      by_cases g : op c d = true
      · simp [g]
      · have g' : op c d = false := by simpa using g
        simp only [Option.bind_some, cond_true, g', cond_false, Bool.false_eq_true, if_false]
        exact l45_dn c hr k1 k2 n m' (d - 1) (by omega) (by omega) (by omega) (by omega)
    · rw [decide_eq_false (by omega)]
      have : m = 0 := by omega
      subst this
      rfl

theorem m45_up (c : T32) (hr : RightC c) (d : Int) (h : 0 ≤ d) : m45 c d 1 = some (up c d) := by
  unfold m45
  have hF := FUEL_eq
  rw [l45_up c hr _ _ FUEL _ d h rfl (fuel_lt (by omega))]
  rcases up_spec c d with ⟨x, e, _⟩ | ⟨e, _⟩ <;> rw [show upN c (200001 - d).toNat d = up c d from rfl, e] <;> rfl

theorem m45_dn (c : T32) (hr : RightC c) (d : Int) (h0 : -1 ≤ d) (h : d ≤ 200000) : m45 c d (-1) = some (dn c d) := by
  unfold m45
  have hF := FUEL_eq
  rw [l45_dn c hr _ _ FUEL _ d h0 h rfl (fuel_lt (by omega))]
  rcases dn_spec c d with ⟨x, e, _⟩ | ⟨e, _⟩ <;> rw [show dnN c (d + 1).toNat d = dn c d from rfl, e] <;> rfl

theorem l50_eq {R : Type} (c : T32) (hr : RightC c) (s : Int) (k1 : Option R) (k2 : Int → Option R) : ∀ (n : Nat) (d : Int), l50_1 s c k1 k2 n d = l45_1 s c k1 k2 n d
  | 0, _ => rfl
  | n + 1, d => by
    unfold l50_1 l45_1 s50_1 s45_1
    rw [m49_eq, m41_eq, m56_eq]
    by_cases h : 0 ≤ d ∧ d ≤ 200000
    · rw [m42_eq c hr d h.1, show l50_1 s c k1 k2 n = l45_1 s c k1 k2 n from funext (l50_eq c hr s k1 k2 n)]
      unfold busS
      rw [decide_eq_true hr, decide_eq_true h, decide_eq_true (show Dy d from h)]
      simp only [Bool.true_and]
    · rw [decide_eq_false h]; rfl

theorem m50_eq (c : T32) (hr : RightC c) (d s : Int) : m50 c d s = m45 c d s := by
  unfold m50 m45
  rw [l50_eq c hr]

/-- Year and month of a day. -/
noncomputable def ym (d : Int) : Int × Int := match m19 d with | some r => (r.1, r.2.1) | none => (0, 0)

theorem m19_ym {d : Int} (h : Dy d) : ∃ dd, m19 d = some ((ym d).1, (ym d).2, dd, 0, ()) ∧ 1900 ≤ (ym d).1 ∧ (ym d).1 ≤ 2600 ∧ 1 ≤ (ym d).2 ∧ (ym d).2 ≤ 12 := by
  obtain ⟨y, M, dd, e, hi, _⟩ := m19_eq h.1 h.2
  have hy := hi.ys h.1 h.2
  have hM := hi.1
  unfold ym
  rw [e]
  exact ⟨dd, rfl, hy.1, hy.2, by simp only; omega, by simp only; omega⟩

noncomputable def mon (d : Int) : Int := 12 * (ym d).1 + (ym d).2

theorem m46_eq {d : Int} (h : Dy d) : m46 d = some (mon d) := by
  obtain ⟨dd, e, h1, h2, h3, h4⟩ := m19_ym h
  unfold m46 mon
  rw [e]
  simp only [Option.bind_some]
  rw [wrapI (x := 12 * (ym d).1) (by omega) (by omega), wrapI (by omega) (by omega)]

theorem mon_iff {a b : Int} (ha : Dy a) (hb : Dy b) : mon a = mon b ↔ (ym a).1 = (ym b).1 ∧ (ym a).2 = (ym b).2 := by
  obtain ⟨_, _, h1, h2, h3, h4⟩ := m19_ym ha
  obtain ⟨_, _, g1, g2, g3, g4⟩ := m19_ym hb
  unfold mon
  omega

/-- Where a day is moved. -/
noncomputable def adjS (c : T32) (d how : Int) : Int × Int × Unit :=
  if how = 0 then (d, 0, ()) else if how = 1 then up c d else if how = 2 ∧ (up c d).2.1 = 0 ∧ mon (up c d).1 = mon d then up c d else dn c d
noncomputable def adj (c : T32) (d how : Int) : Int × Int × Unit :=
  if RightC c ∧ Dy d ∧ 0 ≤ how ∧ how < 4 then adjS c d how else (0, 1, ())

theorem m28_eq (c : T32) (d how : Int) : m28 c d how = some (adj c d how) := by
  unfold m28 adj
  rw [m27_eq, m41_eq]
  by_cases hr : RightC c
  · rw [decide_eq_true hr]
    by_cases hd : Dy d
    · rw [decide_eq_true (show 0 ≤ d ∧ d ≤ 200000 from hd)]
      by_cases hh : 0 ≤ how ∧ how < 4
      · rw [if_pos ⟨hr, hd, hh⟩]
        have h1 : decide (how < 0) = false := decide_eq_false (by omega)
        have h2 : decide (how ≥ 4) = false := decide_eq_false (by omega)
        simp only [Option.bind_some, Bool.not_true, beq_self_eq_true, cond_true, h1, h2, Bool.or_false, cond_false, cont_eq]
        rw [m45_up c hr d hd.1, m45_dn c hr d (by have := hd.1; omega) hd.2]
        unfold adjS
        rcases (show how = 0 ∨ how = 1 ∨ how = 2 ∨ how = 3 by omega) with rfl | rfl | rfl | rfl
        · rfl
        · rfl
        · rcases up_spec c d with ⟨x, e, g1, g2, g3, g4⟩ | ⟨e, g⟩
          · rw [e]
            have hx : Dy x := ⟨by have := hd.1; omega, g2⟩
            simp only [Option.bind_some, beq_self_eq_true, cond_true, m46_eq hx, m46_eq hd, Bool.true_and]
            by_cases hm : mon x = mon d
            · simp [hm, cont]
            · have hb : (mon x == mon d) = false := by simpa using hm
              simp [hm, hb, cont]
          · rw [e]; rfl
        · rfl
      · rw [if_neg (fun h => hh h.2.2)]
        have : (decide (how < 0) || decide (how ≥ 4)) = true := by
          by_cases h1 : how < 0
          · simp [h1]
          · simp; omega
        simp only [Option.bind_some, Bool.not_true, beq_self_eq_true, cond_true, Bool.false_or, this]
    · rw [if_neg (fun h => hd h.2.1), decide_eq_false (show ¬ (0 ≤ d ∧ d ≤ 200000) from hd)]
      simp
  · rw [if_neg (fun h => hr h.1), decide_eq_false hr]
    simp

theorem m33_eq (c : T32) (d how : Int) : m33 c d how = some (adj c d how) := by
  unfold m33 adj
  rw [m31_eq, m49_eq]
  by_cases hr : RightC c
  · rw [decide_eq_true hr]
    by_cases hd : Dy d
    · rw [decide_eq_true (show 0 ≤ d ∧ d ≤ 200000 from hd)]
      by_cases hh : 0 ≤ how ∧ how < 4
      · rw [if_pos ⟨hr, hd, hh⟩]
        have h1 : decide (how < 0) = false := decide_eq_false (by omega)
        have h2 : decide (how ≥ 4) = false := decide_eq_false (by omega)
        simp only [Option.bind_some, Bool.not_true, beq_self_eq_true, cond_true, h1, h2, Bool.or_false, cond_false, cont_eq]
        simp only [m50_eq c hr, m51_eq]
        rw [m45_up c hr d hd.1, m45_dn c hr d (by have := hd.1; omega) hd.2]
        obtain ⟨dd, ed, _⟩ := m19_ym hd
        unfold adjS
        rcases up_spec c d with ⟨x, e, g1, g2, g3, g4⟩ | ⟨e, g⟩
        · rw [e]
          have hx : Dy x := ⟨by have := hd.1; omega, g2⟩
          obtain ⟨dx, ex, _⟩ := m19_ym hx
          have hm := mon_iff hx hd
          rcases (show how = 0 ∨ how = 1 ∨ how = 2 ∨ how = 3 by omega) with rfl | rfl | rfl | rfl
          · rfl
          · rfl
          · simp only [Option.bind_some, ed, ex]
            by_cases q1 : (ym x).1 = (ym d).1
            · by_cases q2 : (ym x).2 = (ym d).2
              · simp [hm.2 ⟨q1, q2⟩, q1, q2]
              · have : mon x ≠ mon d := fun h => q2 (hm.1 h).2
                have hb : ((ym d).2 == (ym x).2) = false := by simpa using Ne.symm q2
                simp [this, q1, q2, hb]
            · have : mon x ≠ mon d := fun h => q1 (hm.1 h).1
              have hb : ((ym d).1 == (ym x).1) = false := by simpa using Ne.symm q1
              simp [this, q1, hb]
          · simp only [Option.bind_some, ed, ex]
            rfl
        · rw [e]
          obtain ⟨dx, ex, _⟩ := m19_ym (d := 0) ⟨by omega, by omega⟩
          rcases (show how = 0 ∨ how = 1 ∨ how = 2 ∨ how = 3 by omega) with rfl | rfl | rfl | rfl
          · rfl
          · rfl
          · simp [ed, ex]
          · simp [ed, ex]
      · rw [if_neg (fun h => hh h.2.2)]
        have : (decide (how < 0) || decide (how ≥ 4)) = true := by
          by_cases h1 : how < 0
          · simp [h1]
          · simp; omega
        simp only [Option.bind_some, Bool.not_true, beq_self_eq_true, cond_true, Bool.false_or, this]
    · rw [if_neg (fun h => hd h.2.1), decide_eq_false (show ¬ (0 ≤ d ∧ d ≤ 200000) from hd)]
      simp
  · rw [if_neg (fun h => hr h.1), decide_eq_false hr]
    simp

def nxt (c : T32) (d : Int) : Int × Int × Unit := if RightC c ∧ Dy d then up c d else (0, 1, ())

def bfr (c : T32) (d : Int) : Int × Int × Unit := if RightC c ∧ Dy d then dn c d else (0, 1, ())

theorem adj_1 (c : T32) (d : Int) : adj c d 1 = nxt c d := by
  unfold adj nxt adjS; simp

theorem adj_3 (c : T32) (d : Int) : adj c d 3 = bfr c d := by
  unfold adj bfr adjS; simp

theorem m23_eq (c : T32) (d : Int) : m23 c d = some (nxt c d) := by
  unfold m23; rw [m28_eq, adj_1]; rfl

/-- So many business days before. -/
def bkN (c : T32) : Nat → Int → Int × Int × Unit
  | 0, d => (d, 0, ())
  | n + 1, d => if (dn c (d - 1)).2.1 = 0 then bkN c n (dn c (d - 1)).1 else (0, 3, ())

def bk (c : T32) (d n : Int) : Int × Int × Unit := if RightC c ∧ Dy d ∧ 0 ≤ n ∧ n ≤ 1000 then bkN c n.toNat d else (0, 1, ())

theorem l29_eq {R : Type} (c : T32) (hr : RightC c) (k : Int) (hk : k ≤ 1000) (k1 k2 : Int → Option R) : ∀ (n m : Nat) (d i : Int), 0 ≤ i → (k - i).toNat = m → i ≤ k → m < n → Dy d →
    l29_1 k c k1 k2 n d i = bif (bkN c m d).2.1 == 0 then k1 (bkN c m d).1 else k2 3
  | 0, _, _, _, _, _, _, hm, _ => by omega
  | n + 1, m, d, i, hi, he, hik, hm, hd => by
    unfold l29_1 s29_1
    have h0 := hd.1
    have h1 := hd.2
    by_cases h : i < k
    · obtain ⟨m', rfl⟩ : ∃ m', m = m' + 1 := ⟨m - 1, by omega⟩
      rw [decide_eq_true h, wrapI (x := d - 1) (by omega) (by omega), m45_dn c hr _ (by omega) (by omega), wrapI (by omega) (by omega)]
      unfold bkN
      rcases dn_spec c (d - 1) with ⟨x, e, g1, g2, g3, g4⟩ | ⟨e, g⟩
      · rw [e]
        simp only [Option.bind_some, cond_true, bne_same, cond_false, if_true]
        exact l29_eq c hr k hk k1 k2 n m' x (i + 1) (by omega) (by omega) (by omega) (by omega) ⟨g2, by omega⟩
      · rw [e]; rfl
    · have : m = 0 := by omega
      subst this
      rw [decide_eq_false h]
      rfl

theorem bkN_spec (c : T32) : ∀ (m : Nat) (d : Int), Dy d → (∃ x, bkN c m d = (x, 0, ()) ∧ 0 ≤ x ∧ x ≤ d) ∨ bkN c m d = (0, 3, ())
  | 0, d, h => Or.inl ⟨d, rfl, h.1, by omega⟩
  | m + 1, d, h => by
    unfold bkN
    have h1 := h.2
    rcases dn_spec c (d - 1) with ⟨x, e, g1, g2, g3, g4⟩ | ⟨e, g⟩
    · rw [e]
      simp only [if_true]
      rcases bkN_spec c m x ⟨g2, by omega⟩ with ⟨z, e', q1, q2⟩ | e'
      · exact Or.inl ⟨z, e', q1, by omega⟩
      · exact Or.inr e'
    · rw [e]; exact Or.inr rfl

theorem m29_eq (c : T32) (d n : Int) : m29 c d n = some (bk c d n) := by
  unfold m29 bk
  rw [m27_eq, m41_eq]
  by_cases hr : RightC c
  · rw [decide_eq_true hr]
    by_cases hd : Dy d
    · rw [decide_eq_true (show 0 ≤ d ∧ d ≤ 200000 from hd)]
      by_cases hh : 0 ≤ n ∧ n ≤ 1000
      · rw [if_pos ⟨hr, hd, hh⟩]
        have h1 : decide (n < 0) = false := decide_eq_false (by omega)
        have h2 : decide (n > 1000) = false := decide_eq_false (by omega)
        simp only [Option.bind_some, Bool.not_true, beq_self_eq_true, cond_true, h1, h2, Bool.or_false, cond_false]
        rw [l29_eq c hr n hh.2 _ _ FUEL n.toNat d 0 (by omega) (by omega) hh.1 (fuel_lt (by omega)) hd]
        rcases bkN_spec c n.toNat d hd with ⟨x, e, _⟩ | e <;> rw [e] <;> rfl
      · rw [if_neg (fun h => hh h.2.2)]
        have : (decide (n < 0) || decide (n > 1000)) = true := by
          by_cases h1 : n < 0
          · simp [h1]
          · simp; omega
        simp only [Option.bind_some, Bool.not_true, beq_self_eq_true, cond_true, Bool.false_or, this]
    · rw [if_neg (fun h => hd h.2.1), decide_eq_false (show ¬ (0 ≤ d ∧ d ≤ 200000) from hd)]
      simp
  · rw [if_neg (fun h => hr h.1), decide_eq_false hr]
    simp

theorem l34_eq {R : Type} (c : T32) (hr : RightC c) (k : Int) (k1 k2 : Int → Option R) : ∀ (n : Nat) (d i : Int), l34_1 k c k1 k2 n d i = l29_1 k c k1 k2 n d i
  | 0, _, _ => rfl
  | n + 1, d, i => by
    unfold l34_1 l29_1 s34_1 s29_1
    rw [m50_eq c hr, show l34_1 k c k1 k2 n = l29_1 k c k1 k2 n from funext fun d => funext fun i => l34_eq c hr k k1 k2 n d i]

theorem m34_eq (c : T32) (d n : Int) : m34 c d n = some (bk c d n) := by
  rw [← m29_eq]
  unfold m34 m29
  rw [m31_eq, m27_eq, m49_eq, m41_eq]
  by_cases hr : RightC c
  · rw [l34_eq c hr]
  · rw [decide_eq_false hr]; rfl

/-- The small calendar. -/
def cal0 : T32 := ([5, 6], [30], ())

theorem cal0_right : RightC cal0 := by decide

theorem mon_of {day y d : Int} {M : Nat} (h : IsDate day y M d) (h0 : 0 ≤ day) (h1 : day ≤ 200000) : mon day = 12 * y + (M + 1) := by
  unfold mon ym
  rw [m19_of h h0 h1]

theorem mon_30 : mon 30 = 22801 := by
  rw [mon_of (y := 1900) (M := 0) (d := 31) ⟨by omega, by decide, by decide, by decide +kernel⟩ (by omega) (by omega)]
  rfl

theorem mon_31 : mon 31 = 22802 := by
  rw [mon_of (y := 1900) (M := 1) (d := 1) ⟨by omega, by decide, by decide, by decide +kernel⟩ (by omega) (by omega)]
  rfl

theorem up0_5 : up cal0 5 = (7, 0, ()) := up_of (by omega) (by omega) (by decide) (fun y h1 h2 => by
  rcases (show y = 5 ∨ y = 6 by omega) with rfl | rfl <;> decide)

theorem up0_30 : up cal0 30 = (31, 0, ()) := up_of (by omega) (by omega) (by decide) (fun y h1 h2 => by
  rcases (show y = 30 by omega) with rfl; decide)

theorem dn0_6 : dn cal0 6 = (4, 0, ()) := by decide

theorem dn0_30 : dn cal0 30 = (29, 0, ()) := by decide

theorem nxt_ok {c : T32} {d : Int} (hr : RightC c) (hd : Dy d) : nxt c d = up c d := if_pos ⟨hr, hd⟩

theorem bfr_ok {c : T32} {d : Int} (hr : RightC c) (hd : Dy d) : bfr c d = dn c d := if_pos ⟨hr, hd⟩

theorem adj_ok {c : T32} {d how : Int} (hr : RightC c) (hd : Dy d) (h0 : 0 ≤ how) (h1 : how < 4) : adj c d how = adjS c d how := if_pos ⟨hr, hd, h0, h1⟩

theorem bk_ok {c : T32} {d n : Int} (hr : RightC c) (hd : Dy d) (h0 : 0 ≤ n) (h1 : n ≤ 1000) : bk c d n = bkN c n.toNat d := if_pos ⟨hr, hd, h0, h1⟩

theorem busS_op {c : T32} (hr : RightC c) {d : Int} (hd : Dy d) : busS c d = op c d := by
  unfold busS; rw [decide_eq_true hr, decide_eq_true hd]; rfl

theorem up_fix {c : T32} {x : Int} (hx : Dy x) (h : op c x = true) : up c x = (x, 0, ()) := up_of (by omega) hx.2 h (fun y h1 h2 => by omega)

theorem dn_fix {c : T32} {x : Int} (hx : Dy x) (h : op c x = true) : dn c x = (x, 0, ()) := dn_of (by omega) hx.1 h (fun y h1 h2 => by omega)

theorem adjS_fix {c : T32} {x how : Int} (hx : Dy x) (h : op c x = true) : adjS c x how = (x, 0, ()) := by
  unfold adjS
  rw [up_fix hx h, dn_fix hx h]
  simp

/-- Where a day is moved, once more. -/
theorem adjS_spec {c : T32} {d how : Int} (hd : Dy d) : adjS c d how = (0, 3, ()) ∨ (how = 0 ∧ adjS c d how = (d, 0, ())) ∨ ∃ x, Dy x ∧ op c x = true ∧ adjS c d how = (x, 0, ()) := by
  have d0 := hd.1
  have d1 := hd.2
  have hu : up c d = (0, 3, ()) ∨ ∃ x, Dy x ∧ op c x = true ∧ up c d = (x, 0, ()) := by
    rcases up_spec c d with ⟨x, ex, x1, x2, x3, x4⟩ | ⟨ex, x4⟩
    · exact Or.inr ⟨x, ⟨by omega, x2⟩, x3, ex⟩
    · exact Or.inl ex
  have hn : dn c d = (0, 3, ()) ∨ ∃ x, Dy x ∧ op c x = true ∧ dn c d = (x, 0, ()) := by
    rcases dn_spec c d with ⟨x, ex, x1, x2, x3, x4⟩ | ⟨ex, x4⟩
    · exact Or.inr ⟨x, ⟨x2, by omega⟩, x3, ex⟩
    · exact Or.inl ex
  unfold adjS
  by_cases h0 : how = 0
  · exact Or.inr (Or.inl ⟨h0, by rw [if_pos h0]⟩)
  rw [if_neg h0]
  split
  · rcases hu with h | h
    · exact Or.inl h
    · exact Or.inr (Or.inr h)
  split
  · rcases hu with h | h
    · exact Or.inl h
    · exact Or.inr (Or.inr h)
  · rcases hn with h | h
    · exact Or.inl h
    · exact Or.inr (Or.inr h)

theorem bkN_succ (c : T32) (n : Nat) (d : Int) : bkN c (n + 1) d = if (dn c (d - 1)).2.1 = 0 then bkN c n (dn c (d - 1)).1 else (0, 3, ()) := rfl

theorem bkN_add (c : T32) : ∀ (m k : Nat) (d : Int), bkN c (m + k) d = if (bkN c m d).2.1 = 0 then bkN c k (bkN c m d).1 else (0, 3, ())
  | 0, k, d => by rw [Nat.zero_add]; rfl
  | m + 1, k, d => by
    rw [show m + 1 + k = (m + k) + 1 by omega]
    rw [bkN_succ, bkN_succ]
    split
    · exact bkN_add c m k _
    · rfl

/-- How many business days. -/
def cntN (c : T32) : Nat → Int → Int
  | 0, _ => 0
  | n + 1, x => (if op c x then 1 else 0) + cntN c n (x + 1)

theorem cntN_succ (c : T32) (n : Nat) (x : Int) : cntN c (n + 1) x = (if op c x then 1 else 0) + cntN c n (x + 1) := rfl

theorem cntN_add (c : T32) : ∀ (a b : Nat) (x : Int), cntN c (a + b) x = cntN c a x + cntN c b (x + a)
  | 0, b, x => by simp [cntN]
  | a + 1, b, x => by
    rw [show a + 1 + b = (a + b) + 1 by omega]
    rw [cntN_succ, cntN_succ, cntN_add c a b (x + 1), show x + 1 + (a : Int) = x + ((a + 1 : Nat) : Int) by omega]
    omega

theorem cntN_zero (c : T32) : ∀ (n : Nat) (x : Int), (∀ y, x ≤ y → y < x + n → op c y = false) → cntN c n x = 0
  | 0, _, _ => rfl
  | n + 1, x, h => by
    unfold cntN
    rw [cntN_zero c n (x + 1) (fun y h1 h2 => h y (by omega) (by omega)), h x (by omega) (by omega)]
    rfl

theorem cntN_b (c : T32) : ∀ (n : Nat) (x : Int), 0 ≤ cntN c n x ∧ cntN c n x ≤ n
  | 0, _ => by simp [cntN]
  | n + 1, x => by
    have := cntN_b c n (x + 1)
    unfold cntN
    split <;> omega

/-- Where the way back ends. -/
theorem bkN_cnt (c : T32) : ∀ (m : Nat) (d x : Int), Dy d → bkN c m d = (x, 0, ()) → 0 ≤ x ∧ x ≤ d ∧ cntN c (d - x).toNat x = m ∧ (0 < m → op c x = true)
  | 0, d, x, hd, e => by
    have : x = d := by
      have := congrArg Prod.fst e
      exact this.symm
    subst this
    exact ⟨hd.1, by omega, by simp [cntN], fun h => by omega⟩
  | m + 1, d, x, hd, e => by
    rw [bkN_succ] at e
    have h1 := hd.2
    rcases dn_spec c (d - 1) with ⟨z, ez, z1, z2, z3, z4⟩ | ⟨ez, z4⟩
    · rw [ez] at e
      simp only [if_true] at e
      obtain ⟨a1, a2, a3, a4⟩ := bkN_cnt c m z x ⟨z2, by omega⟩ e
      have b1 : cntN c (d - z).toNat z = 1 := by
        obtain ⟨j, hj⟩ : ∃ j, (d - z).toNat = j + 1 := ⟨(d - z).toNat - 1, by omega⟩
        rw [hj]
        rw [cntN_succ, if_pos z3, cntN_zero c j (z + 1) (fun y g1 g2 => z4 y (by omega) (by omega))]
        rfl
      refine ⟨a1, by omega, ?_, fun _ => ?_⟩
      · rw [show (d - x).toNat = (z - x).toNat + (d - z).toNat by omega, cntN_add, a3, show x + ((z - x).toNat : Int) = z by omega, b1]
        rfl
      · by_cases h : 0 < m
        · exact a4 h
        · have : m = 0 := by omega
          subst this
          have : z = x := congrArg Prod.fst e
          rw [← this]; exact z3
    · rw [ez] at e
      simp at e

/-- Later days lead to later days. -/
theorem bkN_mono (c : T32) : ∀ (m : Nat) (a b x : Int), a ≤ b → Dy a → Dy b → bkN c m a = (x, 0, ()) → ∃ z, bkN c m b = (z, 0, ()) ∧ x ≤ z
  | 0, a, b, x, h, _, _, e => ⟨b, rfl, by
      have : a = x := congrArg Prod.fst e
      omega⟩
  | m + 1, a, b, x, h, ha, hb, e => by
    have h1 := hb.2
    rw [bkN_succ] at e ⊢
    rcases dn_spec c (a - 1) with ⟨z, ez, z1, z2, z3, z4⟩ | ⟨ez, z4⟩
    · rw [ez] at e
      simp only [if_true] at e
      rcases dn_spec c (b - 1) with ⟨w, ew, w1, w2, w3, w4⟩ | ⟨ew, w4⟩
      · rw [ew]
        simp only [if_true]
        have : z ≤ w := by
          by_cases q : z ≤ w
          · exact q
          · have := w4 z (by omega) (by omega); simp_all
        exact bkN_mono c m z w x this ⟨z2, by omega⟩ ⟨w2, by omega⟩ e
      · have := w4 z z2 (by omega); simp_all
    · rw [ez] at e
      simp at e

end Go.Proofs.Ytophafggfmhooaa
