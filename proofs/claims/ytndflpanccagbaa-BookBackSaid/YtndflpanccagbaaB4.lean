/- Seats: valid units; what is below; sums. -/
import Derived.Test.YtndflpanccagbaaB3
namespace Go.Proofs.Ytndflpanccagbaa
open Go Go.Eng
set_option linter.unusedVariables false
set_option linter.unusedSimpArgs false

/-! ### Valid units -/

def OkU (S : List T35) (u : List Int) (i : Nat) : Prop := 0 ≤ gI u i ∧ gI u i ≤ 1000000000 ∧ (0 < gI u i → LeafP S i)
instance (S : List T35) (u : List Int) (i : Nat) : Decidable (OkU S u i) := by unfold OkU; infer_instance

def Valid (S : List T35) (u : List Int) : Prop := Right S ∧ u.length = S.length ∧ (∀ i, i < S.length → OkU S u i) ∧ sumN (gI u) S.length ≤ 1000000000
instance (S : List T35) (u : List Int) : Decidable (Valid S u) := by unfold Valid; infer_instance

def Flags (S : List T35) (j : Nat) (o : List Bool) : Prop := o.length = S.length ∧ ∀ i, i < S.length → ∃ b, o[i]? = some b ∧ (b = true ↔ ∃ k, k < j ∧ P S k = i)

theorem l26_1_eq {R : Type} (S : List T35) (hu : Up S S.length) (hL : S.length ≤ 20000) (k : List Bool → Option R) : ∀ (n j : Nat) (o : List Bool), j ≤ S.length → S.length - j < n → Flags S j o →
    ∃ o', Flags S S.length o' ∧ l26_1 S (S.length : Int) k n j o = k o'
  | 0, j, o, _, h, _ => by omega
  | n + 1, j, o, hj, hn, ho => by
    unfold l26_1 s26_1
    by_cases c : j = S.length
    · subst c
      rw [bifF (decide_eq_false (by omega))]
      exact ⟨o, ho, rfl⟩
    · have hlt : j < S.length := by omega
      have hPj := hu j hlt
      rw [bifT (decide_eq_true (by omega))]
      have key : ∃ o', Flags S (j + 1) o' ∧ ∀ k4 : List Bool → Option R, ((idx S (j : Int)).bind fun x2 =>
          bif (decide (x2.1 ≥ 0)) then
            asrt true (decide (0 ≤ x2.1) && decide (x2.1 < (List.length o : Int))) (
              ((o)[(x2.1 : Int).toNat]?).bind fun x3 =>
              k4 (List.set o (x2.1 : Int).toNat true))
          else
            k4 o) = k4 o' := by
        by_cases hp0 : 0 ≤ P S j
        · refine ⟨o.set (P S j).toNat true, ⟨by simpa using ho.1, fun i hi => ?_⟩, fun k4 => ?_⟩
          · rw [List.getElem?_set]
            by_cases e : (P S j).toNat = i
            · rw [if_pos e, if_pos (by have := ho.1; omega)]
              exact ⟨true, rfl, by simp; exact ⟨j, by omega, by omega⟩⟩
            · rw [if_neg e]
              obtain ⟨b, b1, b2⟩ := ho.2 i hi
              refine ⟨b, b1, b2.trans ⟨fun ⟨k, h1, h2⟩ => ⟨k, by omega, h2⟩, fun ⟨k, h1, h2⟩ => ⟨k, ?_, h2⟩⟩⟩
              rcases Nat.lt_or_ge k j with c | c
              · exact c
              · have : k = j := by omega
                subst this; omega
          · rw [seat_idx hlt]
            simp only [Option.bind_some]
            rw [bifT (decide_eq_true (show (seat S j).1 ≥ 0 from hp0))]
            have e1 : (seat S j).1 = P S j := rfl
            have hl := ho.1
            rw [e1, asrtP (fun _ => by simp; omega), List.getElem?_eq_getElem (by omega)]
            rfl
        · refine ⟨o, ⟨ho.1, fun i hi => ?_⟩, fun k4 => ?_⟩
          · obtain ⟨b, b1, b2⟩ := ho.2 i hi
            refine ⟨b, b1, b2.trans ⟨fun ⟨k, h1, h2⟩ => ⟨k, by omega, h2⟩, fun ⟨k, h1, h2⟩ => ⟨k, ?_, h2⟩⟩⟩
            rcases Nat.lt_or_ge k j with c | c
            · exact c
            · have : k = j := by omega
              subst this; omega
          · rw [seat_idx hlt]
            simp only [Option.bind_some]
            rw [bifF (decide_eq_false (show ¬ (seat S j).1 ≥ 0 from hp0))]
      obtain ⟨o', a1, a2⟩ := key
      rw [cont_eq o' a2, wrapI (x := (j : Int) + 1) (by omega) (by omega)]
      exact l26_1_eq S hu hL k n (j + 1) o' (by omega) (by omega) a1

theorem l26_2_eq {R : Type} (S : List T35) (u : List Int) (hL : S.length ≤ 20000) (hl : u.length = S.length) (o : List Bool) (ho : Flags S S.length o) (k1 : Int → Option R) (k2 : Option R) : ∀ (n j : Nat), j ≤ S.length → S.length - j < n → (∀ i, i < j → OkU S u i) →
    l26_2 u (u.length : Int) o k1 k2 n (sumN (gI u) j) j = if ∀ i, i < S.length → OkU S u i then k1 (sumN (gI u) S.length) else k2
  | 0, j, _, h, _ => by omega
  | n + 1, j, hj, hn, hp => by
    unfold l26_2 s26_2
    by_cases c : j = S.length
    · subst c
      rw [bifF (decide_eq_false (by omega)), if_pos hp]
    · have hlt : j < S.length := by omega
      have hn1 : S.length - (j + 1) < n := by omega
      obtain ⟨b, b1, b2⟩ := ho.2 j hlt
      rw [bifT (decide_eq_true (by omega)), idx_nat, gI_get (by omega)]
      simp only [Option.bind_some]
      have ej : ((j : Int)).toNat = j := by omega
      have hol := ho.1
      rw [asrtP (fun _ => by simp; omega), ej, b1, bind_guard]
      have hsum : 0 ≤ sumN (gI u) j ∧ sumN (gI u) j ≤ 1000000000 * j := by
        clear b1 b2
        constructor
        · exact sumN_nonneg (fun i hi => (hp i hi).1)
        · have := sumN_le (f := gI u) (g := fun _ => 1000000000) (n := j) (fun i hi => (hp i hi).2.1)
          have e : ∀ n : Nat, sumN (fun _ => (1000000000 : Int)) n = 1000000000 * n := by
            intro n; induction n with
            | zero => rfl
            | succ n ih => simp only [sumN, ih]; omega
          rw [e] at this; exact this
      by_cases hok : OkU S u j
      · obtain ⟨q1, q2, q3⟩ := hok
        have hb : (decide (gI u j > 0) && b) = false := by
          cases b with
          | false => simp
          | true =>
            obtain ⟨k, k1, k2⟩ := b2.1 rfl
            have : ¬ (gI u j > 0) := fun h => q3 h k k1 k2
            simp [this]
        rw [decide_eq_false (show ¬ gI u j < 0 by omega), decide_eq_false (show ¬ gI u j > 1000000000 by omega)]
        simp only [Bool.or_self, beq_self_eq_true, Bool.true_and, Bool.false_or]
        have hb2 : (decide (gI u j > 0) && (bif decide (gI u j > 0) == true then b else false)) = false := by
          cases h : decide (gI u j > 0) with
          | false => rfl
          | true => rw [h] at hb; simpa using hb
        rw [hb2]
        simp only [cond_false]
        rw [wrapI (x := sumN (gI u) j + gI u j) (by omega) (by omega), wrapI (x := (j : Int) + 1) (by omega) (by omega)]
        exact l26_2_eq S u hL hl o ho k1 k2 n (j + 1) hlt hn1 (fun i hi => by
          by_cases e : i = j
          · subst e; exact ⟨q1, q2, q3⟩
          · exact hp i (by omega))
      · rw [if_neg (fun h => hok (h j hlt))]
        rw [bifT]
        unfold OkU at hok
        by_cases c1 : gI u j < 0
        · simp [c1]
        · by_cases c2 : gI u j > 1000000000
          · simp [c2]
          · have c3 : 0 < gI u j ∧ ¬ LeafP S j := by
              by_cases c4 : 0 < gI u j
              · exact ⟨c4, fun h => hok ⟨by omega, by omega, fun _ => h⟩⟩
              · exact absurd ⟨by omega, by omega, fun h => absurd h c4⟩ hok
            have hbt : b = true := b2.2 (by
              have := c3.2
              unfold LeafP at this
              exact Classical.byContradiction fun hne => this fun k hk e => hne ⟨k, hk, e⟩)
            subst hbt
            simp [c1, c2, c3.1]

theorem flags0 (S : List T35) : Flags S 0 (List.replicate S.length false) := ⟨by simp, fun i hi => ⟨false, by rw [List.getElem?_replicate, if_pos hi], by simp⟩⟩

theorem m26_eq (S : List T35) (u : List Int) : m26 S u = some (decide (Valid S u)) := by
  unfold m26
  rw [m13_eq]
  simp only [Option.bind_some]
  by_cases hr : Right S
  · rw [decide_eq_true hr]
    by_cases hl : u.length = S.length
    · rw [bifF (by simp; omega), asrtP (fun _ => by simp; unfold LIM; have := hr.1; omega)]
      have e : ((S.length : Int)).toNat = S.length := by omega
      rw [e]
      obtain ⟨o', a1, a2⟩ := l26_1_eq S hr.up hr.1 (fun y5 => l26_2 u (u.length : Int) y5 (fun y8 => some (decide (y8 ≤ 1000000000))) (some false) FUEL 0 0) FUEL 0 (List.replicate S.length false) (by omega) (fuel_lt (by have := hr.1; omega)) (flags0 S)
      simp only [Int.natCast_zero] at a2
      rw [a2]
      have := l26_2_eq S u hr.1 hl o' a1 (fun y8 => some (decide (y8 ≤ 1000000000))) (some false) FUEL 0 (by omega) (fuel_lt (by have := hr.1; omega)) (by omega)
      simp only [Int.natCast_zero, sumN] at this
      rw [this]
      by_cases h : ∀ i, i < S.length → OkU S u i
      · rw [if_pos h]
        by_cases h2 : sumN (gI u) S.length ≤ 1000000000
        · rw [decide_eq_true h2, decide_eq_true (show Valid S u from ⟨hr, hl, h, h2⟩)]
        · rw [decide_eq_false h2, decide_eq_false (fun hv : Valid S u => h2 hv.2.2.2)]
      · rw [if_neg h, decide_eq_false (fun hv : Valid S u => h hv.2.2.1)]
    · rw [bifT (by simp; omega), decide_eq_false (fun hv : Valid S u => hl hv.2.1)]
  · rw [decide_eq_false hr, decide_eq_false (fun hv : Valid S u => hr hv.1)]
    rfl

theorem l23_eq {R : Type} (S : List T35) (u : List Int) (hr : Right S) (hl : u.length = S.length) (k1 : Int → Option R) (k2 : Option R) : ∀ (n j : Nat), j ≤ S.length → S.length - j < n → (∀ i, i < j → OkU S u i) →
    l23_1 S u k1 k2 n (sumN (gI u) j) j = if ∀ i, i < S.length → OkU S u i then k1 (sumN (gI u) S.length) else k2
  | 0, j, _, h, _ => by omega
  | n + 1, j, hj, hn, hp => by
    have hL := hr.1
    unfold l23_1 s23_1
    by_cases c : j = S.length
    · subst c
      rw [bifF (decide_eq_false (by omega)), if_pos hp]
    · have hlt : j < S.length := by omega
      have ig : ∀ g : Bool, idxG g 0 u (j : Int) = some (bif g then gI u j else 0) := by
        intro g
        unfold idxG
        rw [idx_nat, gI_get (by omega)]
        cases g <;> rfl
      rw [bifT (decide_eq_true (by omega)), idx_nat, gI_get (by omega)]
      simp only [Option.bind_some, ig, m20_eq S hL]
      have hsum : 0 ≤ sumN (gI u) j ∧ sumN (gI u) j ≤ 1000000000 * j := by
        constructor
        · exact sumN_nonneg (fun i hi => (hp i hi).1)
        · have := sumN_le (f := gI u) (g := fun _ => 1000000000) (n := j) (fun i hi => (hp i hi).2.1)
          have e : ∀ n : Nat, sumN (fun _ => (1000000000 : Int)) n = 1000000000 * n := by
            intro n; induction n with
            | zero => rfl
            | succ n ih => simp only [sumN, ih]; omega
          rw [e] at this; exact this
      have hin : In S (j : Int) := ⟨by omega, by omega⟩
      by_cases hok : OkU S u j
      · obtain ⟨q1, q2, q3⟩ := hok
        rw [decide_eq_false (show ¬ gI u j < 0 by omega)]
        simp only [beq_self_eq_true, cond_true, Bool.false_or]
        rw [decide_eq_false (show ¬ gI u j > 1000000000 by omega)]
        simp only [beq_self_eq_true, cond_true, Bool.true_and, Bool.false_or]
        have fin : ∀ r5 : Bool, (decide (gI u j > 0) && !r5) = false → (bif decide (gI u j > 0) && !r5 then k2 else l23_1 S u k1 k2 n (IntKind.i64.wrap (sumN (gI u) j + gI u j)) (IntKind.i64.wrap ((j : Int) + 1))) = if ∀ i, i < S.length → OkU S u i then k1 (sumN (gI u) S.length) else k2 := by
          intro r5 h5
          rw [h5]
          simp only [cond_false]
          rw [wrapI (x := sumN (gI u) j + gI u j) (by omega) (by omega), wrapI (x := (j : Int) + 1) (by omega) (by omega)]
          exact l23_eq S u hr hl k1 k2 n (j + 1) (by omega) (by omega) (fun i hi => by
            by_cases e : i = j
            · subst e; exact ⟨q1, q2, q3⟩
            · exact hp i (by omega))
        by_cases hpos : gI u j > 0
        · rw [decide_eq_true hpos]
          simp only [beq_self_eq_true, cond_true, Option.bind_some]
          have : leafS S (j : Int) = true := decide_eq_true ⟨hr, hin, q3 hpos⟩
          rw [this]
          have := fin true (by simp)
          rw [decide_eq_true hpos] at this
          exact this
        · rw [decide_eq_false hpos]
          have := fin false (by simp [hpos])
          rw [decide_eq_false hpos] at this
          exact this
      · rw [if_neg (fun h => hok (h j hlt))]
        unfold OkU at hok
        by_cases c1 : gI u j < 0
        · simp [c1]
        · by_cases c2 : gI u j > 1000000000
          · simp [c1, c2]
          · have c3 : 0 < gI u j ∧ ¬ LeafP S j := by
              by_cases c4 : 0 < gI u j
              · exact ⟨c4, fun h => hok ⟨by omega, by omega, fun _ => h⟩⟩
              · exact absurd ⟨by omega, by omega, fun h => absurd h c4⟩ hok
            have : leafS S (j : Int) = false := decide_eq_false (fun h => c3.2 h.2.2)
            simp [c1, c2, c3.1, this]

theorem m23_eq (S : List T35) (u : List Int) (hL : S.length ≤ 20000) : m23 S u = some (decide (Valid S u)) := by
  unfold m23
  rw [m14_eq S hL]
  simp only [Option.bind_some]
  by_cases hr : Right S
  · rw [decide_eq_true hr]
    by_cases hl : u.length = S.length
    · rw [bifF (by simp; omega)]
      have := l23_eq S u hr hl (fun y8 => some (decide (y8 ≤ 1000000000))) (some false) FUEL 0 (by omega) (fuel_lt (by have := hr.1; omega)) (by omega)
      simp only [Int.natCast_zero, sumN] at this
      rw [this]
      by_cases h : ∀ i, i < S.length → OkU S u i
      · rw [if_pos h]
        by_cases h2 : sumN (gI u) S.length ≤ 1000000000
        · rw [decide_eq_true h2, decide_eq_true (show Valid S u from ⟨hr, hl, h, h2⟩)]
        · rw [decide_eq_false h2, decide_eq_false (fun hv : Valid S u => h2 hv.2.2.2)]
      · rw [if_neg h, decide_eq_false (fun hv : Valid S u => h hv.2.2.1)]
    · rw [bifT (by simp; omega), decide_eq_false (fun hv : Valid S u => hl hv.2.1)]
  · rw [decide_eq_false hr, decide_eq_false (fun hv : Valid S u => hr hv.1)]
    rfl

/-! ### Below -/

def belF (S : List T35) : Nat → Nat → Nat → Bool
  | 0, _, _ => false
  | n + 1, i, j => decide (i = j) || (decide (0 ≤ P S i) && belF S n (P S i).toNat j)
def below (S : List T35) (i j : Nat) : Bool := belF S (i + 1) i j

theorem belF_fuel {S : List T35} (j : Nat) : ∀ (p n m : Nat), Up S (p + 1) → p < n → p < m → belF S n p j = belF S m p j
  | p, n, m, hu, hn, hm => by
    match n, m, hn, hm with
    | n + 1, m + 1, hn, hm =>
      simp only [belF]
      by_cases h : 0 ≤ P S p
      · have := hu p (by omega)
        rw [belF_fuel j (P S p).toNat n m (fun i hi => hu i (by omega)) (by omega) (by omega)]
      · simp [h]
termination_by p => p
decreasing_by have := hu p (by omega); omega

theorem below_eq {S : List T35} {i : Nat} (hu : Up S (i + 1)) (j : Nat) : below S i j = (decide (i = j) || (decide (0 ≤ P S i) && below S (P S i).toNat j)) := by
  have := hu i (by omega)
  unfold below
  have e : belF S (i + 1) i j = (decide (i = j) || (decide (0 ≤ P S i) && belF S i (P S i).toNat j)) := rfl
  rw [e]
  by_cases h : 0 ≤ P S i
  · rw [belF_fuel j (P S i).toNat i ((P S i).toNat + 1) (fun k hk => hu k (by omega)) (by omega) (by omega)]
  · simp [h]

theorem below_le {S : List T35} : ∀ (i j : Nat), Up S (i + 1) → below S i j = true → j ≤ i
  | i, j, hu, h => by
    rw [below_eq hu] at h
    simp only [Bool.or_eq_true, Bool.and_eq_true, decide_eq_true_eq] at h
    rcases h with h | ⟨h1, h2⟩
    · omega
    · have := hu i (by omega)
      have := below_le (P S i).toNat j (fun k hk => hu k (by omega)) h2
      omega
termination_by i => i
decreasing_by have := hu i (by omega); omega

/-- A seat is below another one: it is it, or below exactly one of those whose Parent it is. -/
theorem below_split {S : List T35} (hU : Up S S.length) (v : Int) : ∀ (i j : Nat), i < S.length → j < S.length →
    (if below S i j = true then v else 0) = (if i = j then v else 0) + sumN (fun c => if P S c = j then (if below S i c = true then v else 0) else 0) S.length
  | i, j, hi, hj => by
    have hu : Up S (i + 1) := fun k hk => hU k (by omega)
    have hPi := hU i hi
    by_cases e : i = j
    · subst e
      have hb : below S i i = true := by rw [below_eq hu]; simp
      rw [if_pos hb, if_pos rfl, sumN_none]
      · omega
      · intro c hc
        by_cases h : P S c = i
        · rw [if_pos h]
          have := hU c hc
          rw [if_neg]
          intro hb
          have := below_le i c hu hb
          omega
        · rw [if_neg h]
    · rw [if_neg e]
      by_cases h0 : 0 ≤ P S i
      · have hp : (P S i).toNat < S.length := by omega
        have ih := below_split hU v (P S i).toNat j hp hj
        have eb : ∀ c, below S i c = (decide (i = c) || below S (P S i).toNat c) := by
          intro c; rw [below_eq hu, decide_eq_true h0, Bool.true_and]
        rw [eb, decide_eq_false e, Bool.false_or]
        rw [ih]
        by_cases e2 : (P S i).toNat = j
        · rw [if_pos e2]
          have z : sumN (fun c => if P S c = j then (if below S (P S i).toNat c = true then v else 0) else 0) S.length = 0 := by
            apply sumN_none
            intro c hc
            by_cases h : P S c = j
            · rw [if_pos h]
              have := hU c hc
              rw [if_neg]
              intro hb
              have := below_le (P S i).toNat c (fun k hk => hU k (by omega)) hb
              omega
            · rw [if_neg h]
          rw [z]
          have o : sumN (fun c => if P S c = j then (if below S i c = true then v else 0) else 0) S.length = (if P S i = j then (if below S i i = true then v else 0) else 0) := by
            refine sumN_one (k := i) hi ?_
            intro c hc hne
            by_cases h : P S c = j
            · rw [if_pos h, if_neg]
              rw [eb, decide_eq_false (fun x => hne x.symm), Bool.false_or]
              intro hb
              have := hU c hc
              have := below_le (P S i).toNat c (fun k hk => hU k (by omega)) hb
              omega
            · rw [if_neg h]
          rw [o, if_pos (by omega), if_pos (by rw [below_eq hu]; simp)]
          omega
        · rw [if_neg e2]
          congr 1
          apply sumN_congr
          intro c hc
          by_cases h : P S c = j
          · rw [if_pos h, if_pos h, eb, decide_eq_false (fun x : i = c => by subst x; omega), Bool.false_or]
          · rw [if_neg h, if_neg h]
      · have eb : ∀ c, below S i c = decide (i = c) := by
          intro c; rw [below_eq hu, decide_eq_false h0]; simp
        rw [eb, if_neg (by simpa using e), sumN_none]
        · rfl
        · intro c hc
          by_cases h : P S c = j
          · rw [if_pos h, eb, if_neg]
            simp only [decide_eq_true_eq]
            intro x; subst x; omega
          · rw [if_neg h]
termination_by i => i
decreasing_by omega

/-- What a seat has. -/
def has (S : List T35) (u : List Int) (j : Nat) : Int := sumN (fun i => if below S i j = true then gI u i else 0) S.length

theorem has_eq {S : List T35} (hU : Up S S.length) (u : List Int) {j : Nat} (hj : j < S.length) : has S u j = gI u j + sumN (fun c => if P S c = j then has S u c else 0) S.length := by
  unfold has
  rw [sumN_congr (fun i hi => below_split hU (gI u i) i j hi hj), sumN_add]
  congr 1
  · rw [sumN_one (k := j) hj (fun i hi hne => if_neg hne), if_pos rfl]
  · rw [sumN_swap]
    apply sumN_congr
    intro c hc
    by_cases h : P S c = j
    · simp only [if_pos h]
    · simp only [if_neg h]
      rw [sumN_zero]

end Go.Proofs.Ytndflpanccagbaa
