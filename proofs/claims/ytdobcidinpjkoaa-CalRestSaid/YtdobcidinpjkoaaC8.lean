/- CalBack: the plain law. -/
import Derived.Test.YtdobcidinpjkoaaC7
namespace Go.Proofs.Ytdobcidinpjkoaa
open Go Go.Eng
set_option linter.unusedVariables false
set_option linter.unusedSimpArgs false

theorem bkN_succ (c : T23) (n : Nat) (d : Int) : bkN c (n + 1) d = if (dn c (d - 1)).2.1 = 0 then bkN c n (dn c (d - 1)).1 else (0, 3, ()) := rfl

theorem bkN_add (c : T23) : ∀ (m k : Nat) (d : Int), bkN c (m + k) d = if (bkN c m d).2.1 = 0 then bkN c k (bkN c m d).1 else (0, 3, ())
  | 0, k, d => by rw [Nat.zero_add]; rfl
  | m + 1, k, d => by
    rw [show m + 1 + k = (m + k) + 1 by omega]
    rw [bkN_succ, bkN_succ]
    split
    · exact bkN_add c m k _
    · rfl

/-- How many business days. -/
def cntN (c : T23) : Nat → Int → Int
  | 0, _ => 0
  | n + 1, x => (if op c x then 1 else 0) + cntN c n (x + 1)

theorem cntN_succ (c : T23) (n : Nat) (x : Int) : cntN c (n + 1) x = (if op c x then 1 else 0) + cntN c n (x + 1) := rfl

theorem cntN_add (c : T23) : ∀ (a b : Nat) (x : Int), cntN c (a + b) x = cntN c a x + cntN c b (x + a)
  | 0, b, x => by simp [cntN]
  | a + 1, b, x => by
    rw [show a + 1 + b = (a + b) + 1 by omega]
    rw [cntN_succ, cntN_succ, cntN_add c a b (x + 1), show x + 1 + (a : Int) = x + ((a + 1 : Nat) : Int) by omega]
    omega

theorem cntN_zero (c : T23) : ∀ (n : Nat) (x : Int), (∀ y, x ≤ y → y < x + n → op c y = false) → cntN c n x = 0
  | 0, _, _ => rfl
  | n + 1, x, h => by
    unfold cntN
    rw [cntN_zero c n (x + 1) (fun y h1 h2 => h y (by omega) (by omega)), h x (by omega) (by omega)]
    rfl

theorem cntN_b (c : T23) : ∀ (n : Nat) (x : Int), 0 ≤ cntN c n x ∧ cntN c n x ≤ n
  | 0, _ => by simp [cntN]
  | n + 1, x => by
    have := cntN_b c n (x + 1)
    unfold cntN
    split <;> omega

/-- Where the way back ends. -/
theorem bkN_cnt (c : T23) : ∀ (m : Nat) (d x : Int), Dy d → bkN c m d = (x, 0, ()) → 0 ≤ x ∧ x ≤ d ∧ cntN c (d - x).toNat x = m ∧ (0 < m → op c x = true)
  | 0, d, x, hd, e => by
    have : x = d := by
      have := congrArg Prod.fst e
      exact this.symm
    subst this
    exact ⟨hd.1, by omega, by simp [cntN], fun h => by omega⟩
  | m + 1, d, x, hd, e => by
    rw [bkN_succ] at e
    have h1 := hd.2
    rcases dn_spec c (d - 1) with ⟨z, ez, z1, z2, z3, z4⟩ | ⟨ez, z4⟩
    · rw [ez] at e
      simp only [if_true] at e
      obtain ⟨a1, a2, a3, a4⟩ := bkN_cnt c m z x ⟨z2, by omega⟩ e
      have b1 : cntN c (d - z).toNat z = 1 := by
        obtain ⟨j, hj⟩ : ∃ j, (d - z).toNat = j + 1 := ⟨(d - z).toNat - 1, by omega⟩
        rw [hj]
        rw [cntN_succ, if_pos z3, cntN_zero c j (z + 1) (fun y g1 g2 => z4 y (by omega) (by omega))]
        rfl
      refine ⟨a1, by omega, ?_, fun _ => ?_⟩
      · rw [show (d - x).toNat = (z - x).toNat + (d - z).toNat by omega, cntN_add, a3, show x + ((z - x).toNat : Int) = z by omega, b1]
        rfl
      · by_cases h : 0 < m
        · exact a4 h
        · have : m = 0 := by omega
          subst this
          have : z = x := congrArg Prod.fst e
          rw [← this]; exact z3
    · rw [ez] at e
      simp at e

/-- Later days lead to later days. -/
theorem bkN_mono (c : T23) : ∀ (m : Nat) (a b x : Int), a ≤ b → Dy a → Dy b → bkN c m a = (x, 0, ()) → ∃ z, bkN c m b = (z, 0, ()) ∧ x ≤ z
  | 0, a, b, x, h, _, _, e => ⟨b, rfl, by
      have : a = x := congrArg Prod.fst e
      omega⟩
  | m + 1, a, b, x, h, ha, hb, e => by
    have h1 := hb.2
    rw [bkN_succ] at e ⊢
    rcases dn_spec c (a - 1) with ⟨z, ez, z1, z2, z3, z4⟩ | ⟨ez, z4⟩
    · rw [ez] at e
      simp only [if_true] at e
      rcases dn_spec c (b - 1) with ⟨w, ew, w1, w2, w3, w4⟩ | ⟨ew, w4⟩
      · rw [ew]
        simp only [if_true]
        have : z ≤ w := by
          by_cases q : z ≤ w
          · exact q
          · have := w4 z (by omega) (by omega); simp_all
        exact bkN_mono c m z w x this ⟨z2, by omega⟩ ⟨w2, by omega⟩ e
      · have := w4 z z2 (by omega); simp_all
    · rw [ez] at e
      simp at e

theorem l6_eq {R : Type} (c : T23) (hr : RightC c) (d : Int) (hd : d ≤ 200000) (k : Int → Option R) : ∀ (n m : Nat) (a j : Int), 0 ≤ j → (d - j).toNat = m → j ≤ d → 0 ≤ a → a ≤ j → m < n →
    l6_1 d c k n a j = k (a + cntN c m j)
  | 0, _, _, _, _, _, _, _, _, hm => by omega
  | n + 1, m, a, j, hj, he, hjd, ha, haj, hm => by
    unfold l6_1 s6_1
    by_cases h : j < d
    · obtain ⟨m', rfl⟩ : ∃ m', m = m' + 1 := ⟨m - 1, by omega⟩
      rw [decide_eq_true h, m16_eq, busS_op hr ⟨hj, by omega⟩, wrapI (x := j + 1) (by omega) (by omega), wrapI (x := a + 1) (by omega) (by omega)]
      unfold cntN cont
      by_cases g : op c j = true
      · rw [g]
        simp only [Option.bind_some, cond_true, if_true]
        rw [l6_eq c hr d hd k n m' (a + 1) (j + 1) (by omega) (by omega) (by omega) (by omega) (by omega) (by omega), Int.add_assoc]
      · have g' : op c j = false := by simpa using g
        rw [g']
        simp only [Option.bind_some, cond_true, cond_false, Bool.false_eq_true, if_false]
        rw [l6_eq c hr d hd k n m' a (j + 1) (by omega) (by omega) (by omega) (by omega) (by omega) (by omega), Int.zero_add]
    · have : m = 0 := by omega
      subst this
      rw [decide_eq_false h]
      simp [cntN]

theorem calBack (c : T23) (d p q : Int) (hp : 0 ≤ p ∧ p ≤ 255) (hq : 0 ≤ q ∧ q ≤ 255) : m6 c d p q = some true := by
  unfold m6
  rw [tmod_pos _ hp.1, tmod_pos _ hq.1]
  have hp0 : 0 ≤ p % 40 := by omega
  have hp1 : p % 40 < 40 := by omega
  have hq0 : 0 ≤ q % 40 := by omega
  have hq1 : q % 40 < 40 := by omega
  generalize p % 40 = p at hp0 hp1
  generalize q % 40 = q at hq0 hq1
  rw [wrapI (x := p) (by omega) (by omega), wrapI (x := q) (by omega) (by omega), wrapI (x := p + q) (by omega) (by omega)]
  simp only [m8_eq, m9_eq, Option.bind_some, m14_eq]
  cases (decide ((List.length c.1 : Int) ≤ 20) && decide ((List.length c.2.1 : Int) ≤ 20)) with
  | false => rfl
  | true =>
    by_cases hr : RightC c
    case neg => rw [decide_eq_false hr]; rfl
    by_cases hd : Dy d
    case neg =>
      have : (decide (d < 0) || decide (d > 200000)) = true := by
        unfold Dy at hd
        by_cases h1 : d < 0
        · simp [h1]
        · simp; omega
      rw [decide_eq_true hr]
      simp [Bool.or_assoc, this]
    have d0 := hd.1
    have d1 := hd.2
    rw [decide_eq_true hr, decide_eq_false (show ¬ d < 0 by omega), decide_eq_false (show ¬ d > 200000 by omega)]
    simp only [Bool.not_true, beq_self_eq_true, cond_true, Option.bind_some, Bool.or_self, Bool.or_false, cond_false]
    simp only [m20_eq, m16_eq, bk_ok hr hd hp0 (show p ≤ 1000 by omega), bk_ok hr hd (show 0 ≤ p + q by omega) (show p + q ≤ 1000 by omega), Option.bind_some]
    rw [show (p + q).toNat = p.toNat + q.toNat by omega, bkN_add]
    rcases bkN_spec c p.toNat d hd with ⟨x, e, x0, x1⟩ | e
    · have hx : Dy x := ⟨x0, by omega⟩
      obtain ⟨_, _, b3, b4⟩ := bkN_cnt c p.toNat d x hd e
      rw [e]
      simp only [if_true, bne_same, cond_false, bk_ok hr hx hq0 (show q ≤ 1000 by omega), Bool.false_or, Bool.and_false]
      rw [l6_eq c hr d (by omega) _ FUEL _ 0 x x0 rfl x1 (by omega) x0 (fuel_lt (by omega)), b3, show (0 : Int) + (p.toNat : Int) = p by omega]
      simp only [bne_same, Bool.false_or, beq_self_eq_true, Bool.true_and]
      rw [busS_op hr hx]
      have hlast : (bif (d == 200000) then some true else (some (bk c (IntKind.i64.wrap (d + 1)) p)).bind fun r11 => some ((r11.2.1 == 0) && decide (r11.1 ≥ x))) = some true := by
        by_cases g : d = 200000
        · subst g; rfl
        · have gb : (d == 200000) = false := by simpa using g
          rw [gb, wrapI (by omega) (by omega), bk_ok hr (show Dy (d + 1) from ⟨by omega, by omega⟩) hp0 (by omega)]
          obtain ⟨z, ez, hz⟩ := bkN_mono c p.toNat d (d + 1) x (by omega) hd ⟨by omega, by omega⟩ e
          rw [ez]
          simp [hz]
      by_cases h : p > 0
      · have hx1 := b4 (by omega)
        have hp2 : (p == 0) = false := by simp; omega
        rw [decide_eq_true h, hx1, hp2]
        simp only [beq_self_eq_true, Bool.true_and, cond_true, Option.bind_some, Bool.not_true, Bool.false_and, Bool.or_self, cond_false]
        exact hlast
      · have : p = 0 := by omega
        subst this
        have hxd : d = x := congrArg Prod.fst e
        rw [show (decide ((0 : Int) > 0)) = false from rfl]
        simp only [beq_self_eq_true, Bool.and_false, cond_false, Option.bind_some, Bool.false_and, Bool.or_self, Bool.true_and, hxd, bne_same, Bool.false_or, show (false == true) = false from rfl]
        rw [hxd] at hlast
        exact hlast
    · rw [e]; rfl

end Go.Proofs.Ytdobcidinpjkoaa
