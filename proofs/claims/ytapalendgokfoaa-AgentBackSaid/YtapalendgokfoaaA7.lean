/- Part of a proof. -/
import Derived.Test.YtapalendgokfoaaA2
namespace Go.Proofs.Ytapalendgokfoaa
open Go Go.Eng
set_option linter.unusedVariables false

theorem trF_run {t o n b : Int} (h : Rt t o) (hn : Am n) : trF t o false n b = (((chg t b).1, o, false, ()), (chg t b).2, ()) := by
  unfold trF
  rw [if_neg (fun k => k ⟨h, hn⟩ : ¬¬(Rt t o ∧ Am n))]
  rfl
theorem trF_dead {t o n b : Int} (h : Rt t o) (hn : Am n) : trF t o true n b = ((t, o, true, ()), 7, ()) := by
  unfold trF
  rw [if_neg (fun k => k ⟨h, hn⟩ : ¬¬(Rt t o ∧ Am n))]
  rfl
theorem owF_run {t o n b : Int} (h : Rt t o) (hn : Am n) : owF t o false n b = ((t, (chg o b).1, false, ()), (chg o b).2, ()) := by
  unfold owF
  rw [if_neg (fun k => k ⟨h, hn⟩ : ¬¬(Rt t o ∧ Am n))]
  rfl
theorem owF_dead {t o n b : Int} (h : Rt t o) (hn : Am n) : owF t o true n b = ((t, o, true, ()), 7, ()) := by
  unfold owF
  rw [if_neg (fun k => k ⟨h, hn⟩ : ¬¬(Rt t o ∧ Am n))]
  rfl
theorem chg_ok {a b : Int} (h1 : a + b ≤ 1000000000000000) (h2 : 0 ≤ a + b) : chg a b = (a + b, 0) := by
  unfold chg
  rw [if_neg (by omega), if_neg (by omega)]
theorem chg_full {a b : Int} (h1 : a + b > 1000000000000000) : chg a b = (a, 6) := by
  unfold chg
  rw [if_pos h1]
theorem chg_few {a b : Int} (h1 : a + b < 0) : chg a b = (a, 22) := by
  unfold chg
  rw [if_neg (by omega), if_pos h1]

theorem takeBack (t o : Int) (g : Bool) (n m : Int) (h : Rt t o) (hn : Am n) (hm : 1 ≤ m ∧ m ≤ 1000000000000000 - n) : ∃ x e, m8 (t, o, g, ()) n = some (x, e, ()) ∧
    ((e == 0) = false ∨ ((e == 0) = true ∧ m10 x n = some ((t, o, g, ()), 0, ()) ∧ ∃ y z f, m8 x m = some (y, f, ()) ∧ m8 (t, o, g, ()) (IntKind.i64.wrap (n + m)) = some (z, f, ()) ∧ ((f == 0) = true → y = z))) := by
  have hn' := hn
  have h' := h
  obtain ⟨n1, n2⟩ := hn'
  obtain ⟨h1, h2, h3, h4⟩ := h'
  rw [m8_eq]
  cases g with
  | true => rw [trF_dead h hn]; exact ⟨_, _, rfl, .inl rfl⟩
  | false =>
    rw [trF_run h hn]
    by_cases c : t + n > 1000000000000000
    · rw [chg_full c]; exact ⟨_, _, rfl, .inl rfl⟩
    · rw [chg_ok (by omega) (by omega)]
      refine ⟨_, _, rfl, .inr ⟨rfl, ?_, ?_⟩⟩
      · rw [m10_eq, trF_run ⟨by omega, by omega, h3, h4⟩ hn, chg_ok (by omega) (by omega)]
        rw [show t + n + -n = t by omega]
      · rw [m8_eq, m8_eq, wrapI (by omega) (by omega), trF_run ⟨by omega, by omega, h3, h4⟩ ⟨by omega, by omega⟩, trF_run h ⟨by omega, by omega⟩]
        by_cases c2 : t + n + m > 1000000000000000
        · rw [chg_full c2, chg_full (a := t) (by omega)]
          exact ⟨_, _, _, rfl, rfl, fun e => by cases e⟩
        · rw [chg_ok (by omega) (by omega), chg_ok (a := t) (by omega) (by omega)]
          refine ⟨_, _, _, rfl, rfl, fun _ => ?_⟩
          rw [show t + n + m = t + (n + m) by omega]

theorem earnBack (t o : Int) (g : Bool) (n : Int) (h : Rt t o) (hn : Am n) : ∃ x e, m12 (t, o, g, ()) n = some (x, e, ()) ∧
    ((e == 0) = false ∨ ((e == 0) = true ∧ m14 x n = some ((t, o, g, ()), 0, ()) ∧ x.1 = t)) := by
  have hn' := hn
  have h' := h
  obtain ⟨n1, n2⟩ := hn'
  obtain ⟨h1, h2, h3, h4⟩ := h'
  rw [m12_eq]
  cases g with
  | true => rw [owF_dead h hn]; exact ⟨_, _, rfl, .inl rfl⟩
  | false =>
    rw [owF_run h hn]
    by_cases c : o + n > 1000000000000000
    · rw [chg_full c]; exact ⟨_, _, rfl, .inl rfl⟩
    · rw [chg_ok (by omega) (by omega)]
      refine ⟨_, _, rfl, .inr ⟨rfl, ?_, rfl⟩⟩
      rw [m14_eq, owF_run ⟨h1, h2, by omega, by omega⟩ hn, chg_ok (by omega) (by omega)]
      rw [show o + n + -n = o by omega]

theorem passBack (t o : Int) (g : Bool) (t2 o2 : Int) (g2 : Bool) (n : Int) (h : Rt t o) (h2 : Rt t2 o2) (hn : Am n) : ∃ x y e, m16 (t, o, g, ()) (t2, o2, g2, ()) n = some (x, y, e, ()) ∧
    ((e == 0) = false ∨ ((e == 0) = true ∧ m16 y x n = some ((t2, o2, g2, ()), (t, o, g, ()), 0, ()) ∧ x.1 + y.1 = t + t2 ∧ x.2.1 = o ∧ y.2.1 = o2)) := by
  have hn' := hn
  have h' := h
  have h2' := h2
  obtain ⟨n1, n2⟩ := hn'
  obtain ⟨a1, a2, a3, a4⟩ := h'
  obtain ⟨b1, b2, b3, b4⟩ := h2'
  unfold m16
  rw [m10_eq, m8_eq]
  cases g with
  | true => rw [trF_dead h hn]; exact ⟨_, _, _, rfl, .inl rfl⟩
  | false =>
    rw [trF_run h hn]
    by_cases c : t + -n < 0
    · rw [chg_few c]; exact ⟨_, _, _, rfl, .inl rfl⟩
    · rw [chg_ok (by omega) (by omega)]
      cases g2 with
      | true => rw [trF_dead h2 hn]; exact ⟨_, _, _, rfl, .inl rfl⟩
      | false =>
        rw [trF_run h2 hn]
        by_cases c2 : t2 + n > 1000000000000000
        · rw [chg_full c2]; exact ⟨_, _, _, rfl, .inl rfl⟩
        · rw [chg_ok (a := t2) (by omega) (by omega)]
          refine ⟨_, _, _, rfl, .inr ⟨rfl, ?_, ?_, rfl, rfl⟩⟩
          · simp only
            rw [m10_eq, m8_eq, trF_run ⟨by omega, by omega, b3, b4⟩ hn, trF_run ⟨by omega, by omega, a3, a4⟩ hn, chg_ok (a := t2 + n) (by omega) (by omega), chg_ok (a := t + -n) (by omega) (by omega)]
            rw [show t2 + n + -n = t2 by omega, show t + -n + n = t by omega]
            rfl
          · simp only
            omega

theorem back (p q : T22) (n m : Int) : m5 p q n m = some true := by
  obtain ⟨t, o, g, u⟩ := p
  obtain ⟨t2, o2, g2, u2⟩ := q
  unfold m5
  rw [small_eq, m20_eq, m20_eq]
  simp only [Option.bind_some]
  by_cases h : Rt t o
  · by_cases h2 : Rt t2 o2
    · by_cases hn : Am n
      · have hn' := hn
        obtain ⟨n1, n2⟩ := hn'
        have hw : IntKind.i64.wrap (1000000000000000 - n) = 1000000000000000 - n := wrapI (by omega) (by omega)
        by_cases hm : 1 ≤ m ∧ m ≤ 1000000000000000 - n
        · have e1 : decide (n < 1) = false := decide_eq_false (by omega)
          have e2 : decide (n > 1000000000000000) = false := decide_eq_false (by omega)
          have e3 : decide (m < 1) = false := decide_eq_false (by omega)
          have e4 : decide (m > 1000000000000000 - n) = false := decide_eq_false (by omega)
          obtain ⟨x, e, q1, q2⟩ := takeBack t o g n m h hn hm
          obtain ⟨x', e', q1', q2'⟩ := earnBack t o g n h hn
          obtain ⟨X, Y, E, Q1, Q2⟩ := passBack t o g t2 o2 g2 n h h2 hn
          rw [hw, e1, e2, e3, e4, q1, q1', Q1]
          simp only [h, h2, decide_true, Bool.not_true, Bool.or_false, Bool.or_self, cond_false, beq_self_eq_true, cond_true, Option.bind_some]
          rcases q2 with k | ⟨k, k1, y, z, f, k2, k3, k4⟩
          · rcases q2' with l | ⟨l, l1, l2⟩
            · rcases Q2 with s | ⟨s, s1, s2, s3, s4⟩
              · simp [k, l, s]
              · simp [k, l, s, s1, s2, s3, s4]
            · rcases Q2 with s | ⟨s, s1, s2, s3, s4⟩
              · simp [k, l, l1, l2, s]
              · simp [k, l, l1, l2, s, s1, s2, s3, s4]
          · have hyz : ((f == 0) && !((y.1 == z.1) && ((y.2.1 == z.2.1) && ((y.2.2.1 == z.2.2.1) && true)))) = false := by
              cases hf : (f == 0) with
              | false => rfl
              | true =>
                rw [k4 hf]
                simp
            have hyz2 : (f == 0 && (!y.1 == z.1 || (!y.2.1 == z.2.1 || !y.2.2.1 == z.2.2.1))) = false := by simpa using hyz
            rcases q2' with l | ⟨l, l1, l2⟩
            · rcases Q2 with s | ⟨s, s1, s2, s3, s4⟩
              · simp [k, k1, k2, k3, hyz2, l, s]
              · simp [k, k1, k2, k3, hyz2, l, s, s1, s2, s3, s4]
            · rcases Q2 with s | ⟨s, s1, s2, s3, s4⟩
              · simp [k, k1, k2, k3, hyz2, l, l1, l2, s]
              · simp [k, k1, k2, k3, hyz2, l, l1, l2, s, s1, s2, s3, s4]
        · have : m < 1 ∨ m > 1000000000000000 - n := by omega
          rw [hw]
          rcases this with e | e <;> simp [h, h2, e]
      · have : n < 1 ∨ n > 1000000000000000 := by unfold Am at hn; omega
        rcases this with e | e <;> simp [h, h2, e]
    · simp [h, h2]
  · simp [h]

end Go.Proofs.Ytapalendgokfoaa
