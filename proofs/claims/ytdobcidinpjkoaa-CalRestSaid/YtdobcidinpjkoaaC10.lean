/- CalRest: the plain law. -/
import Derived.Test.YtdobcidinpjkoaaC9
namespace Go.Proofs.Ytdobcidinpjkoaa
open Go Go.Eng
set_option linter.unusedVariables false
set_option linter.unusedSimpArgs false

theorem lim_ok {n : Nat} (h : n ≤ 4000) : decide (n ≤ LIM) = true := decide_eq_true (Nat.le_trans h (by decide))

theorem l7_eq {R : Type} (r : Int) (c : T23) (hs : List.Pairwise (· < ·) c.2.1) (h19 : List.length c.2.1 ≤ 1000) (k1 : Bool → List Int → Option R) :
    ∀ (d n i : Nat) (put : Bool) (M : List Int), i + d = List.length c.2.1 → d < n → Ins c.2.1 r i put M →
      ∃ put' M', Ins c.2.1 r (List.length c.2.1) put' M' ∧ l7_1 r c k1 n put i M = k1 put' M' := by
  intro d
  induction d with
  | zero =>
    intro n i put M hi hd h
    obtain ⟨n, rfl⟩ : ∃ m, n = m + 1 := ⟨n - 1, by omega⟩
    refine ⟨put, M, by rw [← hi]; exact h, ?_⟩
    show s7_1 r c (l7_1 r c k1 n) k1 put i M = _
    unfold s7_1
    rw [bifF (decide_eq_false (by omega))]
  | succ d ih =>
    intro n i put M hi hd h
    obtain ⟨n, rfl⟩ : ∃ m, n = m + 1 := ⟨n - 1, by omega⟩
    have hlt : i < List.length c.2.1 := by
      have : i < List.length c.2.1 := by omega
      exact this
    have hlen := h.len
    have step : ∃ put' M', Ins c.2.1 r (i + 1) put' M' ∧ l7_1 r c k1 (n + 1) put i M = l7_1 r c k1 n put' (i + 1 : Nat) M' := by
      show ∃ put' M', Ins c.2.1 r (i + 1) put' M' ∧ s7_1 r c (l7_1 r c k1 n) k1 put i M = _
      unfold s7_1
      rw [bifT (decide_eq_true (show (i : Int) < (List.length c.2.1 : Int) by omega)), idx_nat, List.getElem?_eq_getElem hlt, wrapI (x := (i : Int) + 1) (by omega) (by omega)]
      simp only [Option.bind_some, cont]
      have e : ((i : Int) + 1) = ((i + 1 : Nat) : Int) := by omega
      rw [e]
      by_cases hv : c.2.1[i] ≥ r
      · cases put with
        | false =>
          rw [decide_eq_true hv]
          have g := h.here hs hlt hv
          simp only [Bool.not_false, Bool.and_self, cond_true]
          rw [asrtP (fun _ => lim_ok (by simp; omega))]
          by_cases he : c.2.1[i] = r
          · rw [if_pos he] at g
            rw [bifF (by rw [he]; exact bne_same r)]
            exact ⟨_, _, g, rfl⟩
          · rw [if_neg he] at g
            rw [bifT (bne_ne he), asrtP (fun _ => lim_ok (by simp; omega))]
            exact ⟨_, _, g, rfl⟩
        | true =>
          obtain ⟨he, g⟩ := h.skip hs hlt (.inr rfl)
          simp only [Bool.not_true, Bool.and_false, cond_false]
          rw [bifT (bne_ne he), asrtP (fun _ => lim_ok (by simp; omega))]
          exact ⟨_, _, g, rfl⟩
      · obtain ⟨he, g⟩ := h.skip hs hlt (.inl (by omega))
        rw [decide_eq_false hv]
        simp only [Bool.false_and, cond_false]
        rw [bifT (bne_ne he), asrtP (fun _ => lim_ok (by simp; omega))]
        exact ⟨_, _, g, rfl⟩
    obtain ⟨put', M', g1, g2⟩ := step
    rw [g2]
    exact ih n (i + 1) put' M' (by omega) (by omega) g1

theorem calRest (c : T23) (r d p : Int) (hp : 0 ≤ p ∧ p ≤ 255) : m7 c r d p = some true := by
  unfold m7
  rw [tmod_pos _ hp.1]
  have hp0 : 0 ≤ p % 40 := by omega
  have hp1 : p % 40 < 40 := by omega
  generalize p % 40 = p at hp0 hp1
  rw [wrapI (x := p) (by omega) (by omega)]
  simp only [m8_eq, m9_eq, Option.bind_some, m14_eq]
  by_cases hall : (List.length c.1 ≤ 20 ∧ List.length c.2.1 ≤ 19) ∧ RightC c ∧ Dy d ∧ Dy r
  case neg =>
    have e1 : (bif ((!(decide ((List.length c.1 : Int) ≤ 20) && decide ((List.length c.2.1 : Int) ≤ 20)) || decide ((List.length c.2.1 : Int) > 19)) == false) then some (decide (RightC c)) else some false) = some (!(!(decide ((List.length c.1 : Int) ≤ 20) && decide ((List.length c.2.1 : Int) ≤ 20)) || decide ((List.length c.2.1 : Int) > 19)) && decide (RightC c)) := by
      cases (!(decide ((List.length c.1 : Int) ≤ 20) && decide ((List.length c.2.1 : Int) ≤ 20)) || decide ((List.length c.2.1 : Int) > 19)) <;> simp
    rw [e1]
    simp only [Option.bind_some]
    rw [bifT]
    unfold Dy at hall
    by_cases hr : RightC c
    · rw [decide_eq_true hr]
      simp only [Bool.or_eq_true, Bool.not_eq_true', Bool.and_eq_false_iff, decide_eq_false_iff_not, decide_eq_true_eq, Bool.not_eq_eq_eq_not, Bool.not_true, Bool.and_true, Bool.or_eq_false_iff]
      have : ¬ ((List.length c.1 ≤ 20 ∧ List.length c.2.1 ≤ 19) ∧ (0 ≤ d ∧ d ≤ 200000) ∧ (0 ≤ r ∧ r ≤ 200000)) := fun h => hall ⟨h.1, hr, h.2⟩
      omega
    · rw [decide_eq_false hr]; simp
  obtain ⟨⟨h20, h19⟩, hr, hd, hrd⟩ := hall
  have d0 := hd.1
  have d1 := hd.2
  have r0 := hrd.1
  have r1 := hrd.2
  rw [decide_eq_true hr, decide_eq_true (show (List.length c.1 : Int) ≤ 20 by omega), decide_eq_true (show (List.length c.2.1 : Int) ≤ 20 by omega), decide_eq_false (show ¬ (List.length c.2.1 : Int) > 19 by omega)]
  simp only [Bool.and_self, Bool.not_true, Bool.or_self, beq_self_eq_true, cond_true, Option.bind_some]
  rw [decide_eq_false (show ¬ d < 0 by omega), decide_eq_false (show ¬ d > 200000 by omega), decide_eq_false (show ¬ r < 0 by omega), decide_eq_false (show ¬ r > 200000 by omega)]
  simp only [Bool.or_self, cond_false]
  have hs := (asc_pair hr.2.2.2).1
  obtain ⟨put, M, hI, hl⟩ := l7_eq r c hs (by omega) (fun y9 y10 =>
        cont (fun (k11 : (List Int) → _) =>
          bif (!y9) then
            asrt true (decide (List.length (α := Int) y10 + List.length (α := Int) [r] ≤ LIM)) (
              k11 (y10 ++ [r]))
          else
            k11 y10) fun y11 =>
        (m10 c d).bind fun r12 =>
        (m10 (c.1, y11, ()) d).bind fun r13 =>
        (m20 c d p).bind fun r14 =>
        (m20 (c.1, y11, ()) d p).bind fun r15 =>
        (some (decide (RightC (c.1, y11, ())))).bind fun r16 =>
        (bif ((!r16) == false) then (m16 (c.1, y11, ()) r) else some false).bind fun r17 =>
        bif ((((!r16) || r17) || ((r13.2.1 == 0) && ((r12.2.1 != 0) || (decide (r13.1 < r12.1))))) || ((r15.2.1 == 0) && ((r14.2.1 != 0) || (decide (r15.1 > r14.1))))) then
          some false
        else
          (bif ((true == true) && ((d == r) == false)) then (m16 c d) else some false).bind fun r18 =>
          (bif ((true == true) && ((d == r) == false)) then (m16 (c.1, y11, ()) d) else some false).bind fun r19 =>
          some (true && ((d == r) || (r18 == r19)))) (List.length c.2.1) FUEL 0 false [] (by omega) (fuel_lt (by omega)) (Ins.zero _ _)
  rw [show ((0 : Nat) : Int) = 0 from rfl] at hl
  simp only [Option.bind_some] at hl
  refine Eq.trans hl ?_
  have hmore := hI.done
  have hlenM := hI.len
  rw [cont_eq (bif put then M else M ++ [r]) (by
    intro k
    cases put with
    | true => rfl
    | false =>
      simp only [Bool.not_false, cond_true, cond_false]
      rw [asrtP (fun _ => lim_ok (by simp; omega))])]
  generalize (bif put then M else M ++ [r]) = M' at hmore
  have hR : RightC (c.1, M', ()) := more_right hr h19 hrd hmore
  have hop := more_op hmore
  have hle : ∀ y, op (c.1, M', ()) y = true → op c y = true := fun y hy => by
    rw [hop] at hy
    simp only [Bool.and_eq_true] at hy
    exact hy.1
  rw [m10_eq, m10_eq, m20_eq, m20_eq, m16_eq, m16_eq, m16_eq, nxt_ok hr hd, nxt_ok hR hd, bk_ok hr hd hp0 (by omega), bk_ok hR hd hp0 (by omega), decide_eq_true hR, busS_op hR hrd, busS_op hr hd, busS_op hR hd]
  simp only [Option.bind_some, Bool.not_true, beq_self_eq_true, cond_true, Bool.false_or]
  have e1 : op (c.1, M', ()) r = false := by rw [hop]; simp
  rw [e1]
  simp only [Bool.false_or]
  have e2 : (((up (c.1, M', ()) d).2.1 == 0) && (((up c d).2.1 != 0) || decide ((up (c.1, M', ()) d).1 < (up c d).1))) = false := by
    rcases up_spec (c.1, M', ()) d with ⟨x, ex, _⟩ | ⟨ex, _⟩
    · obtain ⟨a, ea, hab⟩ := up_less hle ex
      rw [ex, ea]
      simp; omega
    · rw [ex]; rfl
  have e3 : (((bkN (c.1, M', ()) p.toNat d).2.1 == 0) && (((bkN c p.toNat d).2.1 != 0) || decide ((bkN (c.1, M', ()) p.toNat d).1 > (bkN c p.toNat d).1))) = false := by
    rcases bkN_spec (c.1, M', ()) p.toNat d hd with ⟨x, ex, _⟩ | ex
    · obtain ⟨z, ez, hz⟩ := bkN_less hle p.toNat d d x (Int.le_refl _) hd hd ex
      rw [ex, ez]
      simp; omega
    · rw [ex]; rfl
  rw [e2, e3]
  simp only [Bool.or_self, cond_false, Bool.true_and]
  cases hq : (d == r) with
  | true => simp
  | false =>
    rw [hop, hq]
    simp

end Go.Proofs.Ytdobcidinpjkoaa
