/- TradeLoans and TradeLater: the plain laws. -/
import Derived.Test.YtihcngohiffaeaaT5
namespace Go.Proofs.Ytihcngohiffaeaa
open Go Go.Eng
set_option linter.unusedVariables false
set_option linter.unusedSimpArgs false

theorem fst1_spec {u : List Int} {now : Int} {l : List T25} : (fst1 u now l = none ∧ ∀ t ∈ l, ¬ Can u now t) ∨ ∃ i, ∃ hi : i < l.length, fst1 u now l = some i ∧ Can u now l[i] ∧ ∀ j (hj : j < i), ¬ Can u now (l[j]'(by omega)) := by
  cases h : fst1 u now l with
  | none =>
    unfold fst1 at h
    rw [List.findIdx?_eq_none_iff] at h
    exact .inl ⟨rfl, fun t ht => by simpa using h t ht⟩
  | some i =>
    unfold fst1 at h
    rw [List.findIdx?_eq_some_iff_getElem] at h
    obtain ⟨hi, h1, h2⟩ := h
    exact .inr ⟨i, hi, rfl, by simpa using h1, fun j hj => by simpa using h2 j hj⟩

theorem wt_pos {t : T25} (h : t.2.2.2.2.2.2.1 = -1) : 1 ≤ wt t := by
  unfold wt
  rw [if_pos h]
  split <;> omega

theorem wt_le_mu {l : List T25} {i : Nat} (hi : i < l.length) : wt l[i] ≤ mu l := by
  have := mu_set l i hi l[i]
  have h := mu_set l i hi (0, 0, 0, 0, 0, 0, 0, 0, ())
  have : wt (0, 0, 0, 0, 0, 0, 0, 0, ()) = 0 := rfl
  omega

/-- More rounds change nothing. -/
theorem settle_fix {now : Int} (hn : 0 ≤ now) : ∀ (n : Nat) (u : List Int) (l : List T25), mu l ≤ n → settle now n u l = settle now (mu l) u l
  | 0, u, l, h => by
    have : mu l = 0 := by omega
    rw [this]
  | n + 1, u, l, h => by
    rcases fst1_spec (u := u) (now := now) (l := l) with ⟨_, h2⟩ | ⟨i, hi, _, hc, hb⟩
    · rw [settle_none h2, settle_none h2]
    · have hm := mu_step (now := now) hi hc.1 hn
      rw [settle_some hi hc hb, settle_fix hn n _ _ (by omega), show mu l = mu (stepL now l i l[i]) + 1 by omega, settle_some hi hc hb]

theorem settleS_ok {S : List T60} {u : List Int} {l : List T25} {now : Int} (hr : RightT S l) (hv : Valid S u) (hn : Day now) (hl : (settle now (mu l) u l).2.length ≤ 10000) :
    settleS S u l now = ((settle now (mu l) u l).1, (settle now (mu l) u l).2, 0, ()) := by
  unfold settleS
  rw [if_pos ⟨hr, hv, hn⟩, if_pos hl]

theorem settle_st {S : List T60} {now : Int} (hn : Day now) : ∀ (n : Nat) (u : List Int) (l : List T25), St1 S u l → St1 S (settle now n u l).1 (settle now n u l).2
  | 0, u, l, h => h
  | n + 1, u, l, h => by
    rcases fst1_spec (u := u) (now := now) (l := l) with ⟨_, h2⟩ | ⟨i, hi, _, hc, hb⟩
    · rw [settle_none h2]; exact h
    · rw [settle_some hi hc hb]
      exact settle_st hn n _ _ (h.step hn hi hc)

theorem settle_two {now : Int} {u : List Int} {t : T25} (hc : Can u now t) (hk : t.1 = 1) (hn : 0 ≤ now) (hb : now < t.2.2.2.2.2.2.2.1) : settle now (mu [t]) u [t] = (stepU u t, [setD now t, backT now t]) := by
  have hm : mu [t] = 1 + 1 := by
    show wt t + 0 = 2
    unfold wt
    rw [if_pos hc.1, if_pos hk]
  have hl : stepL now [t] 0 t = [setD now t, backT now t] := by
    unfold stepL
    rw [if_pos hk]; rfl
  rw [hm, settle_some (l := [t]) (i := 0) (by simp) hc (fun j hj => by omega)]
  show settle now 1 (stepU u t) (stepL now [t] 0 t) = _
  rw [hl]
  refine settle_none (fun x hx => ?_) 1
  rcases List.mem_cons.1 hx with rfl | hx
  · intro h
    have := h.1
    simp only [setD] at this
    omega
  · rw [List.mem_singleton.1 hx]
    intro h
    have := h.2.1
    simp only [backT] at this
    omega

theorem settle_back {now : Int} {u : List Int} {a b : T25} (ha : a.2.2.2.2.2.2.1 ≠ -1) (hc : Can u now b) (hk : b.1 = 0) (hn : 0 ≤ now) : settle now (mu [a, b]) u [a, b] = (stepU u b, [a, setD now b]) := by
  have hm : mu [a, b] = 0 + 1 := by
    show wt a + (wt b + 0) = 1
    unfold wt
    rw [if_neg ha, if_pos hc.1, if_neg (by omega)]
  have hl : stepL now [a, b] 1 b = [a, setD now b] := by
    unfold stepL
    rw [if_neg (by omega)]; rfl
  rw [hm, settle_some (l := [a, b]) (i := 1) (by simp) hc (fun j hj => by
    have : j = 0 := by omega
    subst this
    exact fun h => ha h.1)]
  show settle now 0 (stepU u b) (stepL now [a, b] 1 b) = _
  rw [hl]
  rfl

theorem mv_back {u : List Int} {f t : Nat} {n : Int} (hf : f < u.length) (ht : t < u.length) : mvU (mvU u f t n) t f n = u := by
  have hl := mvU_len u f t n
  refine ext_gI (by rw [mvU_len, mvU_len]) fun i hi => ?_
  rw [mvU_get (by rw [hl]; exact ht) (by rw [hl]; exact hf), mvU_get hf ht]
  omega

theorem opN_none {l : List T25} {d : Int} (h : ∀ (i : Nat) (hi : i < l.length), ¬ (l[i].2.2.2.2.2.2.1 = -1 ∧ l[i].2.2.2.2.2.1 ≤ d)) : ∀ j, opN l d j = []
  | 0 => rfl
  | j + 1 => by
    by_cases hj : j < l.length
    · rw [op_round hj, if_neg (h j hj), opN_none h j]
    · simp only [opN, List.getElem?_eq_none (show l.length ≤ j by omega), opN_none h j]
      rfl

theorem tradeLoans (S : List T60) (u : List Int) (t : T25) : m5 S u t = some true := by
  unfold m5
  rw [small7, few8]
  simp only [Option.bind_some]
  by_cases hfew : S.length ≤ 10 ∧ u.length ≤ 10 ∧ ([] : List T25).length ≤ 12
  case neg => rw [decide_eq_false hfew]; rfl
  rw [decide_eq_true hfew]
  have hS : S.length ≤ 20000 := by omega
  simp only [Bool.not_true, beq_self_eq_true, cond_true, Bool.false_or, m19_eq S u hS, Option.bind_some, m13_eq]
  by_cases hv : Valid S u
  case neg => rw [decide_eq_false hv]; rfl
  rw [decide_eq_true hv]
  simp only [Bool.not_true, cond_false]
  by_cases hA : RightT S [] ∧ OneP S t ∧ t.2.2.2.2.2.2.1 = -1
  case neg =>
    have : addS S [] t = ([], 1, ()) := by unfold addS; rw [if_neg hA]
    rw [this]
    rfl
  have hadd : addS S [] t = ([t], 0, ()) := by
    unfold addS
    rw [if_pos hA, if_pos (by decide)]; rfl
  rw [hadd]
  simp only [bne_same, Bool.false_or, Option.bind_some]
  by_cases hk : t.1 = 1
  case neg =>
    have : (t.1 != 1) = true := by simpa using hk
    rw [this]
    rfl
  rw [show (t.1 != 1) = false by rw [hk]; rfl]
  obtain ⟨hr0, ho, hdn⟩ := hA
  obtain ⟨⟨⟨f0, f1⟩, lf⟩, ⟨⟨g0, g1⟩, lg⟩, ⟨hne, u1, u2⟩, ⟨d1, d2, d3, d4⟩, hkk⟩ := id ho
  have hul := hv.2.1
  have hfl : t.2.1.toNat < u.length := by omega
  have hgl : t.2.2.1.toNat < u.length := by omega
  have hfg : t.2.1.toNat ≠ t.2.2.1.toNat := by omega
  have ix : ∀ (w : List Int), w.length = u.length → idx w t.2.1 = some (gI w t.2.1.toNat) := fun w hw => by rw [idx_pos f0]; exact gI_get (by omega)
  have iy : ∀ (w : List Int), w.length = u.length → idx w t.2.2.1 = some (gI w t.2.2.1.toNat) := fun w hw => by rw [idx_pos g0]; exact gI_get (by omega)
  have hbk : Day t.2.2.2.2.2.2.2.1 ∧ t.2.2.2.2.2.1 < t.2.2.2.2.2.2.2.1 := by
    rcases hkk with ⟨h0, _⟩ | ⟨_, h1, h2⟩
    · omega
    · exact ⟨h1, h2⟩
  simp only [beq_self_eq_true, idxG, cond_true, ix u rfl, Option.bind_some, Bool.false_or]
  by_cases hfw : gI u t.2.1.toNat < t.2.2.2.1
  · rw [bifT (decide_eq_true hfw)]
    rfl
  rw [bifF (decide_eq_false hfw)]
  have hrt : RightT S [t] := ⟨hr0.1, (by show (1 : Nat) ≤ 10000; omega), fun x hx => by rw [List.mem_singleton.1 hx]; exact ho⟩
  have hc : Can u t.2.2.2.2.2.1 t := ⟨hdn, Int.le_refl _, by omega⟩
  have hst : St1 S u [t] := ⟨hv, hrt.2.2⟩
  have s1 := settle_two hc hk d2.1 hbk.2
  have st1 := settle_st d2 (mu [t]) u [t] hst
  rw [s1] at st1
  have e1 : settleS S u [t] t.2.2.2.2.2.1 = (stepU u t, [setD t.2.2.2.2.2.1 t, backT t.2.2.2.2.2.1 t], 0, ()) := by
    rw [settleS_ok hrt hv d2 (by rw [s1]; show (2 : Nat) ≤ 10000; omega), s1]
  have hu1 : (stepU u t).length = u.length := stepU_len u t
  have gf : gI (stepU u t) t.2.1.toNat = gI u t.2.1.toNat - t.2.2.2.1 := by
    unfold stepU
    rw [mvU_get hfl hgl, if_pos rfl, if_neg hfg]; omega
  have gg : gI (stepU u t) t.2.2.1.toNat = gI u t.2.2.1.toNat + t.2.2.2.1 := by
    unfold stepU
    rw [mvU_get hfl hgl, if_neg (fun e => hfg e.symm), if_pos rfl]; omega
  have nf := hv.nn (i := t.2.1.toNat) (by omega)
  have ng := hv.nn (i := t.2.2.1.toNat) (by omega)
  have hback : backT t.2.2.2.2.2.1 t = (0, t.2.2.1, t.2.1, t.2.2.2.1, t.2.2.2.2.2.1, t.2.2.2.2.2.2.2.1, -1, 0, ()) := by
    unfold backT
    rw [Int.max_eq_left (by omega)]
  have hc2 : Can (stepU u t) t.2.2.2.2.2.2.2.1 (backT t.2.2.2.2.2.1 t) := by
    rw [hback]
    exact ⟨rfl, Int.le_refl _, by show t.2.2.2.1 ≤ gI (stepU u t) t.2.2.1.toNat; rw [gg]; omega⟩
  have s2 := settle_back (a := setD t.2.2.2.2.2.1 t) (b := backT t.2.2.2.2.2.1 t) (by
    have := d2.1
    simp only [setD]; omega) hc2 rfl hbk.1.1
  have eu : stepU (stepU u t) (backT t.2.2.2.2.2.1 t) = u := by
    rw [hback]
    exact mv_back hfl hgl
  have e2 : settleS S (stepU u t) [setD t.2.2.2.2.2.1 t, backT t.2.2.2.2.2.1 t] t.2.2.2.2.2.2.2.1 = (u, [setD t.2.2.2.2.2.1 t, setD t.2.2.2.2.2.2.2.1 (backT t.2.2.2.2.2.1 t)], 0, ()) := by
    rw [settleS_ok ⟨hr0.1, (by show (2 : Nat) ≤ 10000; omega), st1.one⟩ st1.val hbk.1 (by rw [s2]; show (2 : Nat) ≤ 10000; omega), s2, eu]
  have hopen : opN [setD t.2.2.2.2.2.1 t, setD t.2.2.2.2.2.2.2.1 (backT t.2.2.2.2.2.1 t)] t.2.2.2.2.2.2.2.1 2 = [] := by
    refine opN_none (fun i hi h => ?_) 2
    have hi2 : i = 0 ∨ i = 1 := by
      have : i < 2 := hi
      omega
    have b0 := d2.1
    have b1 := hbk.1.1
    rcases hi2 with rfl | rfl
    · have := h.1; simp only [List.getElem_cons_zero, setD] at this; omega
    · have := h.1; simp only [List.getElem_cons_succ, List.getElem_cons_zero, setD] at this; omega
  simp only [m9_eq, e1, Option.bind_some, cont]
  by_cases hd0 : t.2.2.2.2.2.1 > 0
  · rw [bifT (decide_eq_true hd0), wrapI (x := t.2.2.2.2.2.1 - 1) (by have := d2.2; omega) (by have := d2.2; omega)]
    have hnc : ∀ x ∈ [t], ¬ Can u (t.2.2.2.2.2.1 - 1) x := fun x hx h => by
      rw [List.mem_singleton.1 hx] at h
      have := h.2.1
      omega
    have e0 : settleS S u [t] (t.2.2.2.2.2.1 - 1) = (u, [t], 0, ()) := by
      have d2' := d2
      unfold Day at d2'
      rw [settleS_ok hrt hv (by unfold Day; omega) (by rw [settle_none hnc]; show (1 : Nat) ≤ 10000; omega), settle_none hnc]
    rw [e0]
    simp only [Option.bind_some, bne_same, beq_self_eq_true, cond_true, Bool.false_or]
    rw [m11_eq _ _ (by omega), decide_eq_true rfl]
    simp only [Option.bind_some, Bool.not_true, beq_self_eq_true, cond_true, Bool.false_or]
    rw [m12_eq _ _ (by show (1 : Nat) ≤ 1000000; omega), decide_eq_true rfl]
    simp only [Option.bind_some, Bool.not_true, beq_self_eq_true, cond_true, Bool.false_or]
    rw [m17_eq _ (by show (1 : Nat) ≤ 100000; omega), opN_none (fun i hi h => by
      have : i < 1 := hi
      have : i = 0 := by omega
      subst this
      have := h.2
      simp only [List.getElem_cons_zero] at this
      omega)]
    simp only [Option.bind_some]
    rw [bifF (by rfl)]
    rw [hu1]
    simp only [bne_same, Bool.or_self, beq_self_eq_true, idxG, cond_true, ix (stepU u t) hu1, ix u rfl, Option.bind_some, gf, Bool.false_or]
    rw [wrapI (x := gI u t.2.1.toNat - t.2.2.2.1) (by omega) (by omega)]
    simp only [bne_same, Bool.or_self, beq_self_eq_true, cond_true, iy (stepU u t) hu1, iy u rfl, Option.bind_some, gg, Bool.false_or]
    rw [wrapI (x := gI u t.2.2.1.toNat + t.2.2.2.1) (by omega) (by omega)]
    simp only [bne_same, cond_false, e2, Option.bind_some, beq_self_eq_true, Bool.and_self, cond_true]
    rw [m11_eq _ _ (by omega), decide_eq_true rfl]
    simp only [Option.bind_some, Bool.and_self, beq_self_eq_true, cond_true]
    rw [m17_eq _ (by show (2 : Nat) ≤ 100000; omega)]
    simp only [Option.bind_some]
    show some (true && ((List.length (opN _ _ 2) : Int) == 0)) = some true
    rw [hopen]
    rfl
  · rw [bifF (decide_eq_false hd0)]
    rw [hu1]
    simp only [bne_same, Bool.or_self, beq_self_eq_true, idxG, cond_true, ix (stepU u t) hu1, ix u rfl, Option.bind_some, gf, Bool.false_or]
    rw [wrapI (x := gI u t.2.1.toNat - t.2.2.2.1) (by omega) (by omega)]
    simp only [bne_same, Bool.or_self, beq_self_eq_true, cond_true, iy (stepU u t) hu1, iy u rfl, Option.bind_some, gg, Bool.false_or]
    rw [wrapI (x := gI u t.2.2.1.toNat + t.2.2.2.1) (by omega) (by omega)]
    simp only [bne_same, cond_false, e2, Option.bind_some, beq_self_eq_true, Bool.and_self, cond_true]
    rw [m11_eq _ _ (by omega), decide_eq_true rfl]
    simp only [Option.bind_some, Bool.and_self, beq_self_eq_true, cond_true]
    rw [m17_eq _ (by show (2 : Nat) ≤ 100000; omega)]
    simp only [Option.bind_some]
    show some (true && ((List.length (opN _ _ 2) : Int) == 0)) = some true
    rw [hopen]
    rfl

end Go.Proofs.Ytihcngohiffaeaa
