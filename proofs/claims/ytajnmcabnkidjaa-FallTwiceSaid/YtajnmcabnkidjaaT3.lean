/- Fall: the reference's right deals; tests. -/
import Derived.Test.YtajnmcabnkidjaaT2
namespace Go.Proofs.Ytajnmcabnkidjaa
open Go Go.Eng
set_option linter.unusedVariables false
set_option linter.unusedSimpArgs false

theorem l13_1_eq {R : Type} (d : T25) (hL : d.2.2.2.2.1.length ≤ 1000000) (k1 k2 : Option R) : l13_1 d k1 k2 FUEL 0 = if ∀ t ∈ d.2.2.2.2.1, decide (OkTr t) = true then k1 else k2 := by
  refine all_loop d.2.2.2.2.1 (fun t => decide (OkTr t)) (fun n j => l13_1 d k1 k2 n j) k1 k2 hL (fun n j hj => ?_) (fun n => ?_)
  · show s13_1 d _ k1 k2 _ = _
    unfold s13_1
    rw [bifT (lt1 hj), ix hj, wrapI (x := (j : Int) + 1) (by omega) (by omega)]
    simp only [Option.bind_some, m16_eq, ig38 hj]
    unfold OkTr
    by_cases h1 : Mny (d.2.2.2.2.1[j]).1
    · by_cases h2 : Mny (d.2.2.2.2.1[j]).2.1
      · simp [h1, h2]
      · simp [h1, h2]
    · simp [h1]
  · show s13_1 d _ k1 k2 _ = _
    unfold s13_1
    rw [bifF (lt0 _)]

theorem l13_2_eq {R : Type} (d : T25) (hL : d.2.2.2.2.2.1.length ≤ 1000000) (k1 k2 : Option R) : l13_2 d k1 k2 FUEL 0 = if ∀ t ∈ d.2.2.2.2.2.1, decide (OkTe d.2.2.2.2.1.length t) = true then k1 else k2 := by
  refine all_loop d.2.2.2.2.2.1 (fun t => decide (OkTe d.2.2.2.2.1.length t)) (fun n j => l13_2 d k1 k2 n j) k1 k2 hL (fun n j hj => ?_) (fun n => ?_)
  · show s13_2 d _ k1 k2 _ = _
    unfold s13_2
    rw [bifT (lt1 hj), ix hj, wrapI (x := (j : Int) + 1) (by omega) (by omega)]
    simp only [Option.bind_some, ig38 hj]
    generalize d.2.2.2.2.2.1[j] = t
    by_cases c1 : t.1 < 1
    · have : ¬ OkTe d.2.2.2.2.1.length t := fun h => by have := h.1; omega
      rw [decide_eq_true c1, decide_eq_false this]; rfl
    rw [decide_eq_false c1]
    simp only [beq_self_eq_true, cond_true, Bool.false_or]
    by_cases c2 : t.1 > (List.length d.2.2.2.2.1 : Int)
    · have : ¬ OkTe d.2.2.2.2.1.length t := fun h => by have := h.2.1; omega
      rw [decide_eq_true c2, decide_eq_false this]; rfl
    rw [decide_eq_false c2]
    simp only [beq_self_eq_true, cond_true, Bool.false_or]
    by_cases c3 : t.2.1 < 0
    · have : ¬ OkTe d.2.2.2.2.1.length t := fun h => by have := h.2.2.1; omega
      rw [decide_eq_true c3, decide_eq_false this]; rfl
    rw [decide_eq_false c3]
    simp only [beq_self_eq_true, cond_true, Bool.false_or]
    by_cases c4 : t.2.1 > 2000
    · have : ¬ OkTe d.2.2.2.2.1.length t := fun h => by have := h.2.2.2; omega
      rw [decide_eq_true c4, decide_eq_false this]; rfl
    rw [decide_eq_false c4, decide_eq_true (show OkTe d.2.2.2.2.1.length t from ⟨by omega, by omega, by omega, by omega⟩)]
    rfl
  · show s13_2 d _ k1 k2 _ = _
    unfold s13_2
    rw [bifF (lt0 _)]

theorem st_c (nt ne : Nat) (s : T41) (m : Int) (hm : m = if s.1 = 3 then (ne : Int) else if s.1 = 0 ∨ s.1 = 1 then (nt : Int) else 1) :
    ((((((decide (s.1 < 0)) || (decide (s.1 ≥ 5))) || (decide (s.2.1 < 0))) || (decide (s.2.1 ≥ m))) || ((s.1 != 2) && (s.2.2.1 != 0))) || (!decide (Mny s.2.2.1))) = !decide (OkSt nt ne s) := by
  have z : Mny 0 := ⟨by omega, by omega⟩
  by_cases h : OkSt nt ne s
  · rw [decide_eq_true h]
    have hk : 0 ≤ s.1 ∧ s.1 < 5 := by unfold OkSt at h; omega
    have hM : Mny s.2.2.1 := by
      unfold OkSt at h
      rcases h with h | h | h | h
      · rw [h.2.2.2]; exact z
      · exact h.2.2
      · rw [h.2.2.2]; exact z
      · rw [h.2.2]; exact z
    have hN : 0 ≤ s.2.1 ∧ s.2.1 < m := by
      subst hm
      unfold OkSt at h
      rcases h with h | h | h | h
      · rw [if_neg (by omega), if_pos h.1]; omega
      · rw [if_neg (by omega), if_neg (by omega)]; omega
      · rw [if_pos h.1]; omega
      · rw [if_neg (by omega), if_neg (by omega)]; omega
    have hA : ((s.1 != 2) && (s.2.2.1 != 0)) = false := by
      by_cases h2 : s.1 = 2
      · rw [h2]; rfl
      · have : s.2.2.1 = 0 := by unfold OkSt at h; omega
        rw [this]; simp
    rw [hA, decide_eq_true hM, decide_eq_false (show ¬ s.1 < 0 by omega), decide_eq_false (show ¬ s.1 ≥ 5 by omega), decide_eq_false (show ¬ s.2.1 < 0 by omega), decide_eq_false (show ¬ s.2.1 ≥ m by omega)]
    rfl
  · rw [decide_eq_false h]
    by_cases c1 : s.1 < 0
    · rw [decide_eq_true c1]; simp
    by_cases c2 : s.1 ≥ 5
    · rw [decide_eq_true c2]; simp
    by_cases c3 : s.2.1 < 0
    · rw [decide_eq_true c3]; simp
    by_cases c4 : s.2.1 ≥ m
    · rw [decide_eq_true c4]; simp
    by_cases c5 : s.1 ≠ 2 ∧ s.2.2.1 ≠ 0
    · rw [bne_ne c5.1, bne_ne c5.2]; simp
    by_cases c6 : Mny s.2.2.1
    · exfalso
      apply h
      unfold OkSt
      have : s.1 = 0 ∨ s.1 = 1 ∨ s.1 = 2 ∨ s.1 = 3 ∨ s.1 = 4 := by omega
      rcases this with e | e | e | e | e
      · rw [if_neg (by omega), if_pos (.inl e)] at hm
        exact .inl ⟨.inl e, by omega, by omega, by omega⟩
      · rw [if_neg (by omega), if_pos (.inr e)] at hm
        exact .inl ⟨.inr e, by omega, by omega, by omega⟩
      · rw [if_neg (by omega), if_neg (by omega)] at hm
        exact .inr (.inl ⟨e, by omega, c6⟩)
      · rw [if_pos e] at hm
        exact .inr (.inr (.inl ⟨e, by omega, by omega, by omega⟩))
      · rw [if_neg (by omega), if_neg (by omega)] at hm
        exact .inr (.inr (.inr ⟨e, by omega, by omega⟩))
    · rw [decide_eq_false c6]; simp

theorem l13_3_eq {R : Type} (d : T25) (hL : d.2.2.2.2.2.2.1.length ≤ 1000000) (k1 k2 : Option R) : l13_3 d k1 k2 FUEL 0 = if ∀ t ∈ d.2.2.2.2.2.2.1, decide (OkSt d.2.2.2.2.1.length d.2.2.2.2.2.1.length t) = true then k1 else k2 := by
  refine all_loop d.2.2.2.2.2.2.1 (fun t => decide (OkSt d.2.2.2.2.1.length d.2.2.2.2.2.1.length t)) (fun n j => l13_3 d k1 k2 n j) k1 k2 hL (fun n j hj => ?_) (fun n => ?_)
  · show s13_3 d _ k1 k2 _ = _
    unfold s13_3
    rw [bifT (lt1 hj), ix hj, wrapI (x := (j : Int) + 1) (by omega) (by omega)]
    simp only [cont, Option.bind_some, m16_eq]
    generalize d.2.2.2.2.2.2.1[j] = s
    have main : ∀ m : Int, (m = if s.1 = 3 then (d.2.2.2.2.2.1.length : Int) else if s.1 = 0 ∨ s.1 = 1 then (d.2.2.2.2.1.length : Int) else 1) →
        ((bif ((((((decide (s.1 < 0)) || (decide (s.1 ≥ 5))) || (decide (s.2.1 < 0))) || (decide (s.2.1 ≥ m))) || ((s.1 != 2) && (s.2.2.1 != 0))) == false) then some (decide (Mny s.2.2.1)) else some false).bind fun r16 =>
          bif ((((((decide (s.1 < 0)) || (decide (s.1 ≥ 5))) || (decide (s.2.1 < 0))) || (decide (s.2.1 ≥ m))) || ((s.1 != 2) && (s.2.2.1 != 0))) || (!r16)) then k2 else l13_3 d k1 k2 n ((j : Int) + 1)) =
        bif decide (OkSt d.2.2.2.2.1.length d.2.2.2.2.2.1.length s) then l13_3 d k1 k2 n ((j : Int) + 1) else k2 := by
      intro m hm
      have h := st_c _ _ s m hm
      generalize hX : ((((((decide (s.1 < 0)) || (decide (s.1 ≥ 5))) || (decide (s.2.1 < 0))) || (decide (s.2.1 ≥ m))) || ((s.1 != 2) && (s.2.2.1 != 0)))) = X at h ⊢
      cases X with
      | true =>
        rw [Bool.true_or] at h
        have h := congrArg (fun b => !b) h
        simp only [Bool.not_true, Bool.not_not] at h
        rw [← h]; rfl
      | false =>
        rw [Bool.false_or] at h
        have h := congrArg (fun b => !b) h
        simp only [Bool.not_not] at h
        rw [← h]
        cases decide (Mny s.2.2.1) <;> rfl
    by_cases h01 : s.1 = 0 ∨ s.1 = 1
    · have e1 : ((s.1 == 0) || (s.1 == 1)) = true := by rcases h01 with e | e <;> simp [e]
      have e2 : (s.1 == 3) = false := by rw [beq_eq_false_iff_ne]; omega
      rw [e1, e2]
      exact main _ (by rw [if_neg (by omega), if_pos h01])
    · have e1 : ((s.1 == 0) || (s.1 == 1)) = false := by
        rw [Bool.or_eq_false_iff, beq_eq_false_iff_ne, beq_eq_false_iff_ne]; omega
      rw [e1]
      by_cases h3 : s.1 = 3
      · rw [beq_iff_eq.2 h3]
        exact main _ (by rw [if_pos h3])
      · rw [beq_eq_false_iff_ne.2 h3]
        exact main _ (by rw [if_neg h3, if_neg h01])
  · show s13_3 d _ k1 k2 _ = _
    unfold s13_3
    rw [bifF (lt0 _)]

theorem m13_eq (d : T25) : m13 d = some (decide (RightD d)) := by
  unfold m13
  simp only [m16_eq]
  rw [mnys]
  by_cases h0 : Mny d.1 ∧ Mny d.2.1 ∧ Mny d.2.2.1 ∧ Mny d.2.2.2.1
  · obtain ⟨a, b, c, e⟩ := h0
    rw [bifF (by simp [a, b, c, e])]
    by_cases h1 : d.2.2.2.2.1.length ≤ 40 ∧ d.2.2.2.2.2.1.length ≤ 40 ∧ d.2.2.2.2.2.2.1.length ≤ 40
    · obtain ⟨f, g, h⟩ := h1
      rw [bifF (by simp; omega), l13_1_eq _ (by omega), l13_2_eq _ (by omega), l13_3_eq d (by omega)]
      by_cases p1 : ∀ t ∈ d.2.2.2.2.1, OkTr t
      · rw [if_pos (fun t ht => decide_eq_true (p1 t ht))]
        by_cases p2 : ∀ t ∈ d.2.2.2.2.2.1, OkTe d.2.2.2.2.1.length t
        · rw [if_pos (fun t ht => decide_eq_true (p2 t ht))]
          by_cases p3 : ∀ s ∈ d.2.2.2.2.2.2.1, OkSt d.2.2.2.2.1.length d.2.2.2.2.2.1.length s
          · rw [if_pos (fun t ht => decide_eq_true (p3 t ht)), decide_eq_true (show RightD d from ⟨⟨a, b, c, e⟩, ⟨f, g, h⟩, p1, p2, p3⟩)]
          · rw [if_neg (fun q => p3 (fun t ht => of_decide_eq_true (q t ht))), decide_eq_false (fun q : RightD d => p3 q.2.2.2.2)]
        · rw [if_neg (fun q => p2 (fun t ht => of_decide_eq_true (q t ht))), decide_eq_false (fun q : RightD d => p2 q.2.2.2.1)]
      · rw [if_neg (fun q => p1 (fun t ht => of_decide_eq_true (q t ht))), decide_eq_false (fun q : RightD d => p1 q.2.2.1)]
    · rw [bifT (by simp; omega), decide_eq_false (fun q : RightD d => h1 q.2.1)]
  · rw [decide_eq_false (fun q : RightD d => h0 q.1), bifT]
    by_cases a : Mny d.1 <;> by_cases b : Mny d.2.1 <;> by_cases c : Mny d.2.2.1 <;> by_cases e : Mny d.2.2.2.1 <;> simp [a, b, c, e]
    exact h0 ⟨a, b, c, e⟩

/-! Tests. -/

/-- The balances of the first tranches. -/
def bal (tr : List T38) : Nat → Int := sumN fun i => (tr.getD i (0, 0, ())).1

theorem bal_b {tr : List T38} (h : ∀ t ∈ tr, OkTr t) : ∀ n, 0 ≤ bal tr n ∧ bal tr n ≤ 1000000000000000 * n
  | 0 => by simp [bal, sumN]
  | n + 1 => by
    have ih := bal_b h n
    have h1 : 0 ≤ (tr.getD n (0, 0, ())).1 ∧ (tr.getD n (0, 0, ())).1 ≤ 1000000000000000 := by
      rw [List.getD_eq_getElem?_getD]
      cases e : tr[n]? with
      | none => simp
      | some t => exact (h t (List.mem_of_getElem? e)).1
    have e : bal tr (n + 1) = bal tr n + (tr.getD n (0, 0, ())).1 := rfl
    rw [e]
    omega

/-- Is a test passed? -/
def pas (col : Int) (tr : List T38) (t : T38) : Bool := decide (bal tr t.1.toNat ≤ t.2.1 * col / 1000)

theorem lim_b {col : Int} (hc : Mny col) {nt : Nat} {t : T38} (ht : OkTe nt t) : IntKind.i64.wrap (Int.tdiv (IntKind.i64.wrap (t.2.1 * col)) 1000) = t.2.1 * col / 1000 := by
  obtain ⟨c0, c1⟩ := hc
  obtain ⟨_, _, t0, t1⟩ := ht
  have h0 : 0 ≤ t.2.1 * col := Int.mul_nonneg t0 c0
  have h1 : t.2.1 * col ≤ 2000 * 1000000000000000 := Int.mul_le_mul t1 c1 c0 (by omega)
  rw [wrapI (x := t.2.1 * col) (by omega) (by omega), tdiv_pos _ h0, wrapI (by omega) (by omega)]

theorem getD_get {tr : List T38} {i : Nat} (h : i < tr.length) : tr.getD i (0, 0, ()) = tr[i] := by
  rw [List.getD_eq_getElem?_getD, List.getElem?_eq_getElem h]; rfl

theorem l8_1_eq {R : Type} {tr : List T38} (hok : ∀ t ∈ tr, OkTr t) (n0 : Nat) (hn0 : n0 ≤ tr.length) (h40 : tr.length ≤ 40) (k : Int → Option R) : ∀ (m n j : Nat), j + m = n0 → m < n → l8_1 0 n0 (n0 : Int) tr k n (bal tr j) j = k (bal tr n0) := by
  intro m
  induction m with
  | zero =>
    intro n j hj hn
    obtain ⟨n, rfl⟩ : ∃ m, n = m + 1 := ⟨n - 1, by omega⟩
    unfold l8_1 s8_1
    rw [bifF (decide_eq_false (by omega)), show j = n0 by omega]
  | succ m ih =>
    intro n j hj hn
    obtain ⟨n, rfl⟩ : ∃ m, n = m + 1 := ⟨n - 1, by omega⟩
    have hlt : j < tr.length := by omega
    have hb := bal_b hok j
    have ht := (hok _ (List.getElem_mem hlt)).1
    have e := ih n (j + 1) (by omega) (by omega)
    have e2 : bal tr (j + 1) = bal tr j + tr[j].1 := by rw [← getD_get hlt]; rfl
    rw [e2] at e
    unfold Mny at ht
    unfold l8_1 s8_1
    rw [bifT (decide_eq_true (by omega)), asrtP (fun _ => by simp only [Bool.and_eq_true, decide_eq_true_eq]; omega), Nat.zero_add, Int.toNat_natCast, List.getElem?_eq_getElem hlt]
    simp only [Option.bind_some]
    rw [wrapI (by omega) (by omega), wrapI (x := (j : Int) + 1) (by omega) (by omega)]
    exact e

theorem l14_1_eq {R : Type} {tr : List T38} (hok : ∀ t ∈ tr, OkTr t) (n0 : Nat) (hn0 : n0 ≤ tr.length) (h40 : tr.length ≤ 40) (k : Int → Option R) : ∀ (m n j : Nat), j + m = n0 → m < n → l14_1 (tr.take n0) (n0 : Int) k n (bal tr j) j = k (bal tr n0) := by
  intro m
  induction m with
  | zero =>
    intro n j hj hn
    obtain ⟨n, rfl⟩ : ∃ m, n = m + 1 := ⟨n - 1, by omega⟩
    unfold l14_1 s14_1
    rw [bifF (decide_eq_false (by omega)), show j = n0 by omega]
  | succ m ih =>
    intro n j hj hn
    obtain ⟨n, rfl⟩ : ∃ m, n = m + 1 := ⟨n - 1, by omega⟩
    have hlt : j < tr.length := by omega
    have hb := bal_b hok j
    have ht := (hok _ (List.getElem_mem hlt)).1
    have e := ih n (j + 1) (by omega) (by omega)
    have e2 : bal tr (j + 1) = bal tr j + tr[j].1 := by rw [← getD_get hlt]; rfl
    rw [e2] at e
    unfold Mny at ht
    unfold l14_1 s14_1
    rw [bifT (decide_eq_true (by omega)), idx_nat, List.getElem?_take_of_lt (by omega), List.getElem?_eq_getElem hlt]
    simp only [Option.bind_some]
    rw [wrapI (by omega) (by omega), wrapI (x := (j : Int) + 1) (by omega) (by omega)]
    exact e

theorem l28_1_eq {R : Type} (d : T25) {i : Nat} (hi : i < d.2.2.2.2.2.1.length) (hok : ∀ t ∈ d.2.2.2.2.1, OkTr t) (h40 : d.2.2.2.2.1.length ≤ 40) (hte : OkTe d.2.2.2.2.1.length d.2.2.2.2.2.1[i]) (k : Int → Option R) : ∀ (m n j : Nat), j + m = (d.2.2.2.2.2.1[i]).1.toNat → m < n →
    l28_1 (i : Int) d k n (bal d.2.2.2.2.1 j) j = k (bal d.2.2.2.2.1 (d.2.2.2.2.2.1[i]).1.toNat) := by
  intro m
  obtain ⟨u1, u2, _, _⟩ := hte
  induction m with
  | zero =>
    intro n j hj hn
    obtain ⟨n, rfl⟩ : ∃ m, n = m + 1 := ⟨n - 1, by omega⟩
    unfold l28_1 s28_1
    rw [ix hi]
    simp only [Option.bind_some]
    rw [bifF (decide_eq_false (by omega)), ← hj, Nat.add_zero]
  | succ m ih =>
    intro n j hj hn
    obtain ⟨n, rfl⟩ : ∃ m, n = m + 1 := ⟨n - 1, by omega⟩
    have hlt : j < d.2.2.2.2.1.length := by omega
    have hb := bal_b hok j
    have ht := (hok _ (List.getElem_mem hlt)).1
    have e := ih n (j + 1) (by omega) (by omega)
    have e2 : bal d.2.2.2.2.1 (j + 1) = bal d.2.2.2.2.1 j + (d.2.2.2.2.1[j]).1 := by rw [← getD_get hlt]; rfl
    rw [e2] at e
    unfold Mny at ht
    unfold l28_1 s28_1
    rw [ix hi]
    simp only [Option.bind_some]
    rw [bifT (decide_eq_true (by omega)), ix hlt]
    simp only [Option.bind_some]
    rw [wrapI (by omega) (by omega), wrapI (x := (j : Int) + 1) (by omega) (by omega)]
    exact e

theorem l15_1_eq {R : Type} (d : T25) {i : Nat} (hi : i < d.2.2.2.2.2.1.length) (hok : ∀ t ∈ d.2.2.2.2.1, OkTr t) (h40 : d.2.2.2.2.1.length ≤ 40) (hte : OkTe d.2.2.2.2.1.length d.2.2.2.2.2.1[i]) (k : Int → Option R) : ∀ (m n j : Nat), j + m = (d.2.2.2.2.2.1[i]).1.toNat → m < n →
    l15_1 (i : Int) d k n (bal d.2.2.2.2.1 j) j = k (bal d.2.2.2.2.1 (d.2.2.2.2.2.1[i]).1.toNat) := by
  intro m
  obtain ⟨u1, u2, _, _⟩ := hte
  induction m with
  | zero =>
    intro n j hj hn
    obtain ⟨n, rfl⟩ : ∃ m, n = m + 1 := ⟨n - 1, by omega⟩
    unfold l15_1 s15_1
    rw [ix hi]
    simp only [Option.bind_some]
    rw [bifF (decide_eq_false (by omega)), ← hj, Nat.add_zero]
  | succ m ih =>
    intro n j hj hn
    obtain ⟨n, rfl⟩ : ∃ m, n = m + 1 := ⟨n - 1, by omega⟩
    have hlt : j < d.2.2.2.2.1.length := by omega
    have hb := bal_b hok j
    have ht := (hok _ (List.getElem_mem hlt)).1
    have e := ih n (j + 1) (by omega) (by omega)
    have e2 : bal d.2.2.2.2.1 (j + 1) = bal d.2.2.2.2.1 j + (d.2.2.2.2.1[j]).1 := by rw [← getD_get hlt]; rfl
    rw [e2] at e
    unfold Mny at ht
    unfold l15_1 s15_1
    rw [ix hi]
    simp only [Option.bind_some]
    rw [bifT (decide_eq_true (by omega)), ix hlt]
    simp only [Option.bind_some]
    rw [wrapI (by omega) (by omega), wrapI (x := (j : Int) + 1) (by omega) (by omega)]
    exact e

theorem m28_eq (d : T25) {i : Nat} (hc : Mny d.1) (hi : i < d.2.2.2.2.2.1.length) (hok : ∀ t ∈ d.2.2.2.2.1, OkTr t) (h40 : d.2.2.2.2.1.length ≤ 40) (hte : OkTe d.2.2.2.2.1.length d.2.2.2.2.2.1[i]) : m28 d (i : Int) = some (pas d.1 d.2.2.2.2.1 d.2.2.2.2.2.1[i]) := by
  unfold m28
  refine Eq.trans (l28_1_eq d hi hok h40 hte _ _ FUEL 0 (Nat.zero_add _) (fuel_lt (by have := hte.2.1; omega))) ?_
  rw [ix hi]
  simp only [Option.bind_some]
  rw [lim_b hc hte]
  rfl

def passS (d : T25) (i : Int) : Bool := decide (RightD d ∧ 0 ≤ i ∧ i < (d.2.2.2.2.2.1.length : Int)) && pas d.1 d.2.2.2.2.1 (d.2.2.2.2.2.1.getD i.toNat (0, 0, ()))

theorem m15_eq (d : T25) (i : Int) : m15 d i = some (passS d i) := by
  unfold m15 passS
  rw [m13_eq]
  simp only [Option.bind_some]
  by_cases h : RightD d ∧ 0 ≤ i ∧ i < (d.2.2.2.2.2.1.length : Int)
  · obtain ⟨hr, i0, i1⟩ := h
    have hlt : i.toNat < d.2.2.2.2.2.1.length := by omega
    have ei : (i.toNat : Int) = i := Int.toNat_of_nonneg i0
    have hte := hr.2.2.2.1 _ (List.getElem_mem hlt)
    rw [decide_eq_true hr, decide_eq_true (show RightD d ∧ 0 ≤ i ∧ i < (d.2.2.2.2.2.1.length : Int) from ⟨hr, i0, i1⟩), decide_eq_false (show ¬ i < 0 by omega), decide_eq_false (show ¬ i ≥ (d.2.2.2.2.2.1.length : Int) by omega)]
    simp only [Bool.not_true, Bool.or_self, cond_false, Bool.true_and]
    have e := l15_1_eq d hlt hr.2.2.1 hr.2.1.1 hte (fun y4 => (idx d.2.2.2.2.2.1 i).bind fun x5 => some (decide (y4 ≤ (IntKind.i64.wrap (Int.tdiv (IntKind.i64.wrap (x5.2.1 * d.1)) 1000))))) _ FUEL 0 (Nat.zero_add _) (fuel_lt (by have := hte.2.1; have := hr.2.1.1; omega))
    rw [ei] at e
    refine Eq.trans e ?_
    rw [idx_lt i0 i1]
    simp only [Option.bind_some]
    rw [lim_b hr.1.1 hte, getD_get hlt]
    rfl
  · rw [decide_eq_false h, bifT]
    · rfl
    · by_cases hr : RightD d
      · have : ¬ (0 ≤ i ∧ i < (d.2.2.2.2.2.1.length : Int)) := fun q => h ⟨hr, q⟩
        rw [decide_eq_true hr]
        simp
        omega
      · rw [decide_eq_false hr]; rfl

theorem m14_eq (d : T25) (i : Int) : m14 d i = some (passS d i) := by
  unfold m14 passS
  rw [m12_eq]
  simp only [Option.bind_some]
  have hc : ((decide (RightD d) && decide (i ≥ 0)) && decide (i < (d.2.2.2.2.2.1.length : Int))) = decide (RightD d ∧ 0 ≤ i ∧ i < (d.2.2.2.2.2.1.length : Int)) := by
    rw [Bool.eq_iff_iff]
    simp only [Bool.and_eq_true, decide_eq_true_eq]
    exact ⟨fun h => ⟨h.1.1, h.1.2, h.2⟩, fun h => ⟨⟨h.1, h.2.1⟩, h.2.2⟩⟩
  rw [hc]
  by_cases h : RightD d ∧ 0 ≤ i ∧ i < (d.2.2.2.2.2.1.length : Int)
  · rw [decide_eq_true h]
    obtain ⟨hr, i0, i1⟩ := h
    have hlt : i.toNat < d.2.2.2.2.2.1.length := by omega
    have ei : (i.toNat : Int) = i := Int.toNat_of_nonneg i0
    have hte := hr.2.2.2.1 _ (List.getElem_mem hlt)
    obtain ⟨u1, u2, _, _⟩ := hte
    have eg : idxG ((true : Bool) == true) (0, 0, ()) d.2.2.2.2.2.1 i = some (d.2.2.2.2.2.1[i.toNat]) := idx_lt i0 i1
    rw [eg]
    simp only [beq_self_eq_true, cond_true, Option.bind_some, Bool.true_and]
    rw [asrtP (fun _ => by unfold bounds; simp; omega)]
    have es : subl d.2.2.2.2.1 0 (d.2.2.2.2.2.1[i.toNat]).1 = d.2.2.2.2.1.take (d.2.2.2.2.2.1[i.toNat]).1.toNat := by unfold subl; simp
    rw [es]
    have el : ((d.2.2.2.2.1.take (d.2.2.2.2.2.1[i.toNat]).1.toNat).length : Int) = ((d.2.2.2.2.2.1[i.toNat]).1.toNat : Int) := by rw [List.length_take]; omega
    rw [el]
    refine Eq.trans (l14_1_eq hr.2.2.1 _ (by omega) hr.2.1.1 _ _ FUEL 0 (Nat.zero_add _) (fuel_lt (by have := hr.2.1.1; omega))) ?_
    rw [lim_b hr.1.1 ⟨u1, u2, ‹_›, ‹_›⟩, getD_get hlt]
    rfl
  · rw [decide_eq_false h]
    rfl

end Go.Proofs.Ytajnmcabnkidjaa
