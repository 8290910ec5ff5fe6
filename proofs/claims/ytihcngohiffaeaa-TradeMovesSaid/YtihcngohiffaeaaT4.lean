/- What settles. -/
import Derived.Test.YtihcngohiffaeaaT3
namespace Go.Proofs.Ytihcngohiffaeaa
open Go Go.Eng
set_option linter.unusedVariables false
set_option linter.unusedSimpArgs false

/-! ### Valid units -/

theorem l24_eq {R : Type} (S : List T60) (u : List Int) (hl : u.length = S.length) (hL : S.length ≤ 20000) {o : List Bool} (ho : Lf S o) (k1 k2 : Option R) : ∀ (d n j : Nat), j + d = S.length → d < n →
    (∀ i, i < j → 0 ≤ gI u i ∧ (0 < gI u i → LeafP S i)) → 0 ≤ sumN (gI u) j → sumN (gI u) j ≤ 1000000000 →
    l24_1 u o (List.length o : Int) k1 k2 n (sumN (gI u) j) j = bif decide ((∀ i, i < S.length → 0 ≤ gI u i ∧ (0 < gI u i → LeafP S i)) ∧ sumN (gI u) S.length ≤ 1000000000) then k1 else k2 := by
  intro d
  induction d with
  | zero =>
    intro n j hj hn h h0 h1
    obtain ⟨n, rfl⟩ : ∃ m, n = m + 1 := ⟨n - 1, by omega⟩
    have hj : j = S.length := by omega
    subst hj
    show s24_1 u o _ (l24_1 u o _ k1 k2 n) k1 k2 _ _ = _
    unfold s24_1
    rw [bifF (decide_eq_false (by rw [ho.1]; omega)), decide_eq_true ⟨h, h1⟩]
    rfl
  | succ d ih =>
    intro n j hj hn h h0 h1
    obtain ⟨n, rfl⟩ : ∃ m, n = m + 1 := ⟨n - 1, by omega⟩
    have hlt : j < S.length := by omega
    show s24_1 u o _ (l24_1 u o _ k1 k2 n) k1 k2 _ _ = _
    unfold s24_1
    rw [bifT (decide_eq_true (by rw [ho.1]; omega)), idx_nat, ho.2 j hlt, idx_nat, gI_get (show j < u.length by omega)]
    simp only [Option.bind_some]
    rw [wrapI (x := 1000000000 - sumN (gI u) j) (by omega) (by omega)]
    have hs : sumN (gI u) (j + 1) = sumN (gI u) j + gI u j := rfl
    have hlf : (∀ k, k < S.length → P S k ≠ j) ↔ LeafP S (j : Int) := Iff.rfl
    by_cases hb : (0 ≤ gI u j ∧ gI u j ≤ 1000000000 - sumN (gI u) j) ∧ (gI u j ≠ 0 → LeafP S (j : Int))
    · obtain ⟨⟨b1, b2⟩, b3⟩ := hb
      have e : (((decide (gI u j < 0)) || (decide (gI u j > 1000000000 - sumN (gI u) j))) || ((!decide (∀ k, k < S.length → P S k ≠ j)) && (gI u j != 0))) = false := by
        rw [decide_eq_false (show ¬ gI u j < 0 by omega), decide_eq_false (show ¬ gI u j > 1000000000 - sumN (gI u) j by omega)]
        by_cases hz : gI u j = 0
        · rw [hz]; simp
        · rw [decide_eq_true (hlf.2 (b3 hz))]; rfl
      rw [bifF e, wrapI (x := sumN (gI u) j + gI u j) (by omega) (by omega), wrapI (x := (j : Int) + 1) (by omega) (by omega), ← hs]
      refine ih n (j + 1) (by omega) (by omega) (fun i hi => ?_) (by omega) (by omega)
      by_cases hij : i = j
      · subst hij; exact ⟨b1, fun hp => b3 (by omega)⟩
      · exact h i (by omega)
    · have e : (((decide (gI u j < 0)) || (decide (gI u j > 1000000000 - sumN (gI u) j))) || ((!decide (∀ k, k < S.length → P S k ≠ j)) && (gI u j != 0))) = true := by
        by_cases c1 : gI u j < 0
        · rw [decide_eq_true c1]; rfl
        by_cases c2 : gI u j > 1000000000 - sumN (gI u) j
        · rw [decide_eq_true c2]; simp
        have c3 : ¬ (gI u j ≠ 0 → LeafP S (j : Int)) := fun h => hb ⟨⟨by omega, by omega⟩, h⟩
        have c4 : gI u j ≠ 0 := fun h => c3 fun h' => absurd h h'
        have c5 : ¬ LeafP S (j : Int) := fun h => c3 fun _ => h
        rw [decide_eq_false (fun h => c5 (hlf.1 h)), bne_ne c4]; simp
      rw [bifT e]
      rw [decide_eq_false]
      · rfl
      · rintro ⟨g1, g2⟩
        have gj := g1 j hlt
        have hle : sumN (gI u) (j + 1) ≤ sumN (gI u) S.length := by
          have hsp := sumN_split (gI u) (j + 1) S.length (by omega)
          have hnn : 0 ≤ sumN (fun i => if j + 1 ≤ i then gI u i else 0) S.length := sumN_nonneg fun i hi => by
            split
            · exact (g1 i hi).1
            · omega
          omega
        exact hb ⟨⟨gj.1, by omega⟩, fun hz => gj.2 (by omega)⟩

theorem m24_eq (S : List T60) (hr : Right S) (u : List Int) : m24 S u = some (decide (Valid S u)) := by
  unfold m24
  by_cases hl : u.length = S.length
  case neg =>
    rw [bifT (bne_ne (by omega)), decide_eq_false (fun h : Valid S u => hl h.2.1)]
  have e : ((List.length u : Int) != (List.length S : Int)) = false := by rw [hl]; exact bne_same _
  rw [bifF e]
  obtain ⟨o, ho, eo⟩ := m30_eq S hr
  rw [eo]
  simp only [Option.bind_some]
  refine Eq.trans (l24_eq S u hl hr.1 ho (some true) (some false) S.length FUEL 0 (by omega) (fuel_lt (by have := hr.1; omega)) (fun i hi => by omega) (Int.le_refl _) (by show (0 : Int) ≤ _; omega)) ?_
  by_cases h : (∀ i, i < S.length → 0 ≤ gI u i ∧ (0 < gI u i → LeafP S i)) ∧ sumN (gI u) S.length ≤ 1000000000
  · rw [decide_eq_true h, decide_eq_true (show Valid S u from ⟨hr, hl, fun i hi => ⟨(h.1 i hi).1, by
      have := sumN_part hi (fun i hi => (h.1 i hi).1)
      omega, (h.1 i hi).2⟩, h.2⟩)]
    rfl
  · rw [decide_eq_false h, decide_eq_false (fun hv : Valid S u => h ⟨fun i hi => ⟨(hv.2.2.1 i hi).1, (hv.2.2.1 i hi).2.2⟩, hv.2.2.2⟩)]
    rfl

/-! ### Settling -/

/-- A trade can settle. -/
def Can (u : List Int) (now : Int) (t : T25) : Prop := t.2.2.2.2.2.2.1 = -1 ∧ t.2.2.2.2.2.1 ≤ now ∧ t.2.2.2.1 ≤ gI u t.2.1.toNat
instance (u : List Int) (now : Int) (t : T25) : Decidable (Can u now t) := by unfold Can; infer_instance

def setD (now : Int) (t : T25) : T25 := (t.1, t.2.1, t.2.2.1, t.2.2.2.1, t.2.2.2.2.1, t.2.2.2.2.2.1, now, t.2.2.2.2.2.2.2.1, ())
def backT (now : Int) (t : T25) : T25 := (0, t.2.2.1, t.2.1, t.2.2.2.1, now, max t.2.2.2.2.2.2.2.1 now, -1, 0, ())
def stepL (now : Int) (l : List T25) (i : Nat) (t : T25) : List T25 := l.set i (setD now t) ++ (if t.1 = 1 then [backT now t] else [])
def stepU (u : List Int) (t : T25) : List Int := mvU u t.2.1.toNat t.2.2.1.toNat t.2.2.2.1

/-- The first trade that can settle. -/
def fst1 (u : List Int) (now : Int) (l : List T25) : Option Nat := l.findIdx? fun t => decide (Can u now t)

def settle (now : Int) : Nat → List Int → List T25 → List Int × List T25
  | 0, u, l => (u, l)
  | n + 1, u, l => match fst1 u now l with
    | none => (u, l)
    | some i => settle now n (stepU u (l.getD i (0, 0, 0, 0, 0, 0, 0, 0, ()))) (stepL now l i (l.getD i (0, 0, 0, 0, 0, 0, 0, 0, ())))

/-- How often something can settle yet. -/
def wt (t : T25) : Nat := if t.2.2.2.2.2.2.1 = -1 then (if t.1 = 1 then 2 else 1) else 0
def mu (l : List T25) : Nat := (l.map wt).sum

theorem fst1_none {u : List Int} {now : Int} {l : List T25} (h : ∀ t ∈ l, ¬ Can u now t) : fst1 u now l = none := by
  unfold fst1
  rw [List.findIdx?_eq_none_iff]
  intro t ht
  simpa using h t ht

theorem fst1_some {u : List Int} {now : Int} {l : List T25} {i : Nat} (hi : i < l.length) (h : Can u now l[i]) (hb : ∀ j (hj : j < i), ¬ Can u now (l[j]'(by omega))) : fst1 u now l = some i := by
  unfold fst1
  rw [List.findIdx?_eq_some_iff_getElem]
  exact ⟨hi, by simpa using h, fun j hj => by simpa using hb j hj⟩

theorem settle_none {u : List Int} {now : Int} {l : List T25} (h : ∀ t ∈ l, ¬ Can u now t) (n : Nat) : settle now n u l = (u, l) := by
  cases n with
  | zero => rfl
  | succ n => simp only [settle, fst1_none h]

theorem mu_set : ∀ (l : List T25) (i : Nat) (hi : i < l.length) (x : T25), mu (l.set i x) + wt l[i] = mu l + wt x
  | [], i, hi, x => by simp at hi
  | t :: l, 0, hi, x => by simp [mu]; omega
  | t :: l, i + 1, hi, x => by
    have := mu_set l i (by simpa using hi) x
    simp only [mu, List.set_cons_succ, List.map_cons, List.sum_cons, List.getElem_cons_succ] at this ⊢
    omega

theorem mu_app (a b : List T25) : mu (a ++ b) = mu a + mu b := by simp [mu]

theorem mu_step {now : Int} {l : List T25} {i : Nat} (hi : i < l.length) (ho : l[i].2.2.2.2.2.2.1 = -1) (hn : 0 ≤ now) : mu (stepL now l i l[i]) + 1 = mu l ∧ (stepL now l i l[i]).length ≤ l.length + 1 ∧
    (stepL now l i l[i]).length + mu (stepL now l i l[i]) ≤ l.length + mu l := by
  have h1 := mu_set l i hi (setD now l[i])
  have hw : wt (setD now l[i]) = 0 := by unfold wt setD; rw [if_neg]; simp only; omega
  unfold stepL
  rw [mu_app, List.length_append, List.length_set]
  by_cases hk : l[i].1 = 1
  · rw [if_pos hk]
    have hb : mu [backT now l[i]] = 1 := rfl
    have hw2 : wt l[i] = 2 := by unfold wt; rw [if_pos ho, if_pos hk]
    rw [hb]
    simp only [List.length_singleton]
    omega
  · rw [if_neg hk]
    have hw2 : wt l[i] = 1 := by unfold wt; rw [if_pos ho, if_neg hk]
    have hb : mu ([] : List T25) = 0 := rfl
    rw [hb]
    simp only [List.length_nil]
    omega

/-- What holds while trades settle. -/
structure St1 (S : List T60) (u : List Int) (l : List T25) : Prop where
  val : Valid S u
  one : ∀ t ∈ l, OneP S t

theorem St1.step {S : List T60} {u : List Int} {l : List T25} (h : St1 S u l) {now : Int} (hn : Day now) {i : Nat} (hi : i < l.length) (hc : Can u now l[i]) : St1 S (stepU u l[i]) (stepL now l i l[i]) := by
  have ht := h.one l[i] (List.getElem_mem hi)
  obtain ⟨⟨⟨f0, f1⟩, lf⟩, ⟨⟨g0, g1⟩, lg⟩, ⟨hne, u1, u2⟩, ⟨d1, d2, d3, d4⟩, hk⟩ := ht
  obtain ⟨c1, c2, c3⟩ := hc
  have ef : ((l[i].2.1.toNat : Nat) : Int) = l[i].2.1 := Int.toNat_of_nonneg f0
  have eg : ((l[i].2.2.1.toNat : Nat) : Int) = l[i].2.2.1 := Int.toNat_of_nonneg g0
  refine ⟨valid_mv h.val (by omega) (by omega) (by rw [ef]; exact lf) (by rw [eg]; exact lg) u1 c3, fun t ht => ?_⟩
  unfold stepL at ht
  rcases List.mem_append.1 ht with ht | ht
  · rcases List.mem_or_eq_of_mem_set ht with ht | rfl
    · exact h.one t ht
    · exact ⟨⟨⟨f0, f1⟩, lf⟩, ⟨⟨g0, g1⟩, lg⟩, ⟨hne, u1, u2⟩, ⟨d1, d2, d3, .inr ⟨hn, c2⟩⟩, hk⟩
  · split at ht
    · rename_i hk1
      rw [List.mem_singleton.1 ht]
      have hb : Day l[i].2.2.2.2.2.2.2.1 := by
        rcases hk with ⟨h0, _⟩ | ⟨_, hb, _⟩
        · omega
        · exact hb
      have hmx : Day (max l[i].2.2.2.2.2.2.2.1 now) := by unfold Day at *; omega
      exact ⟨⟨⟨g0, g1⟩, lg⟩, ⟨⟨f0, f1⟩, lf⟩, ⟨fun e => hne e.symm, u1, u2⟩, ⟨hn, hmx, by simp only [backT]; omega, .inl rfl⟩, .inl ⟨rfl, rfl⟩⟩
    · cases ht

theorem mv_sets {u : List Int} {f t : Nat} {n : Int} (hf : f < u.length) (ht : t < u.length) (hv1 : -9223372036854775808 ≤ gI u f - n) (hv2 : gI u f - n ≤ 9223372036854775807)
    (hw1 : -9223372036854775808 ≤ gI (u.set f (gI u f - n)) t + n) (hw2 : gI (u.set f (gI u f - n)) t + n ≤ 9223372036854775807) :
    (List.set (List.set u f (IntKind.i64.wrap (gI u f - n))) t (IntKind.i64.wrap (gI (u.set f (gI u f - n)) t + n))) = mvU u f t n := by
  rw [wrapI hv1 hv2, wrapI hw1 hw2]
  rfl

theorem mv_bounds {S : List T60} {u : List Int} (hv : Valid S u) {f t : Nat} {n : Int} (hf : f < S.length) (ht : t < S.length) (h1 : 1 ≤ n) (h2 : n ≤ 1000000000) :
    (-9223372036854775808 ≤ gI u f - n ∧ gI u f - n ≤ 9223372036854775807) ∧ (-9223372036854775808 ≤ gI (u.set f (gI u f - n)) t + n ∧ gI (u.set f (gI u f - n)) t + n ≤ 9223372036854775807) := by
  have a := hv.nn hf
  have b := hv.nn ht
  have hul := hv.2.1
  rw [gI_set (by omega)]
  split <;> omega

theorem getD_get {l : List T25} {i : Nat} (hi : i < l.length) : l.getD i (0, 0, 0, 0, 0, 0, 0, 0, ()) = l[i] := by
  rw [List.getD_eq_getElem?_getD, List.getElem?_eq_getElem hi]; rfl

theorem settle_some {u : List Int} {now : Int} {l : List T25} {i : Nat} (hi : i < l.length) (h : Can u now l[i]) (hb : ∀ j (hj : j < i), ¬ Can u now (l[j]'(by omega))) (n : Nat) :
    settle now (n + 1) u l = settle now n (stepU u l[i]) (stepL now l i l[i]) := by
  simp only [settle, fst1_some hi h hb, getD_get hi]

theorem max_bif (a b : Int) : (bif decide (a > b) then a else b) = max b a := by
  cases h : decide (a > b) with
  | true => simp only [cond_true]; have := of_decide_eq_true h; omega
  | false => simp only [cond_false]; have := of_decide_eq_false h; omega

theorem limL {n : Nat} (h : n ≤ 200000) : decide (n ≤ LIM) = true := decide_eq_true (Nat.le_trans h (by decide))

/-- The code's loop. -/
theorem l9_eq {R : Type} {S : List T60} {now : Int} (hn : Day now) (k : List Int → List T25 → Option R) (B : Nat) (hB : B ≤ 100000) : ∀ (n i : Nat) (u : List Int) (l : List T25), St1 S u l → l.length + mu l ≤ B → i ≤ l.length →
    (∀ j (hj : j < i) (hj2 : j < l.length), ¬ Can u now l[j]) → mu l * (B + 2) + (l.length - i) < n →
    l9_1 now k n i u l = k (settle now (mu l) u l).1 (settle now (mu l) u l).2 := by
  intro n
  induction n with
  | zero => intro i u l _ _ _ _ h; omega
  | succ n ih =>
    intro i u l hS hBl hi hb hf
    show s9_1 now (l9_1 now k n) k i u l = _
    by_cases hlt : i < l.length
    case neg =>
      unfold s9_1
      rw [bifF (decide_eq_false (by omega)), settle_none]
      intro t ht
      obtain ⟨j, hj, rfl⟩ := List.getElem_of_mem ht
      exact hb j (by omega) hj
    have ht := hS.one l[i] (List.getElem_mem hlt)
    have hul := hS.val.2.1
    unfold s9_1
    rw [bifT (decide_eq_true (by omega))]
    simp only [Int.toNat_natCast, cont]
    rw [asrtP (fun _ => by simp only [Bool.and_eq_true, decide_eq_true_eq]; omega), List.getElem?_eq_getElem hlt]
    simp only [Option.bind_some]
    obtain ⟨⟨⟨f0, f1⟩, lf⟩, ⟨⟨g0, g1⟩, lg⟩, ⟨hne, u1, u2⟩, hd, hk⟩ := id ht
    have hfl : l[i].2.1.toNat < u.length := by omega
    have hgl : l[i].2.2.1.toNat < u.length := by omega
    rw [asrtP (fun _ => by simp only [Bool.and_eq_true, decide_eq_true_eq]; omega), gI_get hfl]
    have nxt : IntKind.i64.wrap ((i : Int) + 1) = ((i + 1 : Nat) : Int) := by rw [wrapI (by omega) (by omega)]; rfl
    by_cases hc : Can u now l[i]
    · obtain ⟨c1, c2, c3⟩ := id hc
      have e1 : ((l[i].2.2.2.2.2.2.1 != (-1)) || (decide (l[i].2.2.2.2.2.1 > now))) = false := by
        rw [c1, decide_eq_false (by omega)]; rfl
      rw [e1]
      simp only [show (false == false) = true from rfl, cond_true, Option.bind_some, Bool.false_or]
      rw [bifF (decide_eq_false (by omega))]
      obtain ⟨⟨w1, w2⟩, w3, w4⟩ := mv_bounds hS.val (f := l[i].2.1.toNat) (t := l[i].2.2.1.toNat) (by omega) (by omega) u1 u2
      rw [asrtP (fun _ => by simp only [Bool.and_eq_true, decide_eq_true_eq]; omega)]
      rw [asrtP (fun _ => by simp only [Bool.and_eq_true, decide_eq_true_eq]; omega)]
      rw [wrapI w1 w2]
      have hsl : l[i].2.2.1.toNat < (u.set l[i].2.1.toNat (gI u l[i].2.1.toNat - l[i].2.2.2.1)).length := by rw [List.length_set]; exact hgl
      rw [asrtP (fun _ => by simp only [Bool.and_eq_true, decide_eq_true_eq, List.length_set]; omega), gI_get hsl]
      simp only [Option.bind_some]
      rw [asrtP (fun _ => by simp only [Bool.and_eq_true, decide_eq_true_eq, List.length_set]; omega)]
      rw [asrtP (fun _ => by simp only [Bool.and_eq_true, decide_eq_true_eq]; omega), wrapI w3 w4]
      have hmu := mu_step (now := now) hlt c1 hn.1
      have hst := hS.step hn hlt hc
      have hpos : mu l = (mu l - 1) + 1 := by omega
      have hfin : ∀ l', l' = stepL now l i l[i] → l9_1 now k n (IntKind.i64.wrap ((-1 : Int) + 1)) (mvU u l[i].2.1.toNat l[i].2.2.1.toNat l[i].2.2.2.1) l' = k (settle now (mu l) u l).1 (settle now (mu l) u l).2 := by
        intro l' el
        subst el
        have e0 : IntKind.i64.wrap ((-1 : Int) + 1) = ((0 : Nat) : Int) := by decide
        rw [e0, hpos, settle_some hlt hc (fun j hj => hb j hj (by omega))]
        have hm : mu l - 1 = mu (stepL now l i l[i]) := by omega
        rw [hm]
        refine ih 0 _ _ hst (by omega) (by omega) (fun j hj => by omega) ?_
        have : mu l * (B + 2) = mu (stepL now l i l[i]) * (B + 2) + (B + 2) := by rw [show mu l = mu (stepL now l i l[i]) + 1 by omega, Nat.add_mul, Nat.one_mul]
        omega
      by_cases hk1 : l[i].1 = 1
      · have ek : (l[i].1 == 1) = true := by simpa using hk1
        rw [ek]
        simp only [cond_true, m28, Option.bind_some]
        rw [asrtP (fun _ => limL (by simp only [List.length_set, List.length_singleton]; omega)), max_bif]
        refine hfin _ ?_
        unfold stepL
        rw [if_pos hk1]
        rfl
      · have ek : (l[i].1 == 1) = false := by simpa using hk1
        rw [ek]
        simp only [cond_false]
        refine hfin _ ?_
        unfold stepL
        rw [if_neg hk1, List.append_nil]
        rfl
    · have hgo : l9_1 now k n (IntKind.i64.wrap ((i : Int) + 1)) u l = k (settle now (mu l) u l).1 (settle now (mu l) u l).2 := by
        rw [nxt]
        refine ih (i + 1) u l hS hBl (by omega) (fun j hj hj2 => ?_) (by omega)
        by_cases hji : j = i
        · subst hji; exact hc
        · exact hb j (by omega) hj2
      by_cases e1 : ((l[i].2.2.2.2.2.2.1 != (-1)) || (decide (l[i].2.2.2.2.2.1 > now))) = true
      · rw [e1]
        simp only [show (true == false) = false from rfl, cond_false, Option.bind_some, Bool.true_or, cond_true]
        exact hgo
      · have e1 := Bool.eq_false_iff.2 e1
        rw [e1]
        simp only [show (false == false) = true from rfl, cond_true, Option.bind_some, Bool.false_or]
        simp only [Bool.or_eq_false_iff, bne_eq_false_iff_eq, decide_eq_false_iff_not] at e1
        have : gI u l[i].2.1.toNat < l[i].2.2.2.1 := by
          by_cases q : gI u l[i].2.1.toNat < l[i].2.2.2.1
          · exact q
          · exact absurd ⟨e1.1, by omega, by omega⟩ hc
        rw [bifT (decide_eq_true this)]
        exact hgo

/-- The reference's search. -/
theorem l36_eq {R : Type} {S : List T60} {now : Int} {u : List Int} {l : List T25} (hS : St1 S u l) (hl : l.length ≤ 100000) (k1 : Option R) (k2 : Int → Option R) : ∀ (d n j : Nat), j + d = l.length → d < n → (∀ i (hi : i < j) (hi2 : i < l.length), ¬ Can u now l[i]) →
    ((∀ t ∈ l, ¬ Can u now t) ∧ l36_1 u l now k1 k2 n j = k1) ∨ ∃ i, ∃ hi : i < l.length, Can u now l[i] ∧ (∀ q (hq : q < i), ¬ Can u now (l[q]'(by omega))) ∧ l36_1 u l now k1 k2 n j = k2 i := by
  intro d
  induction d with
  | zero =>
    intro n j hj hn h
    obtain ⟨n, rfl⟩ : ∃ m, n = m + 1 := ⟨n - 1, by omega⟩
    left
    refine ⟨fun t ht => ?_, ?_⟩
    · obtain ⟨q, hq, rfl⟩ := List.getElem_of_mem ht
      exact h q (by omega) hq
    · show s36_1 u l now (l36_1 u l now k1 k2 n) k1 k2 j = _
      unfold s36_1
      rw [bifF (decide_eq_false (by omega))]
  | succ d ih =>
    intro n j hj hn h
    obtain ⟨n, rfl⟩ : ∃ m, n = m + 1 := ⟨n - 1, by omega⟩
    have hlt : j < l.length := by omega
    have ht := hS.one l[j] (List.getElem_mem hlt)
    have hul := hS.val.2.1
    obtain ⟨⟨⟨f0, f1⟩, _⟩, _⟩ := ht
    have hfl : l[j].2.1.toNat < u.length := by omega
    have hx : idx u l[j].2.1 = some (gI u l[j].2.1.toNat) := by
      rw [idx_pos f0]; exact gI_get hfl
    have e : l36_1 u l now k1 k2 (n + 1) j = bif decide (Can u now l[j]) then k2 j else l36_1 u l now k1 k2 n (j + 1 : Nat) := by
      show s36_1 u l now (l36_1 u l now k1 k2 n) k1 k2 j = _
      unfold s36_1
      rw [bifT (decide_eq_true (by omega)), idx_nat, List.getElem?_eq_getElem hlt, wrapI (x := (j : Int) + 1) (by omega) (by omega)]
      simp only [Option.bind_some, idxG, idx_nat, List.getElem?_eq_getElem hlt]
      have enx : ((j : Int) + 1) = ((j + 1 : Nat) : Int) := by omega
      rw [enx]
      by_cases c1 : l[j].2.2.2.2.2.2.1 = -1
      case neg =>
        have : (l[j].2.2.2.2.2.2.1 == (-1)) = false := by simpa using c1
        rw [this, decide_eq_false (fun hc : Can u now l[j] => c1 hc.1)]
        rfl
      have e1 : (l[j].2.2.2.2.2.2.1 == (-1)) = true := by simpa using c1
      rw [e1]
      simp only [beq_self_eq_true, cond_true, Option.bind_some, Bool.true_and]
      by_cases c2 : l[j].2.2.2.2.2.1 ≤ now
      case neg =>
        rw [decide_eq_false c2, decide_eq_false (fun hc : Can u now l[j] => c2 hc.2.1)]
        rfl
      rw [decide_eq_true c2]
      simp only [beq_self_eq_true, cond_true, Option.bind_some, Bool.true_and, hx]
      congr 1
      apply Bool.eq_iff_iff.2
      simp only [decide_eq_true_eq]
      exact ⟨fun h => ⟨c1, c2, h⟩, fun h => h.2.2⟩
    rw [e]
    by_cases hc : Can u now l[j]
    · rw [decide_eq_true hc]
      exact .inr ⟨j, hlt, hc, fun q hq => h q hq (by omega), rfl⟩
    · rw [decide_eq_false hc]
      simp only [cond_false]
      refine ih n (j + 1) (by omega) (by omega) fun i hi hi2 => ?_
      by_cases hij : i = j
      · subst hij; exact hc
      · exact h i (by omega) hi2

theorem l15_eq {R : Type} {S : List T60} {now : Int} (hn : Day now) (k : List Int → List T25 → Option R) (B : Nat) (hB : B ≤ 100000) : ∀ (n : Nat) (u : List Int) (l : List T25), St1 S u l → l.length + mu l ≤ B → mu l < n →
    l15_1 now k n u l = k (settle now (mu l) u l).1 (settle now (mu l) u l).2 := by
  intro n
  induction n with
  | zero => intro u l _ _ h; omega
  | succ n ih =>
    intro u l hS hBl hf
    show s15_1 now (l15_1 now k n) k u l = _
    have hul := hS.val.2.1
    rcases l36_eq (now := now) hS (by omega) (some (-1)) (fun y6 => some y6) l.length FUEL 0 (by omega) (fuel_lt (by omega)) (fun i hi => by omega) with ⟨h1, h2⟩ | ⟨i, hi, hc, hb, h2⟩
    · unfold s15_1 m36
      rw [show ((0 : Nat) : Int) = 0 from rfl] at h2
      rw [h2, settle_none h1]
      rfl
    · unfold s15_1 m36
      rw [show ((0 : Nat) : Int) = 0 from rfl] at h2
      simp only [h2, Option.bind_some]
      rw [bifT (decide_eq_true (by omega)), asrtP (fun _ => by simp only [Bool.and_eq_true, decide_eq_true_eq]; omega)]
      simp only [Int.toNat_natCast]
      rw [List.getElem?_eq_getElem hi]
      simp only [Option.bind_some]
      have ht := hS.one l[i] (List.getElem_mem hi)
      obtain ⟨⟨⟨f0, f1⟩, lf⟩, ⟨⟨g0, g1⟩, lg⟩, ⟨hne, u1, u2⟩, hd, hk⟩ := id ht
      have hfl : l[i].2.1.toNat < u.length := by omega
      have hgl : l[i].2.2.1.toNat < u.length := by omega
      obtain ⟨⟨w1, w2⟩, w3, w4⟩ := mv_bounds hS.val (f := l[i].2.1.toNat) (t := l[i].2.2.1.toNat) (by omega) (by omega) u1 u2
      rw [asrtP (fun _ => by simp only [Bool.and_eq_true, decide_eq_true_eq]; omega), gI_get hfl]
      simp only [Option.bind_some]
      rw [asrtP (fun _ => by simp only [Bool.and_eq_true, decide_eq_true_eq]; omega), wrapI w1 w2]
      have hsl : l[i].2.2.1.toNat < (u.set l[i].2.1.toNat (gI u l[i].2.1.toNat - l[i].2.2.2.1)).length := by rw [List.length_set]; exact hgl
      rw [asrtP (fun _ => by simp only [Bool.and_eq_true, decide_eq_true_eq, List.length_set]; omega), gI_get hsl]
      simp only [Option.bind_some]
      rw [asrtP (fun _ => by simp only [Bool.and_eq_true, decide_eq_true_eq, List.length_set]; omega)]
      rw [asrtP (fun _ => by simp only [Bool.and_eq_true, decide_eq_true_eq]; omega), wrapI w3 w4]
      obtain ⟨c1, c2, c3⟩ := id hc
      have hmu := mu_step (now := now) hi c1 hn.1
      have hst := hS.step hn hi hc
      have hpos : mu l = (mu l - 1) + 1 := by omega
      have hfin : ∀ l', l' = stepL now l i l[i] → l15_1 now k n (mvU u l[i].2.1.toNat l[i].2.2.1.toNat l[i].2.2.2.1) l' = k (settle now (mu l) u l).1 (settle now (mu l) u l).2 := by
        intro l' el
        subst el
        rw [hpos, settle_some hi hc hb]
        have hm : mu l - 1 = mu (stepL now l i l[i]) := by omega
        rw [hm]
        exact ih _ _ hst (by omega) (by omega)
      by_cases hk1 : l[i].1 = 1
      · have ek : (l[i].1 == 1) = true := by simpa using hk1
        rw [ek]
        simp only [cond_true]
        rw [asrtP (fun _ => limL (by simp only [List.length_set, List.length_singleton]; omega)), max_bif]
        refine hfin _ ?_
        unfold stepL
        rw [if_pos hk1]
        rfl
      · have ek : (l[i].1 == 1) = false := by simpa using hk1
        rw [ek]
        simp only [cond_false]
        refine hfin _ ?_
        unfold stepL
        rw [if_neg hk1, List.append_nil]
        rfl

theorem mu_le (l : List T25) : mu l ≤ 2 * l.length := by
  induction l with
  | nil => exact Nat.le_refl _
  | cons t l ih =>
    have : wt t ≤ 2 := by unfold wt; split <;> (try split) <;> omega
    simp only [mu, List.map_cons, List.sum_cons, List.length_cons] at ih ⊢
    omega

end Go.Proofs.Ytihcngohiffaeaa
