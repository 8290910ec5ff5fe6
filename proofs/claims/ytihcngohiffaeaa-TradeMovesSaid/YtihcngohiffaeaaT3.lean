/- Leaves, and right trades. -/
import Derived.Test.YtihcngohiffaeaaT2
namespace Go.Proofs.Ytihcngohiffaeaa
open Go Go.Eng
set_option linter.unusedVariables false
set_option linter.unusedSimpArgs false

theorem mask32 {n : Nat} (h : n < 4294967296) : (BitVec.ofInt 64 (n : Int) &&& BitVec.ofInt 64 4294967295).toNat = n := by
  have e1 : (BitVec.ofInt 64 (n : Int)).toNat = n := by
    rw [BitVec.toNat_ofInt]
    omega
  have e2 : (BitVec.ofInt 64 4294967295).toNat = 2 ^ 32 - 1 := by decide
  rw [BitVec.toNat_and, e1, e2, Nat.and_two_pow_sub_one_eq_mod, Nat.mod_eq_of_lt (by omega)]

theorem wrapU {x : Int} (h1 : 0 ≤ x) (h2 : x < 18446744073709551616) : IntKind.u64.wrap x = x := by
  unfold IntKind.wrap
  simp only [IntKind.signed, IntKind.bits]
  simp
  omega

theorem limI {n : Nat} (h : n ≤ 4294967296) : decide ((n : Int) ≤ (LIM : Int)) = true := decide_eq_true (Int.ofNat_le.2 h)

theorem mul_one (n : Nat) (h : n ≤ 100000) : m46 (IntKind.u64.wrap 1) (IntKind.u64.wrap (n : Int)) = some (0, (n : Int), ()) := by
  rw [wrapU (x := 1) (by omega) (by omega), wrapU (x := (n : Int)) (by omega) (by omega)]
  unfold m46 m48
  have k1 : shr2 1 32 = 0 := by decide
  have k2 : shr2 (n : Int) 32 = 0 := by
    unfold shr2
    rw [Int.fdiv_eq_ediv_of_nonneg _ (by decide)]
    omega
  have k3 : ((BitVec.ofInt IntKind.u64.bits (n : Int) &&& BitVec.ofInt IntKind.u64.bits 4294967295).toNat : Int) = n := by
    have := mask32 (n := n) (by omega)
    show (((BitVec.ofInt 64 (n : Int) &&& BitVec.ofInt 64 4294967295).toNat : Nat) : Int) = n
    rw [this]
  have k4 : ((BitVec.ofInt IntKind.u64.bits 1 &&& BitVec.ofInt IntKind.u64.bits 4294967295).toNat : Int) = 1 := by decide
  have k0 : ((BitVec.ofInt IntKind.u64.bits 0 &&& BitVec.ofInt IntKind.u64.bits 4294967295).toNat : Int) = 0 := by decide
  have w0 : IntKind.u64.wrap 0 = 0 := by decide
  have w1 : IntKind.u64.wrap 1 = 1 := by decide
  have wn : IntKind.u64.wrap (n : Int) = n := wrapU (by omega) (by omega)
  rw [k1, k2, k3, k4]
  simp only [Int.zero_mul, Int.mul_zero, w0, w1, wn, Int.one_mul, Int.zero_add, k2, k0]
  have s0 : shr2 0 32 = 0 := by decide
  simp only [Int.zero_mul, Int.mul_zero, w0, w1, wn, Int.one_mul, Int.zero_add, k2, k0, s0, Option.bind_some]

/-- The row of copies of true: so many are there. -/
theorem l30_1_eq {R : Type} (k : List Bool → Option R) (N : Nat) (hN : N ≤ 100000) : ∀ (d n j : Nat) (o : List Bool), N - j ≤ d → d < n → o.length = N → (0 < j ∨ N = 0) → j ≤ N → (∀ i, i < j → o[i]? = some true) →
    l30_1 k n j o = k (List.replicate N true) := by
  intro d
  induction d with
  | zero =>
    intro n j o hd hn hl hj hjN ho
    obtain ⟨n, rfl⟩ : ∃ m, n = m + 1 := ⟨n - 1, by omega⟩
    show s30_1 (l30_1 k n) k j o = _
    unfold s30_1
    rw [bifF (decide_eq_false (by omega))]
    congr 1
    apply List.ext_getElem?
    intro i
    rw [List.getElem?_replicate]
    split
    · rename_i h; exact ho i (by omega)
    · rename_i h; exact List.getElem?_eq_none (by omega)
  | succ d ih =>
    intro n j o hd hn hl hj hjN ho
    obtain ⟨n, rfl⟩ : ∃ m, n = m + 1 := ⟨n - 1, by omega⟩
    show s30_1 (l30_1 k n) k j o = _
    by_cases hlt : j < N
    · unfold s30_1
      rw [bifT (decide_eq_true (by omega))]
      have b1 : bounds true o.length (j : Int) (o.length : Int) = true := by
        simp only [bounds, Bool.and_eq_true, decide_eq_true_eq]; omega
      have b2 : bounds true o.length 0 (j : Int) = true := by
        simp only [bounds, Bool.and_eq_true, decide_eq_true_eq]; omega
      rw [asrtP (fun _ => b1), asrtP (fun _ => b2), asrtP (fun _ => decide_eq_true (by omega)), asrtP (fun _ => decide_eq_true (by omega))]
      simp only [Int.toNat_natCast, List.drop_zero, List.length_take, hl]
      rw [Nat.min_eq_left (show j ≤ N by omega)]
      have hw : IntKind.i64.wrap ((j : Int) + ((min j (N - j) : Nat) : Int)) = ((j + min j (N - j) : Nat) : Int) := by
        rw [wrapI (by omega) (by omega)]; omega
      rw [hw]
      have hpl : j + (N - j) ≤ o.length := by omega
      refine ih n (j + min j (N - j)) _ (by omega) (by omega) ?_ (.inl (by omega)) (by omega) ?_
      · rw [patch_len hpl]; exact hl
      · intro i hi
        rw [patch_get hpl]
        simp only [List.length_take, hl]
        by_cases h1 : i < j
        · rw [if_pos h1]; exact ho i h1
        · rw [if_neg h1, if_pos (by omega), List.getElem?_take, if_pos (by omega)]
          exact ho (i - j) (by omega)
    · unfold s30_1
      rw [bifF (decide_eq_false (by omega))]
      congr 1
      apply List.ext_getElem?
      intro i
      rw [List.getElem?_replicate]
      split
      · rename_i h; exact ho i (by omega)
      · rename_i h; exact List.getElem?_eq_none (by omega)

/-- Which seats are leaves, by the first seats alone. -/
def Lfs (S : List T60) (j : Nat) (o : List Bool) : Prop := o.length = S.length ∧ ∀ i, i < S.length → o[i]? = some (decide (∀ k, k < j → P S k ≠ i))

theorem l30_2_eq {R : Type} (S : List T60) (hu : Up S S.length) (hL : S.length ≤ 20000) (k : List Bool → Option R) : ∀ (d n j : Nat) (o : List Bool), j + d = S.length → d < n → Lfs S j o →
    ∃ o', Lfs S S.length o' ∧ l30_2 S (List.length S : Int) k n j o = k o' := by
  intro d
  induction d with
  | zero =>
    intro n j o hj hn ho
    obtain ⟨n, rfl⟩ : ∃ m, n = m + 1 := ⟨n - 1, by omega⟩
    have hj : j = S.length := by omega
    subst hj
    refine ⟨o, ho, ?_⟩
    show s30_2 S _ (l30_2 S _ k n) k _ o = _
    unfold s30_2
    rw [bifF (decide_eq_false (by omega))]
  | succ d ih =>
    intro n j o hj hn ho
    obtain ⟨n, rfl⟩ : ∃ m, n = m + 1 := ⟨n - 1, by omega⟩
    have hlt : j < S.length := by omega
    have hp := hu j hlt
    have key : ∃ o', Lfs S (j + 1) o' ∧ l30_2 S (List.length S : Int) k (n + 1) j o = l30_2 S (List.length S : Int) k n (j + 1 : Nat) o' := by
      show ∃ o', Lfs S (j + 1) o' ∧ s30_2 S _ (l30_2 S _ k n) k j o = _
      unfold s30_2
      rw [bifT (decide_eq_true (by omega)), seat_idx hlt, wrapI (x := (j : Int) + 1) (by omega) (by omega)]
      simp only [Option.bind_some, cont]
      have e : ((j : Int) + 1) = ((j + 1 : Nat) : Int) := by omega
      rw [e]
      by_cases h0 : (seat S j).1 ≥ 0
      · rw [bifT (decide_eq_true h0)]
        have hb : (seat S j).1 < j := hp
        rw [asrtP (fun _ => by simp only [Bool.and_eq_true, decide_eq_true_eq]; have := ho.1; omega), List.getElem?_eq_getElem (by have := ho.1; omega)]
        simp only [Option.bind_some]
        refine ⟨_, ⟨by rw [List.length_set]; exact ho.1, fun i hi => ?_⟩, rfl⟩
        rw [List.getElem?_set]
        have hP : P S j = (seat S j).1 := rfl
        split
        · rename_i he
          rw [if_pos (by have := ho.1; omega)]
          congr 1
          symm
          rw [decide_eq_false_iff_not]
          intro h
          exact h j (by omega) (by omega)
        · rename_i he
          rw [ho.2 i hi]
          congr 1
          apply Bool.eq_iff_iff.2
          simp only [decide_eq_true_eq]
          constructor
          · intro h q hq
            by_cases hqj : q = j
            · subst hqj; omega
            · exact h q (by omega)
          · intro h q hq; exact h q (by omega)
      · rw [bifF (decide_eq_false h0)]
        refine ⟨o, ⟨ho.1, fun i hi => ?_⟩, rfl⟩
        rw [ho.2 i hi]
        congr 1
        apply Bool.eq_iff_iff.2
        simp only [decide_eq_true_eq]
        have hP : P S j = (seat S j).1 := rfl
        constructor
        · intro h q hq
          by_cases hqj : q = j
          · subst hqj; omega
          · exact h q (by omega)
        · intro h q hq; exact h q (by omega)
    obtain ⟨o', h1, h2⟩ := key
    obtain ⟨o2, h3, h4⟩ := ih n (j + 1) o' (by omega) (by omega) h1
    exact ⟨o2, h3, h2.trans h4⟩

/-- Leaves, as flags. -/
def Lf (S : List T60) (o : List Bool) : Prop := Lfs S S.length o

theorem m30_eq (S : List T60) (hr : Right S) : ∃ o, Lf S o ∧ m30 S = some o := by
  have hL := hr.1
  unfold m30
  rw [bifF (decide_eq_false (by omega))]
  have e1 : ((List.length [true] : Nat) : Int) = 1 := rfl
  rw [e1, mul_one S.length (by omega)]
  simp only [Option.bind_some]
  rw [decide_eq_false (show ¬ (0 : Int) > 0 by omega), decide_eq_false (show ¬ (S.length : Int) > 9223372036854775807 by omega), wrapI (x := (S.length : Int)) (by omega) (by omega)]
  simp only [Bool.or_self, cond_false, Int.toNat_natCast, List.length_replicate, List.length_cons, List.length_nil, Nat.zero_add]
  rw [asrtP (fun _ => by rw [decide_eq_true (show (0 : Int) ≤ (S.length : Int) by omega), decide_eq_true (Int.le_refl _), limI (by omega)]; rfl)]
  have hpl : 0 + S.length ≤ (List.replicate S.length false).length := by simp
  have hmin : min 1 S.length ≤ S.length := Nat.min_le_right _ _
  rw [l30_1_eq _ S.length (by omega) S.length FUEL (min 1 S.length) _ (by omega) (fuel_lt (by omega)) (by rw [patch_len hpl]; simp) (by omega) hmin (fun i hi => by
    rw [patch_get hpl, if_neg (by omega)]
    simp only [List.length_singleton]
    rw [if_pos (by omega)]
    have : i = 0 := by omega
    subst this
    rfl)]
  obtain ⟨o, h1, h2⟩ := l30_2_eq S hr.up hL (fun y6 => some y6) S.length FUEL 0 (List.replicate S.length true) (by omega) (fuel_lt (by omega)) ⟨by simp, fun i hi => by
    rw [List.getElem?_replicate, if_pos hi]; simp⟩
  exact ⟨o, h1, h2⟩

theorem lf_iff (S : List T60) (i : Nat) : (∀ k, k < S.length → P S k ≠ i) ↔ LeafP S (i : Int) := Iff.rfl

/-- Is a number a leaf? -/
def lfB (S : List T60) (i : Int) : Bool := decide (In S i ∧ LeafP S i)

theorem leaf_read {S : List T60} {o : List Bool} (ho : Lf S o) (i : Int) :
    ∃ x, idxG (((decide (i ≥ 0)) && (decide (i < (List.length o : Int)))) == true) false o i = some x ∧ (((decide (i ≥ 0)) && (decide (i < (List.length o : Int)))) && x) = lfB S i := by
  rw [ho.1]
  by_cases h : In S i
  · obtain ⟨h0, h1⟩ := h
    obtain ⟨n, rfl⟩ := Int.eq_ofNat_of_zero_le h0
    have hn : n < S.length := by omega
    refine ⟨decide (LeafP S (n : Int)), ?_, ?_⟩
    · rw [decide_eq_true (show (n : Int) ≥ 0 by omega), decide_eq_true h1]
      simp only [Bool.and_self, beq_self_eq_true, idxG, cond_true]
      rw [idx_nat]
      exact ho.2 n hn
    · rw [decide_eq_true (show (n : Int) ≥ 0 by omega), decide_eq_true h1]
      unfold lfB
      simp only [Bool.and_self, Bool.true_and]
      apply Bool.eq_iff_iff.2
      simp only [decide_eq_true_eq]
      exact ⟨fun h => ⟨⟨by omega, by omega⟩, h⟩, fun h => h.2⟩
  · have e : ((decide (i ≥ 0)) && (decide (i < (List.length S : Int)))) = false := by
      rw [dec_in]; exact decide_eq_false h
    refine ⟨false, ?_, ?_⟩
    · rw [e]; rfl
    · rw [e]
      unfold lfB
      rw [decide_eq_false (fun h' => h h'.1)]; rfl

/-- A day. -/
def Day (d : Int) : Prop := 0 ≤ d ∧ d ≤ 200000
instance (d : Int) : Decidable (Day d) := by unfold Day; infer_instance

theorem m25_eq (d : Int) : m25 d = some (decide (Day d)) := by
  unfold m25
  congr 1
  apply Bool.eq_iff_iff.2
  simp only [Bool.and_eq_true, decide_eq_true_eq]
  exact Iff.rfl
theorem m35_eq (d : Int) : m35 d = some (decide (Day d)) := by
  unfold m35
  congr 1
  apply Bool.eq_iff_iff.2
  simp only [Bool.and_eq_true, decide_eq_true_eq]
  exact Iff.rfl

/-- The days of a trade fit. -/
def Days (a d x : Int) : Prop := Day a ∧ Day d ∧ a ≤ d ∧ (x = -1 ∨ (Day x ∧ d ≤ x))
instance (a d x : Int) : Decidable (Days a d x) := by unfold Days; infer_instance
/-- Kind and the day on which it is given back fit. -/
def Kind (k d b : Int) : Prop := (k = 0 ∧ b = 0) ∨ (k = 1 ∧ Day b ∧ d < b)
instance (k d b : Int) : Decidable (Kind k d b) := by unfold Kind; infer_instance

theorem days_eq (a d x : Int) (K : Option Bool) :
    ((some (decide (Day a))).bind fun r3 => (bif ((!r3) == false) then some (decide (Day d)) else some false).bind fun r4 =>
      (bif (((((!r3) || (!r4)) || (decide (a > d))) == false) && ((x != (-1)) == true)) then some (decide (Day x)) else some false).bind fun r5 =>
      bif ((((!r3) || (!r4)) || (decide (a > d))) || ((x != (-1)) && ((!r5) || (decide (x < d))))) then some false else K) = bif decide (Days a d x) then K else some false := by
  unfold Days
  by_cases h1 : Day a
  case neg => simp [h1]
  by_cases h2 : Day d
  case neg => simp [h1, h2]
  by_cases h3 : a > d
  · have : ¬ a ≤ d := by omega
    simp [h1, h2, h3, this]
  have h3' : a ≤ d := by omega
  by_cases h4 : x = -1
  · subst h4
    simp [h1, h2, h3, h3']
  have h4' : (x != -1) = true := by simpa using h4
  by_cases h5 : Day x
  case neg => simp [h1, h2, h3, h3', h4, h4', h5]
  by_cases h6 : x < d
  · have : ¬ d ≤ x := by omega
    simp [h1, h2, h3, h3', h4, h4', h5, h6, this]
  · have : d ≤ x := by omega
    simp [h1, h2, h3, h3', h4, h4', h5, h6, this]

/-- A trade is right for seats. -/
def OneP (S : List T60) (t : T25) : Prop :=
  (In S t.2.1 ∧ LeafP S t.2.1) ∧ (In S t.2.2.1 ∧ LeafP S t.2.2.1) ∧ (t.2.1 ≠ t.2.2.1 ∧ 1 ≤ t.2.2.2.1 ∧ t.2.2.2.1 ≤ 1000000000) ∧
  Days t.2.2.2.2.1 t.2.2.2.2.2.1 t.2.2.2.2.2.2.1 ∧ Kind t.1 t.2.2.2.2.2.1 t.2.2.2.2.2.2.2.1
instance (S : List T60) (t : T25) : Decidable (OneP S t) := by unfold OneP; infer_instance

theorem kind_eq (k d b : Int) : (bif (k == 0) then some (b == 0) else bif (k == 1) then some (decide (Day b) && decide (b > d)) else some false) = some (decide (Kind k d b)) := by
  unfold Kind
  by_cases h0 : k = 0
  · subst h0
    by_cases hb : b = 0
    · subst hb; simp
    · simp [hb]
  · rw [show (k == 0) = false by simpa using h0]
    by_cases h1 : k = 1
    · subst h1
      by_cases hb : Day b
      · simp [hb]
      · simp [hb]
    · rw [show (k == 1) = false by simpa using h1]
      simp [h0, h1]

theorem m33_eq {S : List T60} {o : List Bool} (ho : Lf S o) (t : T25) : m33 o t = some (decide (OneP S t)) := by
  obtain ⟨k, f, g, u, a, d, x, b, y⟩ := t
  unfold m33
  simp only []
  obtain ⟨x1, e1, b1⟩ := leaf_read ho f
  obtain ⟨x2, e2, b2⟩ := leaf_read ho g
  rw [e1]
  simp only [Option.bind_some, b1, e2, b2, m25_eq]
  by_cases hf : In S f ∧ LeafP S f
  case neg =>
    have : lfB S f = false := decide_eq_false hf
    rw [this, decide_eq_false (fun h : OneP S _ => hf h.1)]
    rfl
  by_cases hg : In S g ∧ LeafP S g
  case neg =>
    have h1 : lfB S f = true := decide_eq_true hf
    have h2 : lfB S g = false := decide_eq_false hg
    rw [h1, h2, decide_eq_false (fun h : OneP S _ => hg h.2.1)]
    rfl
  have h1 : lfB S f = true := decide_eq_true hf
  have h2 : lfB S g = true := decide_eq_true hg
  rw [h1, h2]
  simp only [Bool.not_true, Bool.false_or, beq_self_eq_true, cond_true]
  by_cases h3 : f ≠ g ∧ 1 ≤ u ∧ u ≤ 1000000000
  case neg =>
    rw [decide_eq_false (fun h : OneP S _ => h3 h.2.2.1), bifT]
    simp only [Bool.or_eq_true, beq_iff_eq, decide_eq_true_eq]
    omega
  rw [bifF (by simp only [Bool.or_eq_false_iff, beq_eq_false_iff_ne, decide_eq_false_iff_not]; omega)]
  have := days_eq a d x (some (decide (Kind k d b)))
  rw [kind_eq]
  simp only [Option.bind_some] at this
  rw [this]
  by_cases h4 : Days a d x
  · rw [decide_eq_true h4, cond_true]
    congr 1
    apply Bool.eq_iff_iff.2
    simp only [decide_eq_true_eq]
    exact ⟨fun h => ⟨hf, hg, h3, h4, h⟩, fun h => h.2.2.2.2⟩
  · rw [decide_eq_false h4, decide_eq_false (fun h : OneP S _ => h4 h.2.2.2.1)]
    rfl

theorem m34_eq {S : List T60} (hr : Right S) (t : T25) : m34 S t = some (decide (OneP S t)) := by
  obtain ⟨k, f, g, u, a, d, x, b, y⟩ := t
  unfold m34
  simp only [m35_eq, m38_eq S hr.1]
  have hl : ∀ i, leafS S i = lfB S i := fun i => by
    unfold leafS lfB
    apply Bool.eq_iff_iff.2
    simp only [decide_eq_true_eq]
    exact ⟨fun h => h.2, fun h => ⟨hr, h⟩⟩
  rw [hl, hl]
  by_cases hk : k = 0 ∨ k = 1
  case neg =>
    have hK : ¬ Kind k d b := fun h => by unfold Kind at h; omega
    rw [decide_eq_false (fun h : OneP S _ => hK h.2.2.2.2)]
    have : (decide (k < 0) || decide (k ≥ 2)) = true := by simp only [Bool.or_eq_true, decide_eq_true_eq]; omega
    rw [this]
    rfl
  have : (decide (k < 0) || decide (k ≥ 2)) = false := by simp only [Bool.or_eq_false_iff, decide_eq_false_iff_not]; omega
  rw [this]
  by_cases hfg : f = g
  · rw [decide_eq_false (fun h : OneP S _ => h.2.2.1.1 hfg)]
    subst hfg
    simp
  have e : (f == g) = false := by simpa using hfg
  rw [e]
  simp only [Bool.or_self, Bool.false_or, beq_self_eq_true, cond_true, Option.bind_some]
  by_cases hf : In S f ∧ LeafP S f
  case neg =>
    have : lfB S f = false := decide_eq_false hf
    rw [this, decide_eq_false (fun h : OneP S _ => hf h.1)]
    rfl
  by_cases hg : In S g ∧ LeafP S g
  case neg =>
    have h1 : lfB S f = true := decide_eq_true hf
    have h2 : lfB S g = false := decide_eq_false hg
    rw [h1, h2, decide_eq_false (fun h : OneP S _ => hg h.2.1)]
    rfl
  have h1 : lfB S f = true := decide_eq_true hf
  have h2 : lfB S g = true := decide_eq_true hg
  rw [h1, h2]
  simp only [Bool.not_true, Bool.false_or, beq_self_eq_true, cond_true, Option.bind_some]
  by_cases h3 : f ≠ g ∧ 1 ≤ u ∧ u ≤ 1000000000
  case neg =>
    rw [decide_eq_false (fun h : OneP S _ => h3 h.2.2.1), bifT]
    simp only [Bool.or_eq_true, decide_eq_true_eq]
    omega
  rw [bifF (by simp only [Bool.or_eq_false_iff, decide_eq_false_iff_not]; omega)]
  have hkind : (bif (k == 0) then some (b == 0) else some (decide (Day b) && decide (b > d))) = some (decide (Kind k d b)) := by
    rw [← kind_eq]
    rcases hk with rfl | rfl <;> rfl
  have := days_eq a d x (some (decide (Kind k d b)))
  rw [hkind]
  simp only [Option.bind_some] at this
  rw [this]
  by_cases h4 : Days a d x
  · rw [decide_eq_true h4, cond_true]
    congr 1
    apply Bool.eq_iff_iff.2
    simp only [decide_eq_true_eq]
    exact ⟨fun h => ⟨hf, hg, h3, h4, h⟩, fun h => h.2.2.2.2⟩
  · rw [decide_eq_false h4, decide_eq_false (fun h : OneP S _ => h4 h.2.2.2.1)]
    rfl

/-- Trades are right for seats. -/
def RightT (S : List T60) (l : List T25) : Prop := Right S ∧ l.length ≤ 10000 ∧ ∀ t ∈ l, OneP S t
instance (S : List T60) (l : List T25) : Decidable (RightT S l) := by unfold RightT; infer_instance

theorem l10_eq {R : Type} {S : List T60} {o : List Bool} (ho : Lf S o) (l : List T25) (hl : l.length ≤ 10000) (k1 : Option R) (k2 : Int → Option R) : ∀ (d n j : Nat), j + d = l.length → d < n → (∀ t ∈ l.take j, OneP S t) →
    ((∀ t ∈ l, OneP S t) ∧ l10_1 l (List.length l : Int) o k1 k2 n j = k1) ∨ (¬ (∀ t ∈ l, OneP S t) ∧ ∃ i : Nat, l10_1 l (List.length l : Int) o k1 k2 n j = k2 i) := by
  intro d
  induction d with
  | zero =>
    intro n j hj hn h
    obtain ⟨n, rfl⟩ : ∃ m, n = m + 1 := ⟨n - 1, by omega⟩
    left
    rw [List.take_of_length_le (by omega)] at h
    refine ⟨h, ?_⟩
    show s10_1 l _ o (l10_1 l _ o k1 k2 n) k1 k2 j = _
    unfold s10_1
    rw [bifF (decide_eq_false (by omega))]
  | succ d ih =>
    intro n j hj hn h
    obtain ⟨n, rfl⟩ : ∃ m, n = m + 1 := ⟨n - 1, by omega⟩
    have hlt : j < l.length := by omega
    by_cases hq : OneP S l[j]
    · have h' : ∀ t ∈ l.take (j + 1), OneP S t := by
        intro t ht
        rw [List.take_succ_eq_append_getElem hlt] at ht
        rcases List.mem_append.1 ht with ht | ht
        · exact h t ht
        · rw [List.mem_singleton.1 ht]; exact hq
      have e : l10_1 l (List.length l : Int) o k1 k2 (n + 1) j = l10_1 l (List.length l : Int) o k1 k2 n (j + 1 : Nat) := by
        show s10_1 l _ o (l10_1 l _ o k1 k2 n) k1 k2 j = _
        unfold s10_1
        rw [bifT (decide_eq_true (by omega)), idx_nat, List.getElem?_eq_getElem hlt]
        simp only [Option.bind_some]
        rw [m33_eq ho, decide_eq_true hq]
        simp only [Option.bind_some, Bool.not_true, cond_false]
        rw [wrapI (x := (j : Int) + 1) (by omega) (by omega)]
        rfl
      rw [e]
      exact ih n (j + 1) (by omega) (by omega) h'
    · right
      refine ⟨fun hall => hq (hall _ (List.getElem_mem hlt)), j, ?_⟩
      show s10_1 l _ o (l10_1 l _ o k1 k2 n) k1 k2 j = _
      unfold s10_1
      rw [bifT (decide_eq_true (by omega)), idx_nat, List.getElem?_eq_getElem hlt]
      simp only [Option.bind_some]
      rw [m33_eq ho, decide_eq_false hq]
      rfl

theorem m10_eq (S : List T60) (l : List T25) : m10 S l = some (decide (RightT S l)) := by
  unfold m10
  rw [m29_eq]
  simp only [Option.bind_some]
  by_cases hr : Right S
  case neg => rw [decide_eq_false hr, decide_eq_false (fun h : RightT S l => hr h.1)]; rfl
  by_cases hl : l.length ≤ 10000
  case neg =>
    rw [decide_eq_true hr, decide_eq_true (show (l.length : Int) > 10000 by omega), decide_eq_false (fun h : RightT S l => hl h.2.1)]; rfl
  rw [decide_eq_true hr, decide_eq_false (show ¬ (l.length : Int) > 10000 by omega)]
  obtain ⟨o, ho, e⟩ := m30_eq S hr
  simp only [Bool.not_true, Bool.or_self, cond_false, e, Option.bind_some]
  rcases l10_eq ho l hl (some (!(decide ((-1 : Int) ≥ 0)))) (fun y5 => some (!(decide (y5 ≥ 0)))) l.length FUEL 0 (by omega) (fuel_lt (by omega)) (by simp) with ⟨h1, h2⟩ | ⟨h1, i, h2⟩
  · rw [decide_eq_true (show RightT S l from ⟨hr, hl, h1⟩)]
    exact h2
  · rw [decide_eq_false (fun h : RightT S l => h1 h.2.2)]
    refine Eq.trans h2 ?_
    simp

theorem l16_eq {R : Type} {S : List T60} (hr : Right S) (l : List T25) (hl : l.length ≤ 10000) (k1 k2 : Option R) : ∀ (d n j : Nat), j + d = l.length → d < n → (∀ t ∈ l.take j, OneP S t) →
    l16_1 S l k1 k2 n j = bif decide (∀ t ∈ l, OneP S t) then k1 else k2 := by
  intro d
  induction d with
  | zero =>
    intro n j hj hn h
    obtain ⟨n, rfl⟩ : ∃ m, n = m + 1 := ⟨n - 1, by omega⟩
    rw [List.take_of_length_le (by omega)] at h
    rw [decide_eq_true h]
    show s16_1 S l (l16_1 S l k1 k2 n) k1 k2 j = _
    unfold s16_1
    rw [bifF (decide_eq_false (by omega))]
    rfl
  | succ d ih =>
    intro n j hj hn h
    obtain ⟨n, rfl⟩ : ∃ m, n = m + 1 := ⟨n - 1, by omega⟩
    have hlt : j < l.length := by omega
    have e0 : l16_1 S l k1 k2 (n + 1) j = bif decide (OneP S l[j]) then l16_1 S l k1 k2 n (j + 1 : Nat) else k2 := by
      show s16_1 S l (l16_1 S l k1 k2 n) k1 k2 j = _
      unfold s16_1
      rw [bifT (decide_eq_true (by omega)), idx_nat, List.getElem?_eq_getElem hlt]
      simp only [Option.bind_some]
      rw [m34_eq hr, wrapI (x := (j : Int) + 1) (by omega) (by omega)]
      simp only [Option.bind_some]
      cases decide (OneP S l[j]) <;> rfl
    rw [e0]
    by_cases hq : OneP S l[j]
    · rw [decide_eq_true hq, cond_true]
      refine ih n (j + 1) (by omega) (by omega) fun t ht => ?_
      rw [List.take_succ_eq_append_getElem hlt] at ht
      rcases List.mem_append.1 ht with ht | ht
      · exact h t ht
      · rw [List.mem_singleton.1 ht]; exact hq
    · rw [decide_eq_false hq, decide_eq_false (fun hall : ∀ t ∈ l, OneP S t => hq (hall _ (List.getElem_mem hlt)))]
      rfl

theorem m16_eq (S : List T60) (hL : S.length ≤ 20000) (l : List T25) : m16 S l = some (decide (RightT S l)) := by
  unfold m16
  rw [m37_eq S hL]
  simp only [Option.bind_some]
  by_cases hr : Right S
  case neg => rw [decide_eq_false hr, decide_eq_false (fun h : RightT S l => hr h.1)]; rfl
  by_cases hl : l.length ≤ 10000
  case neg =>
    rw [decide_eq_true hr, decide_eq_true (show (l.length : Int) > 10000 by omega), decide_eq_false (fun h : RightT S l => hl h.2.1)]; rfl
  rw [decide_eq_true hr, decide_eq_false (show ¬ (l.length : Int) > 10000 by omega)]
  simp only [Bool.not_true, Bool.or_self, cond_false]
  refine Eq.trans (l16_eq hr l hl _ _ l.length FUEL 0 (by omega) (fuel_lt (by omega)) (by simp)) ?_
  by_cases h : ∀ t ∈ l, OneP S t
  · rw [decide_eq_true h, decide_eq_true (show RightT S l from ⟨hr, hl, h⟩)]; rfl
  · rw [decide_eq_false h, decide_eq_false (fun h' : RightT S l => h h'.2.2)]; rfl

end Go.Proofs.Ytihcngohiffaeaa
