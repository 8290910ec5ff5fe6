/- Lemmas over models (carried over from another seat). -/
import Derived.Test.YtjoehgmdkeigiaaT2
namespace Go.Proofs.Ytjoehgmdkeigiaa
open Go Go.Eng
set_option linter.unusedVariables false
set_option linter.unusedSimpArgs false

theorem mask32 {n : Nat} (h : n < 4294967296) : (BitVec.ofInt 64 (n : Int) &&& BitVec.ofInt 64 4294967295).toNat = n := by
  have e1 : (BitVec.ofInt 64 (n : Int)).toNat = n := by
    rw [BitVec.toNat_ofInt]
    omega
  have e2 : (BitVec.ofInt 64 4294967295).toNat = 2 ^ 32 - 1 := by decide
  rw [BitVec.toNat_and, e1, e2, Nat.and_two_pow_sub_one_eq_mod, Nat.mod_eq_of_lt (by omega)]

theorem wrapU {x : Int} (h1 : 0 ≤ x) (h2 : x < 18446744073709551616) : IntKind.u64.wrap x = x := by
  unfold IntKind.wrap
  simp only [IntKind.signed, IntKind.bits]
  simp
  omega

theorem limI {n : Nat} (h : n ≤ 4294967296) : decide ((n : Int) ≤ (LIM : Int)) = true := decide_eq_true (Int.ofNat_le.2 h)

theorem mul_one (n : Nat) (h : n ≤ 100000) : m57 (IntKind.u64.wrap 1) (IntKind.u64.wrap (n : Int)) = some (0, (n : Int), ()) := by
  rw [wrapU (x := 1) (by omega) (by omega), wrapU (x := (n : Int)) (by omega) (by omega)]
  unfold m57 m59
  have k1 : shr2 1 32 = 0 := by decide
  have k2 : shr2 (n : Int) 32 = 0 := by
    unfold shr2
    rw [Int.fdiv_eq_ediv_of_nonneg _ (by decide)]
    omega
  have k3 : ((BitVec.ofInt IntKind.u64.bits (n : Int) &&& BitVec.ofInt IntKind.u64.bits 4294967295).toNat : Int) = n := by
    have := mask32 (n := n) (by omega)
    show (((BitVec.ofInt 64 (n : Int) &&& BitVec.ofInt 64 4294967295).toNat : Nat) : Int) = n
    rw [this]
  have k4 : ((BitVec.ofInt IntKind.u64.bits 1 &&& BitVec.ofInt IntKind.u64.bits 4294967295).toNat : Int) = 1 := by decide
  have k0 : ((BitVec.ofInt IntKind.u64.bits 0 &&& BitVec.ofInt IntKind.u64.bits 4294967295).toNat : Int) = 0 := by decide
  have w0 : IntKind.u64.wrap 0 = 0 := by decide
  have w1 : IntKind.u64.wrap 1 = 1 := by decide
  have wn : IntKind.u64.wrap (n : Int) = n := wrapU (by omega) (by omega)
  rw [k1, k2, k3, k4]
  simp only [Int.zero_mul, Int.mul_zero, w0, w1, wn, Int.one_mul, Int.zero_add, k2, k0]
  have s0 : shr2 0 32 = 0 := by decide
  simp only [Int.zero_mul, Int.mul_zero, w0, w1, wn, Int.one_mul, Int.zero_add, k2, k0, s0, Option.bind_some]

/-- The row of copies of true: so many are there. -/
theorem l39_1_eq {R : Type} (k : List Bool → Option R) (N : Nat) (hN : N ≤ 100000) : ∀ (d n j : Nat) (o : List Bool), N - j ≤ d → d < n → o.length = N → (0 < j ∨ N = 0) → j ≤ N → (∀ i, i < j → o[i]? = some true) →
    l39_1 k n j o = k (List.replicate N true) := by
  intro d
  induction d with
  | zero =>
    intro n j o hd hn hl hj hjN ho
    obtain ⟨n, rfl⟩ : ∃ m, n = m + 1 := ⟨n - 1, by omega⟩
    show s39_1 (l39_1 k n) k j o = _
    unfold s39_1
    rw [bifF (decide_eq_false (by omega))]
    congr 1
    apply List.ext_getElem?
    intro i
    rw [List.getElem?_replicate]
    split
    · rename_i h; exact ho i (by omega)
    · rename_i h; exact List.getElem?_eq_none (by omega)
  | succ d ih =>
    intro n j o hd hn hl hj hjN ho
    obtain ⟨n, rfl⟩ : ∃ m, n = m + 1 := ⟨n - 1, by omega⟩
    show s39_1 (l39_1 k n) k j o = _
    by_cases hlt : j < N
    · unfold s39_1
      rw [bifT (decide_eq_true (by omega))]
      have b1 : bounds true o.length (j : Int) (o.length : Int) = true := by
        simp only [bounds, Bool.and_eq_true, decide_eq_true_eq]; omega
      have b2 : bounds true o.length 0 (j : Int) = true := by
        simp only [bounds, Bool.and_eq_true, decide_eq_true_eq]; omega
      rw [asrtP (fun _ => b1), asrtP (fun _ => b2), asrtP (fun _ => decide_eq_true (by omega)), asrtP (fun _ => decide_eq_true (by omega))]
      simp only [Int.toNat_natCast, List.drop_zero, List.length_take, hl]
      rw [Nat.min_eq_left (show j ≤ N by omega)]
      have hw : IntKind.i64.wrap ((j : Int) + ((min j (N - j) : Nat) : Int)) = ((j + min j (N - j) : Nat) : Int) := by
        rw [wrapI (by omega) (by omega)]; omega
      rw [hw]
      have hpl : j + (N - j) ≤ o.length := by omega
      refine ih n (j + min j (N - j)) _ (by omega) (by omega) ?_ (.inl (by omega)) (by omega) ?_
      · rw [patch_len hpl]; exact hl
      · intro i hi
        rw [patch_get hpl]
        simp only [List.length_take, hl]
        by_cases h1 : i < j
        · rw [if_pos h1]; exact ho i h1
        · rw [if_neg h1, if_pos (by omega), List.getElem?_take, if_pos (by omega)]
          exact ho (i - j) (by omega)
    · unfold s39_1
      rw [bifF (decide_eq_false (by omega))]
      congr 1
      apply List.ext_getElem?
      intro i
      rw [List.getElem?_replicate]
      split
      · rename_i h; exact ho i (by omega)
      · rename_i h; exact List.getElem?_eq_none (by omega)

/-- Which seats are leaves, by the first seats alone. -/
def Lfs (S : List T36) (j : Nat) (o : List Bool) : Prop := o.length = S.length ∧ ∀ i, i < S.length → o[i]? = some (decide (∀ k, k < j → P S k ≠ i))

theorem l39_2_eq {R : Type} (S : List T36) (hu : Up S S.length) (hL : S.length ≤ 20000) (k : List Bool → Option R) : ∀ (d n j : Nat) (o : List Bool), j + d = S.length → d < n → Lfs S j o →
    ∃ o', Lfs S S.length o' ∧ l39_2 S (List.length S : Int) k n j o = k o' := by
  intro d
  induction d with
  | zero =>
    intro n j o hj hn ho
    obtain ⟨n, rfl⟩ : ∃ m, n = m + 1 := ⟨n - 1, by omega⟩
    have hj : j = S.length := by omega
    subst hj
    refine ⟨o, ho, ?_⟩
    show s39_2 S _ (l39_2 S _ k n) k _ o = _
    unfold s39_2
    rw [bifF (decide_eq_false (by omega))]
  | succ d ih =>
    intro n j o hj hn ho
    obtain ⟨n, rfl⟩ : ∃ m, n = m + 1 := ⟨n - 1, by omega⟩
    have hlt : j < S.length := by omega
    have hp := hu j hlt
    have key : ∃ o', Lfs S (j + 1) o' ∧ l39_2 S (List.length S : Int) k (n + 1) j o = l39_2 S (List.length S : Int) k n (j + 1 : Nat) o' := by
      show ∃ o', Lfs S (j + 1) o' ∧ s39_2 S _ (l39_2 S _ k n) k j o = _
      unfold s39_2
      rw [bifT (decide_eq_true (by omega)), seat_idx hlt, wrapI (x := (j : Int) + 1) (by omega) (by omega)]
      simp only [Option.bind_some, cont]
      have e : ((j : Int) + 1) = ((j + 1 : Nat) : Int) := by omega
      rw [e]
      by_cases h0 : (seat S j).1 ≥ 0
      · rw [bifT (decide_eq_true h0)]
        have hb : (seat S j).1 < j := hp
        rw [asrtP (fun _ => by simp only [Bool.and_eq_true, decide_eq_true_eq]; have := ho.1; omega), List.getElem?_eq_getElem (by have := ho.1; omega)]
        simp only [Option.bind_some]
        refine ⟨_, ⟨by rw [List.length_set]; exact ho.1, fun i hi => ?_⟩, rfl⟩
        rw [List.getElem?_set]
        have hP : P S j = (seat S j).1 := rfl
        split
        · rename_i he
          rw [if_pos (by have := ho.1; omega)]
          congr 1
          symm
          rw [decide_eq_false_iff_not]
          intro h
          exact h j (by omega) (by omega)
        · rename_i he
          rw [ho.2 i hi]
          congr 1
          apply Bool.eq_iff_iff.2
          simp only [decide_eq_true_eq]
          constructor
          · intro h q hq
            by_cases hqj : q = j
            · subst hqj; omega
            · exact h q (by omega)
          · intro h q hq; exact h q (by omega)
      · rw [bifF (decide_eq_false h0)]
        refine ⟨o, ⟨ho.1, fun i hi => ?_⟩, rfl⟩
        rw [ho.2 i hi]
        congr 1
        apply Bool.eq_iff_iff.2
        simp only [decide_eq_true_eq]
        have hP : P S j = (seat S j).1 := rfl
        constructor
        · intro h q hq
          by_cases hqj : q = j
          · subst hqj; omega
          · exact h q (by omega)
        · intro h q hq; exact h q (by omega)
    obtain ⟨o', h1, h2⟩ := key
    obtain ⟨o2, h3, h4⟩ := ih n (j + 1) o' (by omega) (by omega) h1
    exact ⟨o2, h3, h2.trans h4⟩

/-- Leaves, as flags. -/
def Lf (S : List T36) (o : List Bool) : Prop := Lfs S S.length o

theorem m39_eq (S : List T36) (hr : Right S) : ∃ o, Lf S o ∧ m39 S = some o := by
  have hL := hr.1
  unfold m39
  rw [bifF (decide_eq_false (by omega))]
  have e1 : ((List.length [true] : Nat) : Int) = 1 := rfl
  rw [e1, mul_one S.length (by omega)]
  simp only [Option.bind_some]
  rw [decide_eq_false (show ¬ (0 : Int) > 0 by omega), decide_eq_false (show ¬ (S.length : Int) > 9223372036854775807 by omega), wrapI (x := (S.length : Int)) (by omega) (by omega)]
  simp only [Bool.or_self, cond_false, Int.toNat_natCast, List.length_replicate, List.length_cons, List.length_nil, Nat.zero_add]
  rw [asrtP (fun _ => by rw [decide_eq_true (show (0 : Int) ≤ (S.length : Int) by omega), decide_eq_true (Int.le_refl _), limI (by omega)]; rfl)]
  have hpl : 0 + S.length ≤ (List.replicate S.length false).length := by simp
  have hmin : min 1 S.length ≤ S.length := Nat.min_le_right _ _
  rw [l39_1_eq _ S.length (by omega) S.length FUEL (min 1 S.length) _ (by omega) (fuel_lt (by omega)) (by rw [patch_len hpl]; simp) (by omega) hmin (fun i hi => by
    rw [patch_get hpl, if_neg (by omega)]
    simp only [List.length_singleton]
    rw [if_pos (by omega)]
    have : i = 0 := by omega
    subst this
    rfl)]
  obtain ⟨o, h1, h2⟩ := l39_2_eq S hr.up hL (fun y6 => some y6) S.length FUEL 0 (List.replicate S.length true) (by omega) (fuel_lt (by omega)) ⟨by simp, fun i hi => by
    rw [List.getElem?_replicate, if_pos hi]; simp⟩
  exact ⟨o, h1, h2⟩

theorem lf_iff (S : List T36) (i : Nat) : (∀ k, k < S.length → P S k ≠ i) ↔ LeafP S (i : Int) := Iff.rfl

/-- Is a number a leaf? -/
def lfB (S : List T36) (i : Int) : Bool := decide (In S i ∧ LeafP S i)

theorem leaf_read {S : List T36} {o : List Bool} (ho : Lf S o) (i : Int) :
    ∃ x, idxG (((decide (i ≥ 0)) && (decide (i < (List.length o : Int)))) == true) false o i = some x ∧ (((decide (i ≥ 0)) && (decide (i < (List.length o : Int)))) && x) = lfB S i := by
  rw [ho.1]
  by_cases h : In S i
  · obtain ⟨h0, h1⟩ := h
    obtain ⟨n, rfl⟩ := Int.eq_ofNat_of_zero_le h0
    have hn : n < S.length := by omega
    refine ⟨decide (LeafP S (n : Int)), ?_, ?_⟩
    · rw [decide_eq_true (show (n : Int) ≥ 0 by omega), decide_eq_true h1]
      simp only [Bool.and_self, beq_self_eq_true, idxG, cond_true]
      rw [idx_nat]
      exact ho.2 n hn
    · rw [decide_eq_true (show (n : Int) ≥ 0 by omega), decide_eq_true h1]
      unfold lfB
      simp only [Bool.and_self, Bool.true_and]
      apply Bool.eq_iff_iff.2
      simp only [decide_eq_true_eq]
      exact ⟨fun h => ⟨⟨by omega, by omega⟩, h⟩, fun h => h.2⟩
  · have e : ((decide (i ≥ 0)) && (decide (i < (List.length S : Int)))) = false := by
      rw [dec_in]; exact decide_eq_false h
    refine ⟨false, ?_, ?_⟩
    · rw [e]; rfl
    · rw [e]
      unfold lfB
      rw [decide_eq_false (fun h' => h h'.1)]; rfl

/-- A day. -/
def Day (d : Int) : Prop := 0 ≤ d ∧ d ≤ 200000

instance (d : Int) : Decidable (Day d) := by unfold Day; infer_instance

theorem m42_eq (d : Int) : m42 d = some (decide (Day d)) := by
  unfold m42
  congr 1
  apply Bool.eq_iff_iff.2
  simp only [Bool.and_eq_true, decide_eq_true_eq]
  exact Iff.rfl

theorem m55_eq (d : Int) : m55 d = some (decide (Day d)) := by
  unfold m55
  congr 1
  apply Bool.eq_iff_iff.2
  simp only [Bool.and_eq_true, decide_eq_true_eq]
  exact Iff.rfl

/-- The days of a trade fit. -/
def Days (a d x : Int) : Prop := Day a ∧ Day d ∧ a ≤ d ∧ (x = -1 ∨ (Day x ∧ d ≤ x))

instance (a d x : Int) : Decidable (Days a d x) := by unfold Days; infer_instance

/-- Kind and the day on which it is given back fit. -/
def Kind (k d b : Int) : Prop := (k = 0 ∧ b = 0) ∨ (k = 1 ∧ Day b ∧ d < b)

instance (k d b : Int) : Decidable (Kind k d b) := by unfold Kind; infer_instance

theorem days_eq (a d x : Int) (K : Option Bool) :
    ((some (decide (Day a))).bind fun r3 => (bif ((!r3) == false) then some (decide (Day d)) else some false).bind fun r4 =>
      (bif (((((!r3) || (!r4)) || (decide (a > d))) == false) && ((x != (-1)) == true)) then some (decide (Day x)) else some false).bind fun r5 =>
      bif ((((!r3) || (!r4)) || (decide (a > d))) || ((x != (-1)) && ((!r5) || (decide (x < d))))) then some false else K) = bif decide (Days a d x) then K else some false := by
  unfold Days
  by_cases h1 : Day a
  case neg => simp [h1]
  by_cases h2 : Day d
  case neg => simp [h1, h2]
  by_cases h3 : a > d
  · have : ¬ a ≤ d := by omega
    simp [h1, h2, h3, this]
  have h3' : a ≤ d := by omega
  by_cases h4 : x = -1
  · subst h4
    simp [h1, h2, h3, h3']
  have h4' : (x != -1) = true := by simpa using h4
  by_cases h5 : Day x
  case neg => simp [h1, h2, h3, h3', h4, h4', h5]
  by_cases h6 : x < d
  · have : ¬ d ≤ x := by omega
    simp [h1, h2, h3, h3', h4, h4', h5, h6, this]
  · have : d ≤ x := by omega
    simp [h1, h2, h3, h3', h4, h4', h5, h6, this]

/-- A trade is right for seats. -/
def OneP (S : List T36) (t : T45) : Prop :=
  (In S t.2.1 ∧ LeafP S t.2.1) ∧ (In S t.2.2.1 ∧ LeafP S t.2.2.1) ∧ (t.2.1 ≠ t.2.2.1 ∧ 1 ≤ t.2.2.2.1 ∧ t.2.2.2.1 ≤ 1000000000) ∧
  Days t.2.2.2.2.1 t.2.2.2.2.2.1 t.2.2.2.2.2.2.1 ∧ Kind t.1 t.2.2.2.2.2.1 t.2.2.2.2.2.2.2.1

instance (S : List T36) (t : T45) : Decidable (OneP S t) := by unfold OneP; infer_instance

theorem kind_eq (k d b : Int) : (bif (k == 0) then some (b == 0) else bif (k == 1) then some (decide (Day b) && decide (b > d)) else some false) = some (decide (Kind k d b)) := by
  unfold Kind
  by_cases h0 : k = 0
  · subst h0
    by_cases hb : b = 0
    · subst hb; simp
    · simp [hb]
  · rw [show (k == 0) = false by simpa using h0]
    by_cases h1 : k = 1
    · subst h1
      by_cases hb : Day b
      · simp [hb]
      · simp [hb]
    · rw [show (k == 1) = false by simpa using h1]
      simp [h0, h1]

theorem m38_eq {S : List T36} {o : List Bool} (ho : Lf S o) (t : T45) : m38 o t = some (decide (OneP S t)) := by
  obtain ⟨k, f, g, u, a, d, x, b, y⟩ := t
  unfold m38
  simp only []
  obtain ⟨x1, e1, b1⟩ := leaf_read ho f
  obtain ⟨x2, e2, b2⟩ := leaf_read ho g
  rw [e1]
  simp only [Option.bind_some, b1, e2, b2, m42_eq]
  by_cases hf : In S f ∧ LeafP S f
  case neg =>
    have : lfB S f = false := decide_eq_false hf
    rw [this, decide_eq_false (fun h : OneP S _ => hf h.1)]
    rfl
  by_cases hg : In S g ∧ LeafP S g
  case neg =>
    have h1 : lfB S f = true := decide_eq_true hf
    have h2 : lfB S g = false := decide_eq_false hg
    rw [h1, h2, decide_eq_false (fun h : OneP S _ => hg h.2.1)]
    rfl
  have h1 : lfB S f = true := decide_eq_true hf
  have h2 : lfB S g = true := decide_eq_true hg
  rw [h1, h2]
  simp only [Bool.not_true, Bool.false_or, beq_self_eq_true, cond_true]
  by_cases h3 : f ≠ g ∧ 1 ≤ u ∧ u ≤ 1000000000
  case neg =>
    rw [decide_eq_false (fun h : OneP S _ => h3 h.2.2.1), bifT]
    simp only [Bool.or_eq_true, beq_iff_eq, decide_eq_true_eq]
    omega
  rw [bifF (by simp only [Bool.or_eq_false_iff, beq_eq_false_iff_ne, decide_eq_false_iff_not]; omega)]
  have := days_eq a d x (some (decide (Kind k d b)))
  rw [kind_eq]
  simp only [Option.bind_some] at this
  rw [this]
  by_cases h4 : Days a d x
  · rw [decide_eq_true h4, cond_true]
    congr 1
    apply Bool.eq_iff_iff.2
    simp only [decide_eq_true_eq]
    exact ⟨fun h => ⟨hf, hg, h3, h4, h⟩, fun h => h.2.2.2.2⟩
  · rw [decide_eq_false h4, decide_eq_false (fun h : OneP S _ => h4 h.2.2.2.1)]
    rfl

theorem m46_eq {S : List T36} (hr : Right S) (t : T45) : m46 S t = some (decide (OneP S t)) := by
  obtain ⟨k, f, g, u, a, d, x, b, y⟩ := t
  unfold m46
  simp only [m55_eq, m37_eq S hr.1]
  have hl : ∀ i, leafS S i = lfB S i := fun i => by
    unfold leafS lfB
    apply Bool.eq_iff_iff.2
    simp only [decide_eq_true_eq]
    exact ⟨fun h => h.2, fun h => ⟨hr, h⟩⟩
  rw [hl, hl]
  by_cases hk : k = 0 ∨ k = 1
  case neg =>
    have hK : ¬ Kind k d b := fun h => by unfold Kind at h; omega
    rw [decide_eq_false (fun h : OneP S _ => hK h.2.2.2.2)]
    have : (decide (k < 0) || decide (k ≥ 2)) = true := by simp only [Bool.or_eq_true, decide_eq_true_eq]; omega
    rw [this]
    rfl
  have : (decide (k < 0) || decide (k ≥ 2)) = false := by simp only [Bool.or_eq_false_iff, decide_eq_false_iff_not]; omega
  rw [this]
  by_cases hfg : f = g
  · rw [decide_eq_false (fun h : OneP S _ => h.2.2.1.1 hfg)]
    subst hfg
    simp
  have e : (f == g) = false := by simpa using hfg
  rw [e]
  simp only [Bool.or_self, Bool.false_or, beq_self_eq_true, cond_true, Option.bind_some]
  by_cases hf : In S f ∧ LeafP S f
  case neg =>
    have : lfB S f = false := decide_eq_false hf
    rw [this, decide_eq_false (fun h : OneP S _ => hf h.1)]
    rfl
  by_cases hg : In S g ∧ LeafP S g
  case neg =>
    have h1 : lfB S f = true := decide_eq_true hf
    have h2 : lfB S g = false := decide_eq_false hg
    rw [h1, h2, decide_eq_false (fun h : OneP S _ => hg h.2.1)]
    rfl
  have h1 : lfB S f = true := decide_eq_true hf
  have h2 : lfB S g = true := decide_eq_true hg
  rw [h1, h2]
  simp only [Bool.not_true, Bool.false_or, beq_self_eq_true, cond_true, Option.bind_some]
  by_cases h3 : f ≠ g ∧ 1 ≤ u ∧ u ≤ 1000000000
  case neg =>
    rw [decide_eq_false (fun h : OneP S _ => h3 h.2.2.1), bifT]
    simp only [Bool.or_eq_true, decide_eq_true_eq]
    omega
  rw [bifF (by simp only [Bool.or_eq_false_iff, decide_eq_false_iff_not]; omega)]
  have hkind : (bif (k == 0) then some (b == 0) else some (decide (Day b) && decide (b > d))) = some (decide (Kind k d b)) := by
    rw [← kind_eq]
    rcases hk with rfl | rfl <;> rfl
  have := days_eq a d x (some (decide (Kind k d b)))
  rw [hkind]
  simp only [Option.bind_some] at this
  rw [this]
  by_cases h4 : Days a d x
  · rw [decide_eq_true h4, cond_true]
    congr 1
    apply Bool.eq_iff_iff.2
    simp only [decide_eq_true_eq]
    exact ⟨fun h => ⟨hf, hg, h3, h4, h⟩, fun h => h.2.2.2.2⟩
  · rw [decide_eq_false h4, decide_eq_false (fun h : OneP S _ => h4 h.2.2.2.1)]
    rfl

/-- Trades are right for seats. -/
def RightT (S : List T36) (l : List T45) : Prop := Right S ∧ l.length ≤ 10000 ∧ ∀ t ∈ l, OneP S t

instance (S : List T36) (l : List T45) : Decidable (RightT S l) := by unfold RightT; infer_instance

theorem l28_eq {R : Type} {S : List T36} {o : List Bool} (ho : Lf S o) (l : List T45) (hl : l.length ≤ 10000) (k1 : Option R) (k2 : Int → Option R) : ∀ (d n j : Nat), j + d = l.length → d < n → (∀ t ∈ l.take j, OneP S t) →
    ((∀ t ∈ l, OneP S t) ∧ l28_1 l (List.length l : Int) o k1 k2 n j = k1) ∨ (¬ (∀ t ∈ l, OneP S t) ∧ ∃ i : Nat, l28_1 l (List.length l : Int) o k1 k2 n j = k2 i) := by
  intro d
  induction d with
  | zero =>
    intro n j hj hn h
    obtain ⟨n, rfl⟩ : ∃ m, n = m + 1 := ⟨n - 1, by omega⟩
    left
    rw [List.take_of_length_le (by omega)] at h
    refine ⟨h, ?_⟩
    show s28_1 l _ o (l28_1 l _ o k1 k2 n) k1 k2 j = _
    unfold s28_1
    rw [bifF (decide_eq_false (by omega))]
  | succ d ih =>
    intro n j hj hn h
    obtain ⟨n, rfl⟩ : ∃ m, n = m + 1 := ⟨n - 1, by omega⟩
    have hlt : j < l.length := by omega
    by_cases hq : OneP S l[j]
    · have h' : ∀ t ∈ l.take (j + 1), OneP S t := by
        intro t ht
        rw [List.take_succ_eq_append_getElem hlt] at ht
        rcases List.mem_append.1 ht with ht | ht
        · exact h t ht
        · rw [List.mem_singleton.1 ht]; exact hq
      have e : l28_1 l (List.length l : Int) o k1 k2 (n + 1) j = l28_1 l (List.length l : Int) o k1 k2 n (j + 1 : Nat) := by
        show s28_1 l _ o (l28_1 l _ o k1 k2 n) k1 k2 j = _
        unfold s28_1
        rw [bifT (decide_eq_true (by omega)), idx_nat, List.getElem?_eq_getElem hlt]
        simp only [Option.bind_some]
        rw [m38_eq ho, decide_eq_true hq]
        simp only [Option.bind_some, Bool.not_true, cond_false]
        rw [wrapI (x := (j : Int) + 1) (by omega) (by omega)]
        rfl
      rw [e]
      exact ih n (j + 1) (by omega) (by omega) h'
    · right
      refine ⟨fun hall => hq (hall _ (List.getElem_mem hlt)), j, ?_⟩
      show s28_1 l _ o (l28_1 l _ o k1 k2 n) k1 k2 j = _
      unfold s28_1
      rw [bifT (decide_eq_true (by omega)), idx_nat, List.getElem?_eq_getElem hlt]
      simp only [Option.bind_some]
      rw [m38_eq ho, decide_eq_false hq]
      rfl

theorem m28_eq (S : List T36) (l : List T45) : m28 S l = some (decide (RightT S l)) := by
  unfold m28
  rw [m33_eq]
  simp only [Option.bind_some]
  by_cases hr : Right S
  case neg => rw [decide_eq_false hr, decide_eq_false (fun h : RightT S l => hr h.1)]; rfl
  by_cases hl : l.length ≤ 10000
  case neg =>
    rw [decide_eq_true hr, decide_eq_true (show (l.length : Int) > 10000 by omega), decide_eq_false (fun h : RightT S l => hl h.2.1)]; rfl
  rw [decide_eq_true hr, decide_eq_false (show ¬ (l.length : Int) > 10000 by omega)]
  obtain ⟨o, ho, e⟩ := m39_eq S hr
  simp only [Bool.not_true, Bool.or_self, cond_false, e, Option.bind_some]
  rcases l28_eq ho l hl (some (!(decide ((-1 : Int) ≥ 0)))) (fun y5 => some (!(decide (y5 ≥ 0)))) l.length FUEL 0 (by omega) (fuel_lt (by omega)) (by simp) with ⟨h1, h2⟩ | ⟨h1, i, h2⟩
  · rw [decide_eq_true (show RightT S l from ⟨hr, hl, h1⟩)]
    exact h2
  · rw [decide_eq_false (fun h : RightT S l => h1 h.2.2)]
    refine Eq.trans h2 ?_
    simp

theorem l31_eq {R : Type} {S : List T36} (hr : Right S) (l : List T45) (hl : l.length ≤ 10000) (k1 k2 : Option R) : ∀ (d n j : Nat), j + d = l.length → d < n → (∀ t ∈ l.take j, OneP S t) →
    l31_1 S l k1 k2 n j = bif decide (∀ t ∈ l, OneP S t) then k1 else k2 := by
  intro d
  induction d with
  | zero =>
    intro n j hj hn h
    obtain ⟨n, rfl⟩ : ∃ m, n = m + 1 := ⟨n - 1, by omega⟩
    rw [List.take_of_length_le (by omega)] at h
    rw [decide_eq_true h]
    show s31_1 S l (l31_1 S l k1 k2 n) k1 k2 j = _
    unfold s31_1
    rw [bifF (decide_eq_false (by omega))]
    rfl
  | succ d ih =>
    intro n j hj hn h
    obtain ⟨n, rfl⟩ : ∃ m, n = m + 1 := ⟨n - 1, by omega⟩
    have hlt : j < l.length := by omega
    have e0 : l31_1 S l k1 k2 (n + 1) j = bif decide (OneP S l[j]) then l31_1 S l k1 k2 n (j + 1 : Nat) else k2 := by
      show s31_1 S l (l31_1 S l k1 k2 n) k1 k2 j = _
      unfold s31_1
      rw [bifT (decide_eq_true (by omega)), idx_nat, List.getElem?_eq_getElem hlt]
      simp only [Option.bind_some]
      rw [m46_eq hr, wrapI (x := (j : Int) + 1) (by omega) (by omega)]
      simp only [Option.bind_some]
      cases decide (OneP S l[j]) <;> rfl
    rw [e0]
    by_cases hq : OneP S l[j]
    · rw [decide_eq_true hq, cond_true]
      refine ih n (j + 1) (by omega) (by omega) fun t ht => ?_
      rw [List.take_succ_eq_append_getElem hlt] at ht
      rcases List.mem_append.1 ht with ht | ht
      · exact h t ht
      · rw [List.mem_singleton.1 ht]; exact hq
    · rw [decide_eq_false hq, decide_eq_false (fun hall : ∀ t ∈ l, OneP S t => hq (hall _ (List.getElem_mem hlt)))]
      rfl

theorem m31_eq (S : List T36) (hL : S.length ≤ 20000) (l : List T45) : m31 S l = some (decide (RightT S l)) := by
  unfold m31
  rw [m34_eq S hL]
  simp only [Option.bind_some]
  by_cases hr : Right S
  case neg => rw [decide_eq_false hr, decide_eq_false (fun h : RightT S l => hr h.1)]; rfl
  by_cases hl : l.length ≤ 10000
  case neg =>
    rw [decide_eq_true hr, decide_eq_true (show (l.length : Int) > 10000 by omega), decide_eq_false (fun h : RightT S l => hl h.2.1)]; rfl
  rw [decide_eq_true hr, decide_eq_false (show ¬ (l.length : Int) > 10000 by omega)]
  simp only [Bool.not_true, Bool.or_self, cond_false]
  refine Eq.trans (l31_eq hr l hl _ _ l.length FUEL 0 (by omega) (fuel_lt (by omega)) (by simp)) ?_
  by_cases h : ∀ t ∈ l, OneP S t
  · rw [decide_eq_true h, decide_eq_true (show RightT S l from ⟨hr, hl, h⟩)]; rfl
  · rw [decide_eq_false h, decide_eq_false (fun h' : RightT S l => h h'.2.2)]; rfl

theorem l41_eq {R : Type} (S : List T36) (u : List Int) (hl : u.length = S.length) (hL : S.length ≤ 20000) {o : List Bool} (ho : Lf S o) (k1 k2 : Option R) : ∀ (d n j : Nat), j + d = S.length → d < n →
    (∀ i, i < j → 0 ≤ gI u i ∧ (0 < gI u i → LeafP S i)) → 0 ≤ sumN (gI u) j → sumN (gI u) j ≤ 1000000000 →
    l41_1 u o (List.length o : Int) k1 k2 n (sumN (gI u) j) j = bif decide ((∀ i, i < S.length → 0 ≤ gI u i ∧ (0 < gI u i → LeafP S i)) ∧ sumN (gI u) S.length ≤ 1000000000) then k1 else k2 := by
  intro d
  induction d with
  | zero =>
    intro n j hj hn h h0 h1
    obtain ⟨n, rfl⟩ : ∃ m, n = m + 1 := ⟨n - 1, by omega⟩
    have hj : j = S.length := by omega
    subst hj
    show s41_1 u o _ (l41_1 u o _ k1 k2 n) k1 k2 _ _ = _
    unfold s41_1
    rw [bifF (decide_eq_false (by rw [ho.1]; omega)), decide_eq_true ⟨h, h1⟩]
    rfl
  | succ d ih =>
    intro n j hj hn h h0 h1
    obtain ⟨n, rfl⟩ : ∃ m, n = m + 1 := ⟨n - 1, by omega⟩
    have hlt : j < S.length := by omega
    show s41_1 u o _ (l41_1 u o _ k1 k2 n) k1 k2 _ _ = _
    unfold s41_1
    rw [bifT (decide_eq_true (by rw [ho.1]; omega)), idx_nat, ho.2 j hlt, idx_nat, gI_get (show j < u.length by omega)]
    simp only [Option.bind_some]
    rw [wrapI (x := 1000000000 - sumN (gI u) j) (by omega) (by omega)]
    have hs : sumN (gI u) (j + 1) = sumN (gI u) j + gI u j := rfl
    have hlf : (∀ k, k < S.length → P S k ≠ j) ↔ LeafP S (j : Int) := Iff.rfl
    by_cases hb : (0 ≤ gI u j ∧ gI u j ≤ 1000000000 - sumN (gI u) j) ∧ (gI u j ≠ 0 → LeafP S (j : Int))
    · obtain ⟨⟨b1, b2⟩, b3⟩ := hb
      have e : (((decide (gI u j < 0)) || (decide (gI u j > 1000000000 - sumN (gI u) j))) || ((!decide (∀ k, k < S.length → P S k ≠ j)) && (gI u j != 0))) = false := by
        rw [decide_eq_false (show ¬ gI u j < 0 by omega), decide_eq_false (show ¬ gI u j > 1000000000 - sumN (gI u) j by omega)]
        by_cases hz : gI u j = 0
        · rw [hz]; simp
        · rw [decide_eq_true (hlf.2 (b3 hz))]; rfl
      rw [bifF e, wrapI (x := sumN (gI u) j + gI u j) (by omega) (by omega), wrapI (x := (j : Int) + 1) (by omega) (by omega), ← hs]
      refine ih n (j + 1) (by omega) (by omega) (fun i hi => ?_) (by omega) (by omega)
      by_cases hij : i = j
      · subst hij; exact ⟨b1, fun hp => b3 (by omega)⟩
      · exact h i (by omega)
    · have e : (((decide (gI u j < 0)) || (decide (gI u j > 1000000000 - sumN (gI u) j))) || ((!decide (∀ k, k < S.length → P S k ≠ j)) && (gI u j != 0))) = true := by
        by_cases c1 : gI u j < 0
        · rw [decide_eq_true c1]; rfl
        by_cases c2 : gI u j > 1000000000 - sumN (gI u) j
        · rw [decide_eq_true c2]; simp
        have c3 : ¬ (gI u j ≠ 0 → LeafP S (j : Int)) := fun h => hb ⟨⟨by omega, by omega⟩, h⟩
        have c4 : gI u j ≠ 0 := fun h => c3 fun h' => absurd h h'
        have c5 : ¬ LeafP S (j : Int) := fun h => c3 fun _ => h
        rw [decide_eq_false (fun h => c5 (hlf.1 h)), bne_ne c4]; simp
      rw [bifT e]
      rw [decide_eq_false]
      · rfl
      · rintro ⟨g1, g2⟩
        have gj := g1 j hlt
        have hle : sumN (gI u) (j + 1) ≤ sumN (gI u) S.length := by
          have hsp := sumN_split (gI u) (j + 1) S.length (by omega)
          have hnn : 0 ≤ sumN (fun i => if j + 1 ≤ i then gI u i else 0) S.length := sumN_nonneg fun i hi => by
            split
            · exact (g1 i hi).1
            · omega
          omega
        exact hb ⟨⟨gj.1, by omega⟩, fun hz => gj.2 (by omega)⟩

theorem m41_eq (S : List T36) (hr : Right S) (u : List Int) : m41 S u = some (decide (Valid S u)) := by
  unfold m41
  by_cases hl : u.length = S.length
  case neg =>
    rw [bifT (bne_ne (by omega)), decide_eq_false (fun h : Valid S u => hl h.2.1)]
  have e : ((List.length u : Int) != (List.length S : Int)) = false := by rw [hl]; exact bne_same _
  rw [bifF e]
  obtain ⟨o, ho, eo⟩ := m39_eq S hr
  rw [eo]
  simp only [Option.bind_some]
  refine Eq.trans (l41_eq S u hl hr.1 ho (some true) (some false) S.length FUEL 0 (by omega) (fuel_lt (by have := hr.1; omega)) (fun i hi => by omega) (Int.le_refl _) (by show (0 : Int) ≤ _; omega)) ?_
  by_cases h : (∀ i, i < S.length → 0 ≤ gI u i ∧ (0 < gI u i → LeafP S i)) ∧ sumN (gI u) S.length ≤ 1000000000
  · rw [decide_eq_true h, decide_eq_true (show Valid S u from ⟨hr, hl, fun i hi => ⟨(h.1 i hi).1, by
      have := sumN_part hi (fun i hi => (h.1 i hi).1)
      omega, (h.1 i hi).2⟩, h.2⟩)]
    rfl
  · rw [decide_eq_false h, decide_eq_false (fun hv : Valid S u => h ⟨fun i hi => ⟨(hv.2.2.1 i hi).1, (hv.2.2.1 i hi).2.2⟩, hv.2.2.2⟩)]
    rfl

/-- A trade can settle. -/
def Can (u : List Int) (now : Int) (t : T45) : Prop := t.2.2.2.2.2.2.1 = -1 ∧ t.2.2.2.2.2.1 ≤ now ∧ t.2.2.2.1 ≤ gI u t.2.1.toNat

instance (u : List Int) (now : Int) (t : T45) : Decidable (Can u now t) := by unfold Can; infer_instance

def setD (now : Int) (t : T45) : T45 := (t.1, t.2.1, t.2.2.1, t.2.2.2.1, t.2.2.2.2.1, t.2.2.2.2.2.1, now, t.2.2.2.2.2.2.2.1, ())

def backT (now : Int) (t : T45) : T45 := (0, t.2.2.1, t.2.1, t.2.2.2.1, now, max t.2.2.2.2.2.2.2.1 now, -1, 0, ())

def stepL (now : Int) (l : List T45) (i : Nat) (t : T45) : List T45 := l.set i (setD now t) ++ (if t.1 = 1 then [backT now t] else [])

def stepU (u : List Int) (t : T45) : List Int := mvU u t.2.1.toNat t.2.2.1.toNat t.2.2.2.1

/-- The first trade that can settle. -/
def fst1 (u : List Int) (now : Int) (l : List T45) : Option Nat := l.findIdx? fun t => decide (Can u now t)

def settle (now : Int) : Nat → List Int → List T45 → List Int × List T45
  | 0, u, l => (u, l)
  | n + 1, u, l => match fst1 u now l with
    | none => (u, l)
    | some i => settle now n (stepU u (l.getD i (0, 0, 0, 0, 0, 0, 0, 0, ()))) (stepL now l i (l.getD i (0, 0, 0, 0, 0, 0, 0, 0, ())))

/-- How often something can settle yet. -/
def wt (t : T45) : Nat := if t.2.2.2.2.2.2.1 = -1 then (if t.1 = 1 then 2 else 1) else 0

def mu (l : List T45) : Nat := (l.map wt).sum

theorem fst1_none {u : List Int} {now : Int} {l : List T45} (h : ∀ t ∈ l, ¬ Can u now t) : fst1 u now l = none := by
  unfold fst1
  rw [List.findIdx?_eq_none_iff]
  intro t ht
  simpa using h t ht

theorem fst1_some {u : List Int} {now : Int} {l : List T45} {i : Nat} (hi : i < l.length) (h : Can u now l[i]) (hb : ∀ j (hj : j < i), ¬ Can u now (l[j]'(by omega))) : fst1 u now l = some i := by
  unfold fst1
  rw [List.findIdx?_eq_some_iff_getElem]
  exact ⟨hi, by simpa using h, fun j hj => by simpa using hb j hj⟩

theorem settle_none {u : List Int} {now : Int} {l : List T45} (h : ∀ t ∈ l, ¬ Can u now t) (n : Nat) : settle now n u l = (u, l) := by
  cases n with
  | zero => rfl
  | succ n => simp only [settle, fst1_none h]

theorem mu_set : ∀ (l : List T45) (i : Nat) (hi : i < l.length) (x : T45), mu (l.set i x) + wt l[i] = mu l + wt x
  | [], i, hi, x => by simp at hi
  | t :: l, 0, hi, x => by simp [mu]; omega
  | t :: l, i + 1, hi, x => by
    have := mu_set l i (by simpa using hi) x
    simp only [mu, List.set_cons_succ, List.map_cons, List.sum_cons, List.getElem_cons_succ] at this ⊢
    omega

theorem mu_app (a b : List T45) : mu (a ++ b) = mu a + mu b := by simp [mu]

theorem mu_step {now : Int} {l : List T45} {i : Nat} (hi : i < l.length) (ho : l[i].2.2.2.2.2.2.1 = -1) (hn : 0 ≤ now) : mu (stepL now l i l[i]) + 1 = mu l ∧ (stepL now l i l[i]).length ≤ l.length + 1 ∧
    (stepL now l i l[i]).length + mu (stepL now l i l[i]) ≤ l.length + mu l := by
  have h1 := mu_set l i hi (setD now l[i])
  have hw : wt (setD now l[i]) = 0 := by unfold wt setD; rw [if_neg]; simp only; omega
  unfold stepL
  rw [mu_app, List.length_append, List.length_set]
  by_cases hk : l[i].1 = 1
  · rw [if_pos hk]
    have hb : mu [backT now l[i]] = 1 := rfl
    have hw2 : wt l[i] = 2 := by unfold wt; rw [if_pos ho, if_pos hk]
    rw [hb]
    simp only [List.length_singleton]
    omega
  · rw [if_neg hk]
    have hw2 : wt l[i] = 1 := by unfold wt; rw [if_pos ho, if_neg hk]
    have hb : mu ([] : List T45) = 0 := rfl
    rw [hb]
    simp only [List.length_nil]
    omega

/-- What holds while trades settle. -/
structure St1 (S : List T36) (u : List Int) (l : List T45) : Prop where
  val : Valid S u
  one : ∀ t ∈ l, OneP S t

theorem St1.step {S : List T36} {u : List Int} {l : List T45} (h : St1 S u l) {now : Int} (hn : Day now) {i : Nat} (hi : i < l.length) (hc : Can u now l[i]) : St1 S (stepU u l[i]) (stepL now l i l[i]) := by
  have ht := h.one l[i] (List.getElem_mem hi)
  obtain ⟨⟨⟨f0, f1⟩, lf⟩, ⟨⟨g0, g1⟩, lg⟩, ⟨hne, u1, u2⟩, ⟨d1, d2, d3, d4⟩, hk⟩ := ht
  obtain ⟨c1, c2, c3⟩ := hc
  have ef : ((l[i].2.1.toNat : Nat) : Int) = l[i].2.1 := Int.toNat_of_nonneg f0
  have eg : ((l[i].2.2.1.toNat : Nat) : Int) = l[i].2.2.1 := Int.toNat_of_nonneg g0
  refine ⟨valid_mv h.val (by omega) (by omega) (by rw [ef]; exact lf) (by rw [eg]; exact lg) u1 c3, fun t ht => ?_⟩
  unfold stepL at ht
  rcases List.mem_append.1 ht with ht | ht
  · rcases List.mem_or_eq_of_mem_set ht with ht | rfl
    · exact h.one t ht
    · exact ⟨⟨⟨f0, f1⟩, lf⟩, ⟨⟨g0, g1⟩, lg⟩, ⟨hne, u1, u2⟩, ⟨d1, d2, d3, .inr ⟨hn, c2⟩⟩, hk⟩
  · split at ht
    · rename_i hk1
      rw [List.mem_singleton.1 ht]
      have hb : Day l[i].2.2.2.2.2.2.2.1 := by
        rcases hk with ⟨h0, _⟩ | ⟨_, hb, _⟩
        · omega
        · exact hb
      have hmx : Day (max l[i].2.2.2.2.2.2.2.1 now) := by unfold Day at *; omega
      exact ⟨⟨⟨g0, g1⟩, lg⟩, ⟨⟨f0, f1⟩, lf⟩, ⟨fun e => hne e.symm, u1, u2⟩, ⟨hn, hmx, by simp only [backT]; omega, .inl rfl⟩, .inl ⟨rfl, rfl⟩⟩
    · cases ht

theorem mv_sets {u : List Int} {f t : Nat} {n : Int} (hf : f < u.length) (ht : t < u.length) (hv1 : -9223372036854775808 ≤ gI u f - n) (hv2 : gI u f - n ≤ 9223372036854775807)
    (hw1 : -9223372036854775808 ≤ gI (u.set f (gI u f - n)) t + n) (hw2 : gI (u.set f (gI u f - n)) t + n ≤ 9223372036854775807) :
    (List.set (List.set u f (IntKind.i64.wrap (gI u f - n))) t (IntKind.i64.wrap (gI (u.set f (gI u f - n)) t + n))) = mvU u f t n := by
  rw [wrapI hv1 hv2, wrapI hw1 hw2]
  rfl

theorem mv_bounds {S : List T36} {u : List Int} (hv : Valid S u) {f t : Nat} {n : Int} (hf : f < S.length) (ht : t < S.length) (h1 : 1 ≤ n) (h2 : n ≤ 1000000000) :
    (-9223372036854775808 ≤ gI u f - n ∧ gI u f - n ≤ 9223372036854775807) ∧ (-9223372036854775808 ≤ gI (u.set f (gI u f - n)) t + n ∧ gI (u.set f (gI u f - n)) t + n ≤ 9223372036854775807) := by
  have a := hv.nn hf
  have b := hv.nn ht
  have hul := hv.2.1
  rw [gI_set (by omega)]
  split <;> omega

theorem getD_get {l : List T45} {i : Nat} (hi : i < l.length) : l.getD i (0, 0, 0, 0, 0, 0, 0, 0, ()) = l[i] := by
  rw [List.getD_eq_getElem?_getD, List.getElem?_eq_getElem hi]; rfl

theorem settle_some {u : List Int} {now : Int} {l : List T45} {i : Nat} (hi : i < l.length) (h : Can u now l[i]) (hb : ∀ j (hj : j < i), ¬ Can u now (l[j]'(by omega))) (n : Nat) :
    settle now (n + 1) u l = settle now n (stepU u l[i]) (stepL now l i l[i]) := by
  simp only [settle, fst1_some hi h hb, getD_get hi]

theorem max_bif (a b : Int) : (bif decide (a > b) then a else b) = max b a := by
  cases h : decide (a > b) with
  | true => simp only [cond_true]; have := of_decide_eq_true h; omega
  | false => simp only [cond_false]; have := of_decide_eq_false h; omega

theorem limL {n : Nat} (h : n ≤ 200000) : decide (n ≤ LIM) = true := decide_eq_true (Nat.le_trans h (by decide))

/-- The code's loop. -/
theorem l22_eq {R : Type} {S : List T36} {now : Int} (hn : Day now) (k : List Int → List T45 → Option R) (B : Nat) (hB : B ≤ 100000) : ∀ (n i : Nat) (u : List Int) (l : List T45), St1 S u l → l.length + mu l ≤ B → i ≤ l.length →
    (∀ j (hj : j < i) (hj2 : j < l.length), ¬ Can u now l[j]) → mu l * (B + 2) + (l.length - i) < n →
    l22_1 now k n i u l = k (settle now (mu l) u l).1 (settle now (mu l) u l).2 := by
  intro n
  induction n with
  | zero => intro i u l _ _ _ _ h; omega
  | succ n ih =>
    intro i u l hS hBl hi hb hf
    show s22_1 now (l22_1 now k n) k i u l = _
    by_cases hlt : i < l.length
    case neg =>
      unfold s22_1
      rw [bifF (decide_eq_false (by omega)), settle_none]
      intro t ht
      obtain ⟨j, hj, rfl⟩ := List.getElem_of_mem ht
      exact hb j (by omega) hj
    have ht := hS.one l[i] (List.getElem_mem hlt)
    have hul := hS.val.2.1
    unfold s22_1
    rw [bifT (decide_eq_true (by omega))]
    simp only [Int.toNat_natCast, cont]
    rw [asrtP (fun _ => by simp only [Bool.and_eq_true, decide_eq_true_eq]; omega), List.getElem?_eq_getElem hlt]
    simp only [Option.bind_some]
    obtain ⟨⟨⟨f0, f1⟩, lf⟩, ⟨⟨g0, g1⟩, lg⟩, ⟨hne, u1, u2⟩, hd, hk⟩ := id ht
    have hfl : l[i].2.1.toNat < u.length := by omega
    have hgl : l[i].2.2.1.toNat < u.length := by omega
    rw [asrtP (fun _ => by simp only [Bool.and_eq_true, decide_eq_true_eq]; omega), gI_get hfl]
    have nxt : IntKind.i64.wrap ((i : Int) + 1) = ((i + 1 : Nat) : Int) := by rw [wrapI (by omega) (by omega)]; rfl
    by_cases hc : Can u now l[i]
    · obtain ⟨c1, c2, c3⟩ := id hc
      have e1 : ((l[i].2.2.2.2.2.2.1 != (-1)) || (decide (l[i].2.2.2.2.2.1 > now))) = false := by
        rw [c1, decide_eq_false (by omega)]; rfl
      rw [e1]
      simp only [show (false == false) = true from rfl, cond_true, Option.bind_some, Bool.false_or]
      rw [bifF (decide_eq_false (by omega))]
      obtain ⟨⟨w1, w2⟩, w3, w4⟩ := mv_bounds hS.val (f := l[i].2.1.toNat) (t := l[i].2.2.1.toNat) (by omega) (by omega) u1 u2
      rw [asrtP (fun _ => by simp only [Bool.and_eq_true, decide_eq_true_eq]; omega)]
      rw [asrtP (fun _ => by simp only [Bool.and_eq_true, decide_eq_true_eq]; omega)]
      rw [wrapI w1 w2]
      have hsl : l[i].2.2.1.toNat < (u.set l[i].2.1.toNat (gI u l[i].2.1.toNat - l[i].2.2.2.1)).length := by rw [List.length_set]; exact hgl
      rw [asrtP (fun _ => by simp only [Bool.and_eq_true, decide_eq_true_eq, List.length_set]; omega), gI_get hsl]
      simp only [Option.bind_some]
      rw [asrtP (fun _ => by simp only [Bool.and_eq_true, decide_eq_true_eq, List.length_set]; omega)]
      rw [asrtP (fun _ => by simp only [Bool.and_eq_true, decide_eq_true_eq]; omega), wrapI w3 w4]
      have hmu := mu_step (now := now) hlt c1 hn.1
      have hst := hS.step hn hlt hc
      have hpos : mu l = (mu l - 1) + 1 := by omega
      have hfin : ∀ l', l' = stepL now l i l[i] → l22_1 now k n (IntKind.i64.wrap ((-1 : Int) + 1)) (mvU u l[i].2.1.toNat l[i].2.2.1.toNat l[i].2.2.2.1) l' = k (settle now (mu l) u l).1 (settle now (mu l) u l).2 := by
        intro l' el
        subst el
        have e0 : IntKind.i64.wrap ((-1 : Int) + 1) = ((0 : Nat) : Int) := by decide
        rw [e0, hpos, settle_some hlt hc (fun j hj => hb j hj (by omega))]
        have hm : mu l - 1 = mu (stepL now l i l[i]) := by omega
        rw [hm]
        refine ih 0 _ _ hst (by omega) (by omega) (fun j hj => by omega) ?_
        have : mu l * (B + 2) = mu (stepL now l i l[i]) * (B + 2) + (B + 2) := by rw [show mu l = mu (stepL now l i l[i]) + 1 by omega, Nat.add_mul, Nat.one_mul]
        omega
      by_cases hk1 : l[i].1 = 1
      · have ek : (l[i].1 == 1) = true := by simpa using hk1
        rw [ek]
        simp only [cond_true, m43, Option.bind_some]
        rw [asrtP (fun _ => limL (by simp only [List.length_set, List.length_singleton]; omega)), max_bif]
        refine hfin _ ?_
        unfold stepL
        rw [if_pos hk1]
        rfl
      · have ek : (l[i].1 == 1) = false := by simpa using hk1
        rw [ek]
        simp only [cond_false]
        refine hfin _ ?_
        unfold stepL
        rw [if_neg hk1, List.append_nil]
        rfl
    · have hgo : l22_1 now k n (IntKind.i64.wrap ((i : Int) + 1)) u l = k (settle now (mu l) u l).1 (settle now (mu l) u l).2 := by
        rw [nxt]
        refine ih (i + 1) u l hS hBl (by omega) (fun j hj hj2 => ?_) (by omega)
        by_cases hji : j = i
        · subst hji; exact hc
        · exact hb j (by omega) hj2
      by_cases e1 : ((l[i].2.2.2.2.2.2.1 != (-1)) || (decide (l[i].2.2.2.2.2.1 > now))) = true
      · rw [e1]
        simp only [show (true == false) = false from rfl, cond_false, Option.bind_some, Bool.true_or, cond_true]
        exact hgo
      · have e1 := Bool.eq_false_iff.2 e1
        rw [e1]
        simp only [show (false == false) = true from rfl, cond_true, Option.bind_some, Bool.false_or]
        simp only [Bool.or_eq_false_iff, bne_eq_false_iff_eq, decide_eq_false_iff_not] at e1
        have : gI u l[i].2.1.toNat < l[i].2.2.2.1 := by
          by_cases q : gI u l[i].2.1.toNat < l[i].2.2.2.1
          · exact q
          · exact absurd ⟨e1.1, by omega, by omega⟩ hc
        rw [bifT (decide_eq_true this)]
        exact hgo

theorem mu_le (l : List T45) : mu l ≤ 2 * l.length := by
  induction l with
  | nil => exact Nat.le_refl _
  | cons t l ih =>
    have : wt t ≤ 2 := by unfold wt; split <;> (try split) <;> omega
    simp only [mu, List.map_cons, List.sum_cons, List.length_cons] at ih ⊢
    omega

instance dec4 : DecidableEq (Int × Int × Int × Int × Unit) := inferInstance

instance decT : DecidableEq T45 := @instDecidableEqProd _ _ _ (@instDecidableEqProd _ _ _ (@instDecidableEqProd _ _ _ (@instDecidableEqProd _ _ _ dec4)))

/-- What settles on a day, with the checks. -/
def settleS (S : List T36) (u : List Int) (l : List T45) (now : Int) : List Int × List T45 × Int × Unit :=
  if RightT S l ∧ Valid S u ∧ Day now then
    (if (settle now (mu l) u l).2.length ≤ 10000 then ((settle now (mu l) u l).1, (settle now (mu l) u l).2, 0, ()) else ([], [], 6, ()))
  else ([], [], 1, ())

theorem endS (r : List Int × List T45) : (bif (decide ((List.length r.2 : Int) > 10000)) then some (([], [], 6, ()) : List Int × List T45 × Int × Unit) else some (r.1, r.2, 0, ())) =
    some (if r.2.length ≤ 10000 then (r.1, r.2, 0, ()) else ([], [], 6, ())) := by
  by_cases h : r.2.length ≤ 10000
  · rw [if_pos h, bifF (decide_eq_false (by omega))]
  · rw [if_neg h, bifT (decide_eq_true (by omega))]

theorem fuelB {l : List T45} (h : l.length ≤ 10000) : mu l * ((l.length + mu l) + 2) + (l.length - 0) < FUEL := by
  have h1 := mu_le l
  have h2 : mu l * ((l.length + mu l) + 2) ≤ 20000 * 30002 := Nat.mul_le_mul (by omega) (by omega)
  exact fuel_lt (by omega)

theorem m22_eq (S : List T36) (u : List Int) (l : List T45) (now : Int) : m22 S u l now = some (settleS S u l now) := by
  unfold m22
  rw [m28_eq]
  simp only [Option.bind_some]
  by_cases hr : RightT S l
  case neg =>
    unfold settleS
    rw [decide_eq_false hr, if_neg (fun h => hr h.1)]; rfl
  rw [decide_eq_true hr, m41_eq S hr.1]
  by_cases hv : Valid S u
  case neg =>
    unfold settleS
    rw [decide_eq_false hv, if_neg (fun h => hv h.2.1)]; rfl
  rw [decide_eq_true hv, m42_eq]
  by_cases hn : Day now
  case neg =>
    unfold settleS
    rw [decide_eq_false hn, if_neg (fun h => hn h.2.2)]; rfl
  rw [decide_eq_true hn]
  have hul := hv.2.1
  have hL := hr.1.1
  have hl := hr.2.1
  have hmu := mu_le l
  simp only [Bool.not_true, beq_self_eq_true, cond_true, Option.bind_some, Bool.or_self, cond_false]
  rw [cloneM_eq (by omega), cloneM_eq (by omega)]
  simp only [Option.bind_some]
  have := l22_eq hn (fun y16 y17 => bif (decide ((List.length y17 : Int) > 10000)) then some (([], [], 6, ()) : List Int × List T45 × Int × Unit) else some (y16, y17, 0, ())) (l.length + mu l) (by omega) FUEL 0 u l ⟨hv, hr.2.2⟩ (Nat.le_refl _) (Nat.zero_le _)
    (fun j hj => by omega) (fuelB hl)
  refine Eq.trans this ?_
  unfold settleS
  rw [if_pos ⟨hr, hv, hn⟩]
  exact endS _

theorem eqT (x y : T45) : ((x.1 == y.1) && ((x.2.1 == y.2.1) && ((x.2.2.1 == y.2.2.1) && ((x.2.2.2.1 == y.2.2.2.1) && ((x.2.2.2.2.1 == y.2.2.2.2.1) && ((x.2.2.2.2.2.1 == y.2.2.2.2.2.1) && ((x.2.2.2.2.2.2.1 == y.2.2.2.2.2.2.1) && ((x.2.2.2.2.2.2.2.1 == y.2.2.2.2.2.2.2.1) && true)))))))) = decide (x = y) := by
  obtain ⟨a, b, c, d, e, f, g, h, i⟩ := x
  obtain ⟨a', b', c', d', e', f', g', h', i'⟩ := y
  apply Bool.eq_iff_iff.2
  simp only [Bool.and_eq_true, beq_iff_eq, decide_eq_true_eq, Prod.mk.injEq, and_true]

/-- The open trades among the first ones. -/
def opN (l : List T45) (d : Int) : Nat → List Int
  | 0 => []
  | j + 1 => opN l d j ++ (match l[j]? with
    | some x => if x.2.2.2.2.2.2.1 = -1 ∧ x.2.2.2.2.2.1 ≤ d then [(j : Int)] else []
    | none => [])

theorem opN_len (l : List T45) (d : Int) : ∀ j, (opN l d j).length ≤ j
  | 0 => Nat.le_refl _
  | j + 1 => by
    have := opN_len l d j
    simp only [opN, List.length_append]
    split
    · split <;> simp <;> omega
    · simp; omega

theorem opN_mem {l : List T45} {d x : Int} : ∀ {j : Nat}, x ∈ opN l d j → ∃ (i : Nat) (hi : i < l.length), i < j ∧ x = i ∧ l[i].2.2.2.2.2.2.1 = -1 ∧ l[i].2.2.2.2.2.1 ≤ d
  | 0, h => by simp [opN] at h
  | j + 1, h => by
    simp only [opN] at h
    rcases List.mem_append.1 h with h | h
    · obtain ⟨i, hi, h1, h2⟩ := opN_mem h
      exact ⟨i, hi, by omega, h2⟩
    · split at h
      · rename_i y hy
        split at h
        · rename_i hc
          have hj := (List.getElem?_eq_some_iff.1 hy)
          obtain ⟨hj1, hj2⟩ := hj
          rw [← hj2] at hc
          exact ⟨j, hj1, by omega, List.mem_singleton.1 h, hc⟩
        · cases h
      · cases h

theorem op_round {l : List T45} {d : Int} {j : Nat} (hlt : j < l.length) : opN l d (j + 1) = if l[j].2.2.2.2.2.2.1 = -1 ∧ l[j].2.2.2.2.2.1 ≤ d then opN l d j ++ [(j : Int)] else opN l d j := by
  simp only [opN, List.getElem?_eq_getElem hlt]
  split <;> simp

def addS (S : List T36) (l : List T45) (t : T45) : List T45 × Int × Unit :=
  if RightT S l ∧ OneP S t ∧ t.2.2.2.2.2.2.1 = -1 then (if l.length < 5000 then (l ++ [t], 0, ()) else ([], 6, ())) else ([], 1, ())

theorem m21_eq (S : List T36) (l : List T45) (t : T45) : m21 S l t = some (addS S l t) := by
  unfold m21
  rw [m28_eq]
  simp only [Option.bind_some]
  by_cases hr : RightT S l
  case neg =>
    unfold addS
    rw [decide_eq_false hr, if_neg (fun h => hr h.1)]; rfl
  obtain ⟨o, ho, eo⟩ := m39_eq S hr.1
  rw [decide_eq_true hr, eo]
  simp only [Bool.not_true, beq_self_eq_true, cond_true, Option.bind_some]
  rw [m38_eq ho]
  simp only [Option.bind_some]
  by_cases h1 : OneP S t
  case neg =>
    unfold addS
    rw [decide_eq_false h1, if_neg (fun h => h1 h.2.1)]; rfl
  rw [decide_eq_true h1]
  by_cases h2 : t.2.2.2.2.2.2.1 = -1
  case neg =>
    unfold addS
    rw [if_neg (fun h => h2 h.2.2), bne_ne h2]; rfl
  unfold addS
  rw [if_pos ⟨hr, h1, h2⟩, h2]
  simp only [Bool.not_true, Bool.or_self, Bool.false_or, bne_same, cond_false]
  by_cases h3 : l.length < 5000
  · rw [if_pos h3, bifF (decide_eq_false (by omega)), cloneM_eq (by omega)]
    simp only [Option.bind_some]
    rw [asrtP (fun _ => limL (by simp; omega))]
  · rw [if_neg h3, bifT (decide_eq_true (by omega))]

def S3 : List T36 := [((-1), (-1), ()), ((-1), (-1), ()), ((-1), (-1), ())]

def L3 : List T45 := [(0, 1, 2, 5, 1, 3, (-1), 0, ()), (0, 0, 1, 6, 1, 4, (-1), 0, ()), (1, 0, 2, 4, 1, 4, (-1), 9, ())]

def L4 : List T45 := [(0, 1, 2, 5, 1, 3, 4, 0, ()), (0, 0, 1, 6, 1, 4, 4, 0, ()), (1, 0, 2, 4, 1, 4, 4, 9, ()), (0, 2, 0, 4, 4, 9, (-1), 0, ())]

def L5 : List T45 := [(0, 1, 2, 5, 1, 3, 4, 0, ()), (0, 0, 1, 6, 1, 4, 4, 0, ()), (1, 0, 2, 4, 1, 4, 4, 9, ()), (0, 2, 0, 4, 4, 9, 9, 0, ())]

theorem ex1 : settleS S3 [10, 0, 0] L3 3 = ([10, 0, 0], L3, 0, ()) := by decide +kernel

theorem ex2 : settleS S3 [10, 0, 0] L3 4 = ([0, 1, 9], L4, 0, ()) := by decide +kernel

theorem ex3 : settleS S3 [0, 1, 9] L4 9 = ([4, 1, 5], L5, 0, ()) := by decide +kernel

theorem ex4 : opN L3 3 3 = [0] := by decide +kernel

theorem ex5 : RightT S3 L4 := by decide +kernel

theorem few8 (S : List T36) (u : List Int) (l : List T45) : m9 S u l = some (decide (S.length ≤ 10 ∧ u.length ≤ 10 ∧ l.length ≤ 12)) := by
  unfold m9
  congr 1
  apply Bool.eq_iff_iff.2
  simp only [Bool.and_eq_true, decide_eq_true_eq]
  omega

theorem settle_len {now : Int} : ∀ (n : Nat) (u : List Int) (l : List T45), (settle now n u l).2.length ≤ l.length + n
  | 0, u, l => Nat.le_refl _
  | n + 1, u, l => by
    simp only [settle]
    split
    · simp
    · rename_i i _
      have := settle_len (now := now) n (stepU u (l.getD i (0, 0, 0, 0, 0, 0, 0, 0, ()))) (stepL now l i (l.getD i (0, 0, 0, 0, 0, 0, 0, 0, ())))
      have h2 : (stepL now l i (l.getD i (0, 0, 0, 0, 0, 0, 0, 0, ()))).length ≤ l.length + 1 := by
        unfold stepL
        rw [List.length_append, List.length_set]
        split <;> simp
      omega

theorem stepU_len (u : List Int) (t : T45) : (stepU u t).length = u.length := mvU_len _ _ _ _

theorem settle_len1 {now : Int} : ∀ (n : Nat) (u : List Int) (l : List T45), (settle now n u l).1.length = u.length
  | 0, u, l => rfl
  | n + 1, u, l => by
    simp only [settle]
    split
    · rfl
    · rename_i i _
      rw [settle_len1, stepU_len]

theorem settleS_len (S : List T36) (u : List Int) (l : List T45) (now : Int) : (settleS S u l now).1.length ≤ u.length ∧ (settleS S u l now).2.1.length ≤ 10000 := by
  unfold settleS
  split
  · split
    · rename_i h
      exact ⟨by rw [settle_len1]; exact Nat.le_refl _, h⟩
    · exact ⟨Nat.zero_le _, Nat.zero_le _⟩
  · exact ⟨Nat.zero_le _, Nat.zero_le _⟩

theorem addS_len (S : List T36) (l : List T45) (t : T45) : (addS S l t).1.length ≤ l.length + 1 := by
  unfold addS
  split
  · split <;> simp
  · simp

theorem fst1_spec {u : List Int} {now : Int} {l : List T45} : (fst1 u now l = none ∧ ∀ t ∈ l, ¬ Can u now t) ∨ ∃ i, ∃ hi : i < l.length, fst1 u now l = some i ∧ Can u now l[i] ∧ ∀ j (hj : j < i), ¬ Can u now (l[j]'(by omega)) := by
  cases h : fst1 u now l with
  | none =>
    unfold fst1 at h
    rw [List.findIdx?_eq_none_iff] at h
    exact .inl ⟨rfl, fun t ht => by simpa using h t ht⟩
  | some i =>
    unfold fst1 at h
    rw [List.findIdx?_eq_some_iff_getElem] at h
    obtain ⟨hi, h1, h2⟩ := h
    exact .inr ⟨i, hi, rfl, by simpa using h1, fun j hj => by simpa using h2 j hj⟩

theorem wt_pos {t : T45} (h : t.2.2.2.2.2.2.1 = -1) : 1 ≤ wt t := by
  unfold wt
  rw [if_pos h]
  split <;> omega

theorem wt_le_mu {l : List T45} {i : Nat} (hi : i < l.length) : wt l[i] ≤ mu l := by
  have := mu_set l i hi l[i]
  have h := mu_set l i hi (0, 0, 0, 0, 0, 0, 0, 0, ())
  have : wt (0, 0, 0, 0, 0, 0, 0, 0, ()) = 0 := rfl
  omega

/-- More rounds change nothing. -/
theorem settle_fix {now : Int} (hn : 0 ≤ now) : ∀ (n : Nat) (u : List Int) (l : List T45), mu l ≤ n → settle now n u l = settle now (mu l) u l
  | 0, u, l, h => by
    have : mu l = 0 := by omega
    rw [this]
  | n + 1, u, l, h => by
    rcases fst1_spec (u := u) (now := now) (l := l) with ⟨_, h2⟩ | ⟨i, hi, _, hc, hb⟩
    · rw [settle_none h2, settle_none h2]
    · have hm := mu_step (now := now) hi hc.1 hn
      rw [settle_some hi hc hb, settle_fix hn n _ _ (by omega), show mu l = mu (stepL now l i l[i]) + 1 by omega, settle_some hi hc hb]

theorem settleS_ok {S : List T36} {u : List Int} {l : List T45} {now : Int} (hr : RightT S l) (hv : Valid S u) (hn : Day now) (hl : (settle now (mu l) u l).2.length ≤ 10000) :
    settleS S u l now = ((settle now (mu l) u l).1, (settle now (mu l) u l).2, 0, ()) := by
  unfold settleS
  rw [if_pos ⟨hr, hv, hn⟩, if_pos hl]

theorem settle_st {S : List T36} {now : Int} (hn : Day now) : ∀ (n : Nat) (u : List Int) (l : List T45), St1 S u l → St1 S (settle now n u l).1 (settle now n u l).2
  | 0, u, l, h => h
  | n + 1, u, l, h => by
    rcases fst1_spec (u := u) (now := now) (l := l) with ⟨_, h2⟩ | ⟨i, hi, _, hc, hb⟩
    · rw [settle_none h2]; exact h
    · rw [settle_some hi hc hb]
      exact settle_st hn n _ _ (h.step hn hi hc)

theorem settle_two {now : Int} {u : List Int} {t : T45} (hc : Can u now t) (hk : t.1 = 1) (hn : 0 ≤ now) (hb : now < t.2.2.2.2.2.2.2.1) : settle now (mu [t]) u [t] = (stepU u t, [setD now t, backT now t]) := by
  have hm : mu [t] = 1 + 1 := by
    show wt t + 0 = 2
    unfold wt
    rw [if_pos hc.1, if_pos hk]
  have hl : stepL now [t] 0 t = [setD now t, backT now t] := by
    unfold stepL
    rw [if_pos hk]; rfl
  rw [hm, settle_some (l := [t]) (i := 0) (by simp) hc (fun j hj => by omega)]
  show settle now 1 (stepU u t) (stepL now [t] 0 t) = _
  rw [hl]
  refine settle_none (fun x hx => ?_) 1
  rcases List.mem_cons.1 hx with rfl | hx
  · intro h
    have := h.1
    simp only [setD] at this
    omega
  · rw [List.mem_singleton.1 hx]
    intro h
    have := h.2.1
    simp only [backT] at this
    omega

theorem settle_back {now : Int} {u : List Int} {a b : T45} (ha : a.2.2.2.2.2.2.1 ≠ -1) (hc : Can u now b) (hk : b.1 = 0) (hn : 0 ≤ now) : settle now (mu [a, b]) u [a, b] = (stepU u b, [a, setD now b]) := by
  have hm : mu [a, b] = 0 + 1 := by
    show wt a + (wt b + 0) = 1
    unfold wt
    rw [if_neg ha, if_pos hc.1, if_neg (by omega)]
  have hl : stepL now [a, b] 1 b = [a, setD now b] := by
    unfold stepL
    rw [if_neg (by omega)]; rfl
  rw [hm, settle_some (l := [a, b]) (i := 1) (by simp) hc (fun j hj => by
    have : j = 0 := by omega
    subst this
    exact fun h => ha h.1)]
  show settle now 0 (stepU u b) (stepL now [a, b] 1 b) = _
  rw [hl]
  rfl

theorem mv_back {u : List Int} {f t : Nat} {n : Int} (hf : f < u.length) (ht : t < u.length) : mvU (mvU u f t n) t f n = u := by
  have hl := mvU_len u f t n
  refine ext_gI (by rw [mvU_len, mvU_len]) fun i hi => ?_
  rw [mvU_get (by rw [hl]; exact ht) (by rw [hl]; exact hf), mvU_get hf ht]
  omega

theorem opN_none {l : List T45} {d : Int} (h : ∀ (i : Nat) (hi : i < l.length), ¬ (l[i].2.2.2.2.2.2.1 = -1 ∧ l[i].2.2.2.2.2.1 ≤ d)) : ∀ j, opN l d j = []
  | 0 => rfl
  | j + 1 => by
    by_cases hj : j < l.length
    · rw [op_round hj, if_neg (h j hj), opN_none h j]
    · simp only [opN, List.getElem?_eq_none (show l.length ≤ j by omega), opN_none h j]
      rfl

end Go.Proofs.Ytjoehgmdkeigiaa
