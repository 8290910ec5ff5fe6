/- Offer: loops; what is right. -/
import Derived.Test.YtidlfemliaepjaaM
namespace Go.Proofs.Ytidlfemliaepjaa
open Go Go.Eng
set_option linter.unusedVariables false
set_option linter.unusedSimpArgs false

/-- A loop that passes a list's places with a state. -/
theorem seq_loop {R S : Type} (n : Nat) (F : Nat → S) (f : Nat → Int → S → Option R) (k : S → Option R) (hn : n ≤ 1000000)
    (hs : ∀ m j, j < n → f (m + 1) (j : Int) (F j) = f m ((j : Int) + 1) (F (j + 1))) (he : ∀ m, f (m + 1) (n : Int) (F n) = k (F n)) :
    f FUEL 0 (F 0) = k (F n) := by
  have key : ∀ (i m j : Nat), j + i = n → i < m → f m (j : Int) (F j) = k (F n) := by
    intro i
    induction i with
    | zero =>
      intro m j hj hm
      obtain ⟨m, rfl⟩ : ∃ a, m = a + 1 := ⟨m - 1, by omega⟩
      have : j = n := by omega
      subst this
      exact he m
    | succ i ih =>
      intro m j hj hm
      obtain ⟨m, rfl⟩ : ∃ a, m = a + 1 := ⟨m - 1, by omega⟩
      rw [hs m j (by omega)]
      exact ih m (j + 1) (by omega) (by omega)
  exact key n FUEL 0 (by omega) (fuel_lt (by omega))

/-- A loop that checks something of each place, with a state. -/
theorem chk_loop {R S : Type} (n : Nat) (F : Nat → S) (p : Nat → Bool) (f : Nat → Int → S → Option R) (k1 k2 : Option R) (hn : n ≤ 1000000)
    (hs : ∀ m j, j < n → (∀ i, i < j → p i = true) → f (m + 1) (j : Int) (F j) = bif p j then f m ((j : Int) + 1) (F (j + 1)) else k2) (he : (∀ i, i < n → p i = true) → ∀ m, f (m + 1) (n : Int) (F n) = k1) :
    f FUEL 0 (F 0) = if ∀ i, i < n → p i = true then k1 else k2 := by
  have key : ∀ (i m j : Nat), j + i = n → i < m → (∀ i, i < j → p i = true) → f m (j : Int) (F j) = if ∀ i, i < n → p i = true then k1 else k2 := by
    intro i
    induction i with
    | zero =>
      intro m j hj hm hb
      obtain ⟨m, rfl⟩ : ∃ a, m = a + 1 := ⟨m - 1, by omega⟩
      have : j = n := by omega
      subst this
      rw [he hb m, if_pos hb]
    | succ i ih =>
      intro m j hj hm hb
      obtain ⟨m, rfl⟩ : ∃ a, m = a + 1 := ⟨m - 1, by omega⟩
      rw [hs m j (by omega) hb]
      cases hp : p j with
      | true =>
        refine ih m (j + 1) (by omega) (by omega) (fun i hi => ?_)
        by_cases e : i = j
        · subst e; exact hp
        · exact hb i (by omega)
      | false =>
        rw [if_neg]
        · rfl
        · intro h
          rw [h j (by omega)] at hp; cases hp
  exact key n FUEL 0 (by omega) (fuel_lt (by omega)) (fun i hi => absurd hi (Nat.not_lt_zero i))

theorem lt1 {a b : Nat} (h : a < b) : decide ((a : Int) < (b : Int)) = true := decide_eq_true (by omega)
theorem lt0 (a : Nat) : decide ((a : Int) < (a : Int)) = false := decide_eq_false (by omega)
theorem rng {a b : Nat} (h : a < b) : (decide (0 ≤ (a : Int)) && decide ((a : Int) < (b : Int))) = true := by simp; omega

theorem gix {l : List Int} {j : Nat} (h : j < l.length) : idx l (j : Int) = some (gI l j) := by rw [idx_nat, gI_get h]

def gT (l : List T38) (i : Nat) : T38 := l.getD i (0, 0, 0, ())
theorem gT_get {l : List T38} {i : Nat} (h : i < l.length) : l[i]? = some (gT l i) := by
  unfold gT
  rw [List.getD_eq_getElem?_getD, List.getElem?_eq_getElem h]
  rfl
theorem gTx {l : List T38} {j : Nat} (h : j < l.length) : idx l (j : Int) = some (gT l j) := by rw [idx_nat, gT_get h]
theorem gTg {l : List T38} {j : Nat} (h : j < l.length) (g : Bool) : idxG g (0, 0, 0, ()) l (j : Int) = some (bif g then gT l j else (0, 0, 0, ())) := by
  unfold idxG
  rw [gTx h]
  cases g <;> rfl

/-- From a to b. -/
def In (a b x : Int) : Prop := a ≤ x ∧ x ≤ b
instance (a b x : Int) : Decidable (In a b x) := by unfold In; infer_instance

theorem m28_eq (a b : Int) (l : List Int) (hl : l.length ≤ 1000000) : m28 a b l = some (decide (∀ i, i < l.length → decide (In a b (gI l i)) = true)) := by
  unfold m28
  refine Eq.trans (chk_loop l.length (fun _ => ()) (fun i => decide (In a b (gI l i))) (fun n j (_ : Unit) => l28_1 l (l.length : Int) a b (some true) (fun y2 => some (!(decide (y2 ≥ 0)))) n j) (some true) (some false) hl (fun m j hj _ => ?_) (fun _ m => ?_)) ?_
  · show s28_1 _ _ _ _ _ _ _ _ = _
    unfold s28_1
    rw [bifT (lt1 hj), gix hj, wrapI (x := (j : Int) + 1) (by omega) (by omega)]
    simp only [Option.bind_some]
    by_cases h : In a b (gI l j)
    · rw [decide_eq_true h]
      unfold In at h
      rw [bifF (by simp; omega)]
      rfl
    · rw [decide_eq_false h]
      unfold In at h
      rw [bifT (by simp; omega)]
      simp
  · show s28_1 _ _ _ _ _ _ _ _ = _
    unfold s28_1
    rw [bifF (lt0 _)]
  · by_cases h : ∀ i, i < l.length → decide (In a b (gI l i)) = true
    · rw [if_pos h, decide_eq_true h]
    · rw [if_neg h, decide_eq_false h]

theorem in1 (a b x : Int) : m28 a b [x] = some (decide (In a b x)) := by
  rw [m28_eq a b [x] (by simp)]
  congr 1
  rw [Bool.eq_iff_iff, decide_eq_true_eq, decide_eq_true_eq]
  constructor
  · intro h
    exact of_decide_eq_true (h 0 (by simp))
  · intro h i hi
    have : i = 0 := by simpa using hi
    subst this
    exact decide_eq_true h

theorem in2 (a b x y : Int) : m28 a b [x, y] = some (decide (In a b x ∧ In a b y)) := by
  rw [m28_eq a b [x, y] (by simp)]
  congr 1
  rw [Bool.eq_iff_iff, decide_eq_true_eq, decide_eq_true_eq]
  constructor
  · intro h
    exact ⟨of_decide_eq_true (h 0 (by simp)), of_decide_eq_true (h 1 (by simp))⟩
  · rintro ⟨h, h'⟩ i hi
    have : i = 0 ∨ i = 1 := by simp at hi; omega
    rcases this with rfl | rfl
    · exact decide_eq_true h
    · exact decide_eq_true h'

theorem in0 (a b : Int) : m28 a b [] = some true := by
  rw [m28_eq a b [] (by simp)]
  congr 1

theorem m35_eq (x a b : Int) : m35 x a b = some (decide (In a b x)) := by
  unfold m35
  congr 1
  rw [Bool.eq_iff_iff, decide_eq_true_eq]
  unfold In
  simp
theorem m36_eq (x : Int) : m36 x = some (decide (In 0 200000 x)) := by
  unfold m36
  rw [m35_eq]
  rfl

/-! What is right. -/

def OkO (o : T22) : Prop := ((In 0 399 o.1 ∧ In 0 399 o.2.1) ∧ (In 0 200000 o.2.2.1 ∧ In 0 200000 o.2.2.2.1) ∧ o.2.2.1 ≤ o.2.2.2.1) ∧ (In 0 10000 o.2.2.2.2.1 ∧ In 0 10000 o.2.2.2.2.2.1) ∧ (In 0 1000000000 o.2.2.2.2.2.2.1 ∧ In 0 1000000000 o.2.2.2.2.2.2.2.1) ∧ o.2.2.2.2.2.2.1 ≤ o.2.2.2.2.2.2.2.1
instance (o : T22) : Decidable (OkO o) := by unfold OkO; infer_instance

def okU (u : List Int) (i : Nat) : Bool := decide (In 0 (1000000000 - sumN (gI u) i) (gI u i))
def OkU (u : List Int) : Prop := ∀ i, i < u.length → okU u i = true
instance (u : List Int) : Decidable (OkU u) := by unfold OkU; infer_instance

def okT (n : Nat) (t : T38) : Bool := decide (In 0 ((n : Int) - 1) t.1 ∧ In 1 1000000000 t.2.1 ∧ In 0 200000 t.2.2.1)
def OkT (n : Nat) (l : List T38) : Prop := ∀ i, i < l.length → okT n (gT l i) = true
instance (n : Nat) (l : List T38) : Decidable (OkT n l) := by unfold OkT; infer_instance

def Ok (o : T22) (l : List T38) (u : List Int) : Prop := OkO o ∧ OkU u ∧ OkT u.length l
instance (o : T22) (l : List T38) (u : List Int) : Decidable (Ok o l u) := by unfold Ok; infer_instance

theorem okU_sum {u : List Int} : ∀ {j : Nat}, (∀ i, i < j → okU u i = true) → 0 ≤ sumN (gI u) j ∧ sumN (gI u) j ≤ 1000000000
  | 0, _ => by simp [sumN]
  | j + 1, h => by
    have h1 := okU_sum (u := u) (j := j) (fun i hi => h i (by omega))
    have h2 := of_decide_eq_true (h j (by omega))
    unfold In at h2
    simp only [sumN]
    omega

theorem l19_1_eq {R : Type} (u : List Int) (hu : u.length ≤ 10000) (k1 k2 : Option R) : l19_1 u (u.length : Int) k1 k2 FUEL 0 0 = if OkU u then k1 else k2 := by
  refine chk_loop u.length (sumN (gI u)) (okU u) (fun n j s => l19_1 u (u.length : Int) k1 k2 n s j) k1 k2 (by omega) (fun m j hj hb => ?_) (fun _ m => ?_)
  · have hs := okU_sum hb
    show s19_1 _ _ _ _ _ _ _ = _
    unfold s19_1
    rw [bifT (lt1 hj), gix hj, wrapI (x := (j : Int) + 1) (by omega) (by omega)]
    simp only [Option.bind_some]
    rw [wrapI (x := 1000000000 - _) (by omega) (by omega), in1]
    simp only [Option.bind_some]
    show _ = bif decide (In 0 (1000000000 - sumN (gI u) j) (gI u j)) then _ else _
    by_cases h : In 0 (1000000000 - sumN (gI u) j) (gI u j)
    · rw [decide_eq_true h]
      unfold In at h
      rw [wrapI (x := _ + gI u j) (by omega) (by omega)]
      rfl
    · rw [decide_eq_false h]; rfl
  · show s19_1 _ _ _ _ _ _ _ = _
    unfold s19_1
    rw [bifF (lt0 _)]

theorem l19_2_eq {R : Type} (l : List T38) (u : List Int) (hl : l.length ≤ 10000) (hu : u.length ≤ 10000) (k1 k3 : Option R) (k2 : Int → Option R) (hk : ∀ i : Nat, k2 i = k3) : l19_2 l (l.length : Int) u k1 k2 FUEL 0 = if OkT u.length l then k1 else k3 := by
  refine chk_loop l.length (fun _ => ()) (fun i => okT u.length (gT l i)) (fun n j (_ : Unit) => l19_2 l (l.length : Int) u k1 k2 n j) k1 k3 (by omega) (fun m j hj _ => ?_) (fun _ m => ?_)
  · show s19_2 _ _ _ _ _ _ _ = _
    unfold s19_2
    rw [bifT (lt1 hj), gTx hj, wrapI (x := (j : Int) + 1) (by omega) (by omega), wrapI (x := (u.length : Int) - 1) (by omega) (by omega)]
    simp only [Option.bind_some, in1, in0, hk]
    unfold okT
    generalize gT l j = t
    by_cases c1 : In 0 ((u.length : Int) - 1) t.1 <;> by_cases c2 : In 1 1000000000 t.2.1 <;> by_cases c3 : In 0 200000 t.2.2.1 <;> simp [c1, c2, c3]
  · show s19_2 _ _ _ _ _ _ _ = _
    unfold s19_2
    rw [bifF (lt0 _)]

theorem m19_eq (o : T22) (l : List T38) (u : List Int) (hl : l.length ≤ 1000) (hu : u.length ≤ 1000) : m19 o l u = some (decide (Ok o l u)) := by
  unfold m19
  simp only [in2, in0, l19_1_eq u (by omega), l19_2_eq l u (by omega) (by omega) (some true) (some false) (fun y => some (!(decide (y ≥ 0)))) (fun i => by simp)]
  have q : (if OkU u then (if OkT u.length l then some true else some false) else some false) = some (decide (OkU u ∧ OkT u.length l)) := by
    by_cases a : OkU u <;> by_cases b : OkT u.length l <;> simp [a, b]
  simp only [q]
  have e1 : decide ((u.length : Int) > 20000) = false := decide_eq_false (by omega)
  have e2 : decide ((l.length : Int) > 2000) = false := decide_eq_false (by omega)
  simp only [Option.bind_some, e1, e2, Bool.or_false]
  unfold Ok OkO
  by_cases c1 : In 0 399 o.1 ∧ In 0 399 o.2.1 <;> by_cases c2 : In 0 200000 o.2.2.1 ∧ In 0 200000 o.2.2.2.1 <;> by_cases c3 : o.2.2.1 ≤ o.2.2.2.1 <;> by_cases c4 : In 0 10000 o.2.2.2.2.1 ∧ In 0 10000 o.2.2.2.2.2.1 <;>
    by_cases c5 : In 0 1000000000 o.2.2.2.2.2.2.1 ∧ In 0 1000000000 o.2.2.2.2.2.2.2.1 <;> by_cases c6 : o.2.2.2.2.2.2.1 ≤ o.2.2.2.2.2.2.2.1 <;> simp [c1, c2, c3, c4, c5, c6, Int.not_lt, Int.not_le.symm]

theorem m22_eq (o : T22) : m22 o = some (decide (OkO o)) := by
  unfold m22
  simp only [m35_eq, m36_eq, Option.bind_some]
  unfold OkO
  by_cases c1 : In 0 399 o.1 <;> by_cases c1' : In 0 399 o.2.1 <;> by_cases c2 : In 0 200000 o.2.2.1 <;> by_cases c2' : In 0 200000 o.2.2.2.1 <;> by_cases c3 : o.2.2.1 ≤ o.2.2.2.1 <;> by_cases c4 : In 0 10000 o.2.2.2.2.1 <;> by_cases c4' : In 0 10000 o.2.2.2.2.2.1 <;> simp [c1, c1', c2, c2', c3, c4, c4']
  rw [Bool.eq_iff_iff]
  simp only [Bool.and_eq_true, decide_eq_true_eq]
  unfold In
  omega

theorem l23_1_eq {R : Type} (u : List Int) (hu : u.length ≤ 10000) (k1 k2 : Option R) : l23_1 u k1 k2 FUEL 0 0 = if OkU u then k1 else k2 := by
  refine chk_loop u.length (sumN (gI u)) (okU u) (fun n j s => l23_1 u k1 k2 n s j) k1 k2 (by omega) (fun m j hj hb => ?_) (fun _ m => ?_)
  · have hs := okU_sum hb
    show s23_1 _ _ _ _ _ _ = _
    unfold s23_1
    rw [bifT (by rw [lt1 hj]; simp; omega), gix hj, wrapI (x := (j : Int) + 1) (by omega) (by omega)]
    simp only [Option.bind_some]
    rw [wrapI (x := 1000000000 - _) (by omega) (by omega), m35_eq]
    simp only [Option.bind_some]
    show _ = bif decide (In 0 (1000000000 - sumN (gI u) j) (gI u j)) then _ else _
    by_cases h : In 0 (1000000000 - sumN (gI u) j) (gI u j)
    · rw [decide_eq_true h]
      unfold In at h
      rw [wrapI (x := _ + gI u j) (by omega) (by omega)]
      rfl
    · rw [decide_eq_false h]; rfl
  · show s23_1 _ _ _ _ _ _ = _
    unfold s23_1
    rw [bifF (by rw [lt0]; rfl)]

theorem m23_eq (u : List Int) (hu : u.length ≤ 1000) : m23 u = some (decide (OkU u)) := by
  unfold m23
  rw [l23_1_eq u (by omega), decide_eq_true (show (u.length : Int) ≤ 20000 by omega)]
  by_cases a : OkU u <;> simp [a]

theorem m24_eq (l : List T38) (n : Nat) (hl : l.length ≤ 1000) (hn : n ≤ 1000) : m24 l (n : Int) = some (decide (OkT n l)) := by
  unfold m24
  rw [bifF (decide_eq_false (by omega))]
  refine Eq.trans (chk_loop l.length (fun _ => ()) (fun i => okT n (gT l i)) (fun m j (_ : Unit) => l24_1 l (n : Int) (some true) (some false) m j) (some true) (some false) (by omega) (fun m j hj _ => ?_) (fun _ m => ?_)) ?_
  · show s24_1 _ _ _ _ _ _ = _
    unfold s24_1
    rw [bifT (lt1 hj), gTx hj, wrapI (x := (j : Int) + 1) (by omega) (by omega), wrapI (x := (n : Int) - 1) (by omega) (by omega)]
    simp only [Option.bind_some, m35_eq, m36_eq, gTg hj]
    unfold okT
    generalize gT l j = t
    by_cases c1 : In 0 ((n : Int) - 1) t.1 <;> by_cases c2 : In 1 1000000000 t.2.1 <;> by_cases c3 : In 0 200000 t.2.2.1 <;> simp [c1, c2, c3]
  · show s24_1 _ _ _ _ _ _ = _
    unfold s24_1
    rw [bifF (lt0 _)]
  · show (if OkT n l then _ else _) = _
    by_cases a : OkT n l <;> simp [a]

end Go.Proofs.Ytidlfemliaepjaa
