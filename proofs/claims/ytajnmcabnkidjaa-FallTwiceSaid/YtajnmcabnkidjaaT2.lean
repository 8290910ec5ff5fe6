/- Fall: right deals, tests. -/
import Derived.Test.YtajnmcabnkidjaaM
namespace Go.Proofs.Ytajnmcabnkidjaa
open Go Go.Eng
set_option linter.unusedVariables false
set_option linter.unusedSimpArgs false

/-- A loop that asks something of each element. -/
theorem all_loop {α R : Type} (xs : List α) (p : α → Bool) (f : Nat → Int → Option R) (k1 k2 : Option R) (hL : xs.length ≤ 1000000)
    (hs : ∀ (n j : Nat) (hj : j < xs.length), f (n + 1) (j : Int) = bif p xs[j] then f n ((j : Int) + 1) else k2) (he : ∀ n, f (n + 1) (xs.length : Int) = k1) :
    f FUEL 0 = if ∀ x ∈ xs, p x = true then k1 else k2 := by
  have key : ∀ (m n j : Nat), j + m = xs.length → m < n → (∀ x ∈ xs.take j, p x = true) → f n (j : Int) = if ∀ x ∈ xs, p x = true then k1 else k2 := by
    intro m
    induction m with
    | zero =>
      intro n j hj hn hb
      obtain ⟨n, rfl⟩ : ∃ m, n = m + 1 := ⟨n - 1, by omega⟩
      have : j = xs.length := by omega
      subst this
      rw [he, if_pos]
      rwa [List.take_of_length_le (Nat.le_refl _)] at hb
    | succ m ih =>
      intro n j hj hn hb
      obtain ⟨n, rfl⟩ : ∃ m, n = m + 1 := ⟨n - 1, by omega⟩
      have hlt : j < xs.length := by omega
      rw [hs n j hlt]
      cases hp : p xs[j] with
      | true =>
        refine ih n (j + 1) (by omega) (by omega) ?_
        rw [List.take_succ_eq_append_getElem hlt]
        intro x hx
        rcases List.mem_append.1 hx with q | q
        · exact hb x q
        · rw [List.mem_singleton.1 q]; exact hp
      | false =>
        rw [if_neg]
        · rfl
        · intro h
          rw [h _ (List.getElem_mem hlt)] at hp; cases hp
  exact key xs.length FUEL 0 (by omega) (fuel_lt (by omega)) (by simp)

/-- A loop that carries a state over the elements. -/
theorem fold_loop {α R S : Type} (xs : List α) (g : S → α → S) (I : Nat → S → Prop) (f : Nat → Int → S → Option R) (k : S → Option R) (hL : xs.length ≤ 1000000)
    (hs : ∀ (n j : Nat) (s : S) (hj : j < xs.length), I j s → f (n + 1) (j : Int) s = f n ((j : Int) + 1) (g s xs[j]) ∧ I (j + 1) (g s xs[j])) (he : ∀ n s, I xs.length s → f (n + 1) (xs.length : Int) s = k s) :
    ∀ s, I 0 s → f FUEL 0 s = k (xs.foldl g s) ∧ I xs.length (xs.foldl g s) := by
  have key : ∀ (m n j : Nat) (s : S), j + m = xs.length → m < n → I j s → f n (j : Int) s = k ((xs.drop j).foldl g s) ∧ I xs.length ((xs.drop j).foldl g s) := by
    intro m
    induction m with
    | zero =>
      intro n j s hj hn hI
      obtain ⟨n, rfl⟩ : ∃ m, n = m + 1 := ⟨n - 1, by omega⟩
      have : j = xs.length := by omega
      subst this
      rw [he n s hI, List.drop_length]
      exact ⟨rfl, hI⟩
    | succ m ih =>
      intro n j s hj hn hI
      obtain ⟨n, rfl⟩ : ∃ m, n = m + 1 := ⟨n - 1, by omega⟩
      have hlt : j < xs.length := by omega
      obtain ⟨h1, h2⟩ := hs n j s hlt hI
      rw [h1, List.drop_eq_getElem_cons hlt, List.foldl_cons]
      exact ih n (j + 1) _ (by omega) (by omega) h2
  intro s hI
  have := key xs.length FUEL 0 s (by omega) (fuel_lt (by omega)) hI
  simpa using this

/-- An amount of money. -/
def Mny (n : Int) : Prop := 0 ≤ n ∧ n ≤ 1000000000000000
instance (n : Int) : Decidable (Mny n) := by unfold Mny; infer_instance

theorem m19_eq (n : Int) : m19 n = some (decide (Mny n)) := by
  unfold m19 Mny
  rw [← Bool.decide_and]

theorem m16_eq (n : Int) : m16 n = some (decide (Mny n)) := by
  unfold m16 Mny
  rw [← Bool.decide_and]

def OkTr (t : T38) : Prop := Mny t.1 ∧ Mny t.2.1
instance (t : T38) : Decidable (OkTr t) := by unfold OkTr; infer_instance
def OkTe (nt : Nat) (t : T38) : Prop := 1 ≤ t.1 ∧ t.1 ≤ nt ∧ 0 ≤ t.2.1 ∧ t.2.1 ≤ 2000
instance (nt : Nat) (t : T38) : Decidable (OkTe nt t) := by unfold OkTe; infer_instance
def OkSt (nt ne : Nat) (s : T41) : Prop := ((s.1 = 0 ∨ s.1 = 1) ∧ 0 ≤ s.2.1 ∧ s.2.1 < nt ∧ s.2.2.1 = 0) ∨ (s.1 = 2 ∧ s.2.1 = 0 ∧ Mny s.2.2.1) ∨ (s.1 = 3 ∧ 0 ≤ s.2.1 ∧ s.2.1 < ne ∧ s.2.2.1 = 0) ∨ (s.1 = 4 ∧ s.2.1 = 0 ∧ s.2.2.1 = 0)
instance (nt ne : Nat) (s : T41) : Decidable (OkSt nt ne s) := by unfold OkSt; infer_instance

/-- A right deal. -/
def RightD (d : T25) : Prop := (Mny d.1 ∧ Mny d.2.1 ∧ Mny d.2.2.1 ∧ Mny d.2.2.2.1) ∧ (d.2.2.2.2.1.length ≤ 40 ∧ d.2.2.2.2.2.1.length ≤ 40 ∧ d.2.2.2.2.2.2.1.length ≤ 40) ∧
  (∀ t ∈ d.2.2.2.2.1, OkTr t) ∧ (∀ t ∈ d.2.2.2.2.2.1, OkTe d.2.2.2.2.1.length t) ∧ (∀ s ∈ d.2.2.2.2.2.2.1, OkSt d.2.2.2.2.1.length d.2.2.2.2.2.1.length s)
instance (d : T25) : Decidable (RightD d) := by unfold RightD; infer_instance

theorem m31_eq (d : T25) (s : T41) : m31 d s = some (decide (OkSt d.2.2.2.2.1.length d.2.2.2.2.2.1.length s)) := by
  obtain ⟨k, n, a, _⟩ := s
  unfold m31
  simp only [cont, m19_eq]
  by_cases h0 : k = 0
  · subst h0
    simp only [beq_self_eq_true, cond_true]
    congr 1
    rw [Bool.eq_iff_iff]
    simp [OkSt]
    omega
  · rw [beq_eq_false_iff_ne.2 h0]
    simp only [cond_false]
    by_cases h1 : k = 1
    · subst h1
      simp only [beq_self_eq_true, cond_true]
      congr 1
      rw [Bool.eq_iff_iff]
      simp [OkSt]
      omega
    · rw [beq_eq_false_iff_ne.2 h1]
      simp only [cond_false]
      by_cases h2 : k = 2
      · subst h2
        simp only [beq_self_eq_true, cond_true]
        by_cases hn : n = 0
        · subst hn; simp [OkSt]
        · rw [beq_eq_false_iff_ne.2 hn]; simp [OkSt, hn]
      · rw [beq_eq_false_iff_ne.2 h2]
        simp only [cond_false]
        by_cases h3 : k = 3
        · subst h3
          simp only [beq_self_eq_true, cond_true]
          congr 1
          rw [Bool.eq_iff_iff]
          simp [OkSt]
          omega
        · rw [beq_eq_false_iff_ne.2 h3]
          simp only [cond_false]
          by_cases h4 : k = 4
          · subst h4
            simp only [beq_self_eq_true, cond_true]
            congr 1
            rw [Bool.eq_iff_iff]
            simp [OkSt]
          · rw [beq_eq_false_iff_ne.2 h4]
            simp [OkSt, h0, h1, h2, h3, h4]

theorem ig38 {l : List T38} {j : Nat} (h : j < l.length) (g : Bool) : idxG g (0, 0, ()) l (j : Int) = some (bif g then l[j] else (0, 0, ())) := by
  unfold idxG
  rw [idx_nat, List.getElem?_eq_getElem h]
  cases g <;> rfl

theorem ix {α : Type} {l : List α} {j : Nat} (h : j < l.length) : idx l (j : Int) = some l[j] := by
  rw [idx_nat, List.getElem?_eq_getElem h]

theorem lt1 {a b : Nat} (h : a < b) : decide ((a : Int) < (b : Int)) = true := decide_eq_true (by omega)
theorem lt0 (a : Nat) : decide ((a : Int) < (a : Int)) = false := decide_eq_false (by omega)

theorem l12_1_eq {R : Type} (l : List T38) (hL : l.length ≤ 1000000) (k1 k2 : Option R) : l12_1 l (l.length : Int) k1 k2 FUEL 0 = if ∀ t ∈ l, decide (OkTr t) = true then k1 else k2 := by
  refine all_loop l (fun t => decide (OkTr t)) (fun n j => l12_1 l (l.length : Int) k1 k2 n j) k1 k2 hL (fun n j hj => ?_) (fun n => ?_)
  · show s12_1 l _ _ k1 k2 _ = _
    unfold s12_1
    rw [bifT (lt1 hj), ix hj, wrapI (x := (j : Int) + 1) (by omega) (by omega)]
    simp only [Option.bind_some, m19_eq]
    unfold OkTr
    by_cases h1 : Mny l[j].1
    · by_cases h2 : Mny l[j].2.1
      · simp [h1, h2]
      · simp [h1, h2]
    · simp [h1]
  · show s12_1 l _ _ k1 k2 _ = _
    unfold s12_1
    rw [bifF (lt0 _)]

theorem l12_2_eq {R : Type} (d : T25) (l : List T38) (hL : l.length ≤ 1000000) (k1 k2 : Option R) : l12_2 l (l.length : Int) d k1 k2 FUEL 0 = if ∀ t ∈ l, decide (OkTe d.2.2.2.2.1.length t) = true then k1 else k2 := by
  refine all_loop l (fun t => decide (OkTe d.2.2.2.2.1.length t)) (fun n j => l12_2 l (l.length : Int) d k1 k2 n j) k1 k2 hL (fun n j hj => ?_) (fun n => ?_)
  · show s12_2 l _ d _ k1 k2 _ = _
    unfold s12_2
    rw [bifT (lt1 hj), ix hj, wrapI (x := (j : Int) + 1) (by omega) (by omega)]
    simp only [Option.bind_some]
    have : ((((decide (l[j].1 < 1)) || (decide (l[j].1 > (List.length d.2.2.2.2.1 : Int)))) || (decide (l[j].2.1 < 0))) || (decide (l[j].2.1 > 2000))) = !decide (OkTe d.2.2.2.2.1.length l[j]) := by
      by_cases h : OkTe d.2.2.2.2.1.length l[j]
      · rw [decide_eq_true h]
        obtain ⟨a, b, c, e⟩ := h
        rw [decide_eq_false (show ¬ l[j].1 < 1 by omega), decide_eq_false (show ¬ l[j].1 > (List.length d.2.2.2.2.1 : Int) by omega), decide_eq_false (show ¬ l[j].2.1 < 0 by omega), decide_eq_false (show ¬ l[j].2.1 > 2000 by omega)]
        rfl
      · rw [decide_eq_false h]
        unfold OkTe at h
        simp only [Bool.not_false, Bool.or_eq_true, decide_eq_true_eq]
        omega
    rw [this]
    cases decide (OkTe d.2.2.2.2.1.length l[j]) <;> rfl
  · show s12_2 l _ d _ k1 k2 _ = _
    unfold s12_2
    rw [bifF (lt0 _)]

theorem l12_3_eq {R : Type} (d : T25) (l : List T41) (hL : l.length ≤ 1000000) (k1 : Option R) (k2 : Int → Option R) (k3 : Option R) (h2 : ∀ i : Nat, k2 i = k3) : l12_3 l (l.length : Int) d k1 k2 FUEL 0 = if ∀ t ∈ l, decide (OkSt d.2.2.2.2.1.length d.2.2.2.2.2.1.length t) = true then k1 else k3 := by
  refine all_loop l (fun t => decide (OkSt d.2.2.2.2.1.length d.2.2.2.2.2.1.length t)) (fun n j => l12_3 l (l.length : Int) d k1 k2 n j) k1 k3 hL (fun n j hj => ?_) (fun n => ?_)
  · show s12_3 l _ d _ k1 k2 _ = _
    unfold s12_3
    rw [bifT (lt1 hj), ix hj, wrapI (x := (j : Int) + 1) (by omega) (by omega)]
    simp only [Option.bind_some, m31_eq]
    cases decide (OkSt d.2.2.2.2.1.length d.2.2.2.2.2.1.length l[j]) with
    | true => rfl
    | false => exact h2 j
  · show s12_3 l _ d _ k1 k2 _ = _
    unfold s12_3
    rw [bifF (lt0 _)]

theorem mnys (a b c e : Int) (f : Bool → Bool → Bool → Bool → Option Bool) :
    ((some (decide (Mny a))).bind fun r1 => (bif ((!r1) == false) then some (decide (Mny b)) else some false).bind fun r2 => (bif (((!r1) || (!r2)) == false) then some (decide (Mny c)) else some false).bind fun r3 =>
      (bif ((((!r1) || (!r2)) || (!r3)) == false) then some (decide (Mny e)) else some false).bind fun r4 => f r1 r2 r3 r4) =
    f (decide (Mny a)) (decide (Mny a) && decide (Mny b)) (decide (Mny a) && decide (Mny b) && decide (Mny c)) (decide (Mny a) && decide (Mny b) && decide (Mny c) && decide (Mny e)) := by
  cases decide (Mny a) <;> cases decide (Mny b) <;> cases decide (Mny c) <;> rfl

theorem m12_eq (d : T25) : m12 d = some (decide (RightD d)) := by
  unfold m12
  simp only [m19_eq]
  rw [mnys]
  by_cases h1 : (Mny d.1 ∧ Mny d.2.1 ∧ Mny d.2.2.1 ∧ Mny d.2.2.2.1) ∧ (d.2.2.2.2.1.length ≤ 40 ∧ d.2.2.2.2.2.1.length ≤ 40 ∧ d.2.2.2.2.2.2.1.length ≤ 40)
  · obtain ⟨⟨a, b, c, e⟩, f, g, h⟩ := h1
    rw [bifF (by simp [a, b, c, e]; omega), l12_1_eq _ (by omega), l12_2_eq _ _ (by omega), l12_3_eq d _ (by omega) (some true) _ (some false) (fun i => by simp)]
    by_cases p1 : ∀ t ∈ d.2.2.2.2.1, OkTr t
    · rw [if_pos (fun t ht => decide_eq_true (p1 t ht))]
      by_cases p2 : ∀ t ∈ d.2.2.2.2.2.1, OkTe d.2.2.2.2.1.length t
      · rw [if_pos (fun t ht => decide_eq_true (p2 t ht))]
        by_cases p3 : ∀ s ∈ d.2.2.2.2.2.2.1, OkSt d.2.2.2.2.1.length d.2.2.2.2.2.1.length s
        · rw [if_pos (fun t ht => decide_eq_true (p3 t ht)), decide_eq_true (show RightD d from ⟨⟨a, b, c, e⟩, ⟨f, g, h⟩, p1, p2, p3⟩)]
        · rw [if_neg (fun q => p3 (fun t ht => of_decide_eq_true (q t ht))), decide_eq_false (fun q : RightD d => p3 q.2.2.2.2)]
      · rw [if_neg (fun q => p2 (fun t ht => of_decide_eq_true (q t ht))), decide_eq_false (fun q : RightD d => p2 q.2.2.2.1)]
    · rw [if_neg (fun q => p1 (fun t ht => of_decide_eq_true (q t ht))), decide_eq_false (fun q : RightD d => p1 q.2.2.1)]
  · rw [decide_eq_false (fun q : RightD d => h1 ⟨q.1, q.2.1⟩), bifT]
    by_cases a : Mny d.1 <;> by_cases b : Mny d.2.1 <;> by_cases c : Mny d.2.2.1 <;> by_cases e : Mny d.2.2.2.1 <;> simp [a, b, c, e]
    have : ¬ (d.2.2.2.2.1.length ≤ 40 ∧ d.2.2.2.2.2.1.length ≤ 40 ∧ d.2.2.2.2.2.2.1.length ≤ 40) := fun q => h1 ⟨⟨a, b, c, e⟩, q⟩
    omega

end Go.Proofs.Ytajnmcabnkidjaa
