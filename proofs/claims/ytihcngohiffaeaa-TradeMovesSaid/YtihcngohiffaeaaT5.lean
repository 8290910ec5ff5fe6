/- TradeTells: the plain law. -/
import Derived.Test.YtihcngohiffaeaaT4
namespace Go.Proofs.Ytihcngohiffaeaa
open Go Go.Eng
set_option linter.unusedVariables false
set_option linter.unusedSimpArgs false

instance dec4 : DecidableEq (Int × Int × Int × Int × Unit) := inferInstance
instance decT : DecidableEq T25 := @instDecidableEqProd _ _ _ (@instDecidableEqProd _ _ _ (@instDecidableEqProd _ _ _ (@instDecidableEqProd _ _ _ dec4)))

/-- What settles on a day, with the checks. -/
def settleS (S : List T60) (u : List Int) (l : List T25) (now : Int) : List Int × List T25 × Int × Unit :=
  if RightT S l ∧ Valid S u ∧ Day now then
    (if (settle now (mu l) u l).2.length ≤ 10000 then ((settle now (mu l) u l).1, (settle now (mu l) u l).2, 0, ()) else ([], [], 6, ()))
  else ([], [], 1, ())

theorem endS (r : List Int × List T25) : (bif (decide ((List.length r.2 : Int) > 10000)) then some (([], [], 6, ()) : List Int × List T25 × Int × Unit) else some (r.1, r.2, 0, ())) =
    some (if r.2.length ≤ 10000 then (r.1, r.2, 0, ()) else ([], [], 6, ())) := by
  by_cases h : r.2.length ≤ 10000
  · rw [if_pos h, bifF (decide_eq_false (by omega))]
  · rw [if_neg h, bifT (decide_eq_true (by omega))]

theorem fuelB {l : List T25} (h : l.length ≤ 10000) : mu l * ((l.length + mu l) + 2) + (l.length - 0) < FUEL := by
  have h1 := mu_le l
  have h2 : mu l * ((l.length + mu l) + 2) ≤ 20000 * 30002 := Nat.mul_le_mul (by omega) (by omega)
  exact fuel_lt (by omega)

theorem m9_eq (S : List T60) (u : List Int) (l : List T25) (now : Int) : m9 S u l now = some (settleS S u l now) := by
  unfold m9
  rw [m10_eq]
  simp only [Option.bind_some]
  by_cases hr : RightT S l
  case neg =>
    unfold settleS
    rw [decide_eq_false hr, if_neg (fun h => hr h.1)]; rfl
  rw [decide_eq_true hr, m24_eq S hr.1]
  by_cases hv : Valid S u
  case neg =>
    unfold settleS
    rw [decide_eq_false hv, if_neg (fun h => hv h.2.1)]; rfl
  rw [decide_eq_true hv, m25_eq]
  by_cases hn : Day now
  case neg =>
    unfold settleS
    rw [decide_eq_false hn, if_neg (fun h => hn h.2.2)]; rfl
  rw [decide_eq_true hn]
  have hul := hv.2.1
  have hL := hr.1.1
  have hl := hr.2.1
  have hmu := mu_le l
  simp only [Bool.not_true, beq_self_eq_true, cond_true, Option.bind_some, Bool.or_self, cond_false]
  rw [cloneM_eq (by omega), cloneM_eq (by omega)]
  simp only [Option.bind_some]
  have := l9_eq hn (fun y16 y17 => bif (decide ((List.length y17 : Int) > 10000)) then some (([], [], 6, ()) : List Int × List T25 × Int × Unit) else some (y16, y17, 0, ())) (l.length + mu l) (by omega) FUEL 0 u l ⟨hv, hr.2.2⟩ (Nat.le_refl _) (Nat.zero_le _)
    (fun j hj => by omega) (fuelB hl)
  refine Eq.trans this ?_
  unfold settleS
  rw [if_pos ⟨hr, hv, hn⟩]
  exact endS _

theorem m15_eq (S : List T60) (hS : S.length ≤ 20000) (u : List Int) (l : List T25) (now : Int) : m15 S u l now = some (settleS S u l now) := by
  unfold m15
  rw [m19_eq S u hS, m16_eq S hS, m35_eq]
  simp only [Option.bind_some]
  by_cases hv : Valid S u
  case neg =>
    unfold settleS
    rw [decide_eq_false hv, if_neg (fun h => hv h.2.1)]; rfl
  rw [decide_eq_true hv]
  by_cases hr : RightT S l
  case neg =>
    unfold settleS
    rw [decide_eq_false hr, if_neg (fun h => hr h.1)]; rfl
  rw [decide_eq_true hr]
  by_cases hn : Day now
  case neg =>
    unfold settleS
    rw [decide_eq_false hn, if_neg (fun h => hn h.2.2)]; rfl
  rw [decide_eq_true hn]
  have hul := hv.2.1
  have hl := hr.2.1
  have hmu := mu_le l
  simp only [Bool.not_true, beq_self_eq_true, cond_true, Option.bind_some, Bool.or_self, cond_false]
  rw [asrtP (fun _ => limL (by omega)), asrtP (fun _ => limL (by omega))]
  have := l15_eq hn (fun y16 y17 => bif (decide ((List.length y17 : Int) > 10000)) then some (([], [], 6, ()) : List Int × List T25 × Int × Unit) else some (y16, y17, 0, ())) (l.length + mu l) (by omega) FUEL u l ⟨hv, hr.2.2⟩ (Nat.le_refl _) (fuel_lt (by omega))
  refine Eq.trans this ?_
  unfold settleS
  rw [if_pos ⟨hr, hv, hn⟩]
  exact endS _

/-! ### Lists of trades -/

theorem eqT (x y : T25) : ((x.1 == y.1) && ((x.2.1 == y.2.1) && ((x.2.2.1 == y.2.2.1) && ((x.2.2.2.1 == y.2.2.2.1) && ((x.2.2.2.2.1 == y.2.2.2.2.1) && ((x.2.2.2.2.2.1 == y.2.2.2.2.2.1) && ((x.2.2.2.2.2.2.1 == y.2.2.2.2.2.2.1) && ((x.2.2.2.2.2.2.2.1 == y.2.2.2.2.2.2.2.1) && true)))))))) = decide (x = y) := by
  obtain ⟨a, b, c, d, e, f, g, h, i⟩ := x
  obtain ⟨a', b', c', d', e', f', g', h', i'⟩ := y
  apply Bool.eq_iff_iff.2
  simp only [Bool.and_eq_true, beq_iff_eq, decide_eq_true_eq, Prod.mk.injEq, and_true]

theorem l12_eq {R : Type} (a b : List T25) (hl : a.length = b.length) (hb : a.length ≤ 1000000) (k1 k2 : Option R) : ∀ (d n j : Nat), j + d = a.length → d < n → a.take j = b.take j →
    l12_1 a b k1 k2 n j = bif decide (a = b) then k1 else k2 := by
  intro d
  induction d with
  | zero =>
    intro n j hj hn h
    obtain ⟨n, rfl⟩ : ∃ m, n = m + 1 := ⟨n - 1, by omega⟩
    rw [List.take_of_length_le (by omega), List.take_of_length_le (by omega)] at h
    rw [decide_eq_true h]
    show s12_1 a b (l12_1 a b k1 k2 n) k1 k2 j = _
    unfold s12_1
    rw [bifF (decide_eq_false (by omega))]
    rfl
  | succ d ih =>
    intro n j hj hn h
    obtain ⟨n, rfl⟩ : ∃ m, n = m + 1 := ⟨n - 1, by omega⟩
    have ha : j < a.length := by omega
    have hb' : j < b.length := by omega
    have e0 : l12_1 a b k1 k2 (n + 1) j = bif decide (a[j] = b[j]) then l12_1 a b k1 k2 n (j + 1 : Nat) else k2 := by
      show s12_1 a b (l12_1 a b k1 k2 n) k1 k2 j = _
      unfold s12_1
      rw [bifT (decide_eq_true (by omega)), idx_nat, idx_nat, List.getElem?_eq_getElem ha, List.getElem?_eq_getElem hb', wrapI (x := (j : Int) + 1) (by omega) (by omega)]
      simp only [Option.bind_some]
      rw [eqT]
      cases decide (a[j] = b[j]) <;> rfl
    rw [e0]
    by_cases hq : a[j] = b[j]
    · rw [decide_eq_true hq, cond_true]
      refine ih n (j + 1) (by omega) (by omega) ?_
      rw [List.take_succ_eq_append_getElem ha, List.take_succ_eq_append_getElem hb', h, hq]
    · rw [decide_eq_false hq, decide_eq_false (fun e : a = b => hq (by subst e; rfl))]
      rfl

theorem m12_eq (a b : List T25) (hb : a.length ≤ 1000000) : m12 a b = some (decide (a = b)) := by
  unfold m12
  by_cases hl : a.length = b.length
  case neg =>
    rw [bifT (bne_ne (by omega)), decide_eq_false (fun e : a = b => hl (by rw [e]))]
  rw [bifF (by rw [hl]; exact bne_same _)]
  refine Eq.trans (l12_eq a b hl hb _ _ a.length FUEL 0 (by omega) (fuel_lt (by omega)) rfl) ?_
  cases decide (a = b) <;> rfl

/-- The open trades among the first ones. -/
def opN (l : List T25) (d : Int) : Nat → List Int
  | 0 => []
  | j + 1 => opN l d j ++ (match l[j]? with
    | some x => if x.2.2.2.2.2.2.1 = -1 ∧ x.2.2.2.2.2.1 ≤ d then [(j : Int)] else []
    | none => [])

theorem opN_len (l : List T25) (d : Int) : ∀ j, (opN l d j).length ≤ j
  | 0 => Nat.le_refl _
  | j + 1 => by
    have := opN_len l d j
    simp only [opN, List.length_append]
    split
    · split <;> simp <;> omega
    · simp; omega

theorem opN_mem {l : List T25} {d x : Int} : ∀ {j : Nat}, x ∈ opN l d j → ∃ (i : Nat) (hi : i < l.length), i < j ∧ x = i ∧ l[i].2.2.2.2.2.2.1 = -1 ∧ l[i].2.2.2.2.2.1 ≤ d
  | 0, h => by simp [opN] at h
  | j + 1, h => by
    simp only [opN] at h
    rcases List.mem_append.1 h with h | h
    · obtain ⟨i, hi, h1, h2⟩ := opN_mem h
      exact ⟨i, hi, by omega, h2⟩
    · split at h
      · rename_i y hy
        split at h
        · rename_i hc
          have hj := (List.getElem?_eq_some_iff.1 hy)
          obtain ⟨hj1, hj2⟩ := hj
          rw [← hj2] at hc
          exact ⟨j, hj1, by omega, List.mem_singleton.1 h, hc⟩
        · cases h
      · cases h

theorem op_round {l : List T25} {d : Int} {j : Nat} (hlt : j < l.length) : opN l d (j + 1) = if l[j].2.2.2.2.2.2.1 = -1 ∧ l[j].2.2.2.2.2.1 ≤ d then opN l d j ++ [(j : Int)] else opN l d j := by
  simp only [opN, List.getElem?_eq_getElem hlt]
  split <;> simp

theorem l17_eq {R : Type} (l : List T25) (hl : l.length ≤ 100000) (d : Int) (k : List Int → Option R) : ∀ (q n j : Nat), j + q = l.length → q < n → l17_1 d l (List.length l : Int) k n j (opN l d j) = k (opN l d l.length) := by
  intro q
  induction q with
  | zero =>
    intro n j hj hn
    obtain ⟨n, rfl⟩ : ∃ m, n = m + 1 := ⟨n - 1, by omega⟩
    have : j = l.length := by omega
    subst this
    show s17_1 d l _ (l17_1 d l _ k n) k _ _ = _
    unfold s17_1
    rw [bifF (decide_eq_false (by omega))]
  | succ q ih =>
    intro n j hj hn
    obtain ⟨n, rfl⟩ : ∃ m, n = m + 1 := ⟨n - 1, by omega⟩
    have hlt : j < l.length := by omega
    have hb := opN_len l d j
    rw [← ih n (j + 1) (by omega) (by omega)]
    show s17_1 d l _ (l17_1 d l _ k n) k _ _ = _
    unfold s17_1
    rw [bifT (decide_eq_true (by omega)), idx_nat, List.getElem?_eq_getElem hlt, wrapI (x := (j : Int) + 1) (by omega) (by omega), op_round hlt]
    simp only [Option.bind_some, cont]
    by_cases h : l[j].2.2.2.2.2.2.1 = -1 ∧ l[j].2.2.2.2.2.1 ≤ d
    · rw [if_pos h, bifT (by simp [h.1, h.2]), asrtP (fun _ => limL (by simp; omega))]
      rfl
    · rw [if_neg h, bifF (by
        apply Bool.eq_false_iff.2
        simp only [Bool.and_eq_true, beq_iff_eq, decide_eq_true_eq, ne_eq]
        exact h)]
      rfl

theorem m17_eq (l : List T25) (hl : l.length ≤ 100000) (d : Int) : m17 l d = some (opN l d l.length) := by
  unfold m17
  exact l17_eq l hl d _ l.length FUEL 0 (by omega) (fuel_lt (by omega))

theorem l18_eq {R : Type} (l : List T25) (hl : l.length ≤ 100000) (d : Int) (k : List Int → Option R) : ∀ (q n j : Nat), j + q = l.length → q < n → l18_1 l d k n j (opN l d j) = k (opN l d l.length) := by
  intro q
  induction q with
  | zero =>
    intro n j hj hn
    obtain ⟨n, rfl⟩ : ∃ m, n = m + 1 := ⟨n - 1, by omega⟩
    have : j = l.length := by omega
    subst this
    show s18_1 l d (l18_1 l d k n) k _ _ = _
    unfold s18_1
    rw [bifF (decide_eq_false (by omega))]
  | succ q ih =>
    intro n j hj hn
    obtain ⟨n, rfl⟩ : ∃ m, n = m + 1 := ⟨n - 1, by omega⟩
    have hlt : j < l.length := by omega
    have hb := opN_len l d j
    rw [← ih n (j + 1) (by omega) (by omega)]
    show s18_1 l d (l18_1 l d k n) k _ _ = _
    unfold s18_1
    rw [bifT (decide_eq_true (by omega)), idx_nat, List.getElem?_eq_getElem hlt, wrapI (x := (j : Int) + 1) (by omega) (by omega), op_round hlt]
    simp only [Option.bind_some, cont]
    by_cases h : l[j].2.2.2.2.2.2.1 = -1 ∧ l[j].2.2.2.2.2.1 ≤ d
    · rw [if_pos h, h.1]
      simp only [beq_self_eq_true, idxG, cond_true, idx_nat, List.getElem?_eq_getElem hlt, Option.bind_some, Bool.true_and]
      rw [bifT (decide_eq_true h.2), asrtP (fun _ => limL (by simp; omega))]
      rfl
    · rw [if_neg h]
      by_cases h1 : l[j].2.2.2.2.2.2.1 = -1
      · rw [h1]
        simp only [beq_self_eq_true, idxG, cond_true, idx_nat, List.getElem?_eq_getElem hlt, Option.bind_some, Bool.true_and]
        rw [bifF (decide_eq_false (fun h2 => h ⟨h1, h2⟩))]
        rfl
      · have e : (l[j].2.2.2.2.2.2.1 == (-1)) = false := by simpa using h1
        rw [e]
        rfl

theorem m18_eq (l : List T25) (hl : l.length ≤ 100000) (d : Int) : m18 l d = some (opN l d l.length) := by
  unfold m18
  exact l18_eq l hl d _ l.length FUEL 0 (by omega) (fuel_lt (by omega))

/-! ### Adding -/

def addS (S : List T60) (l : List T25) (t : T25) : List T25 × Int × Unit :=
  if RightT S l ∧ OneP S t ∧ t.2.2.2.2.2.2.1 = -1 then (if l.length < 5000 then (l ++ [t], 0, ()) else ([], 6, ())) else ([], 1, ())

theorem m13_eq (S : List T60) (l : List T25) (t : T25) : m13 S l t = some (addS S l t) := by
  unfold m13
  rw [m10_eq]
  simp only [Option.bind_some]
  by_cases hr : RightT S l
  case neg =>
    unfold addS
    rw [decide_eq_false hr, if_neg (fun h => hr h.1)]; rfl
  obtain ⟨o, ho, eo⟩ := m30_eq S hr.1
  rw [decide_eq_true hr, eo]
  simp only [Bool.not_true, beq_self_eq_true, cond_true, Option.bind_some]
  rw [m33_eq ho]
  simp only [Option.bind_some]
  by_cases h1 : OneP S t
  case neg =>
    unfold addS
    rw [decide_eq_false h1, if_neg (fun h => h1 h.2.1)]; rfl
  rw [decide_eq_true h1]
  by_cases h2 : t.2.2.2.2.2.2.1 = -1
  case neg =>
    unfold addS
    rw [if_neg (fun h => h2 h.2.2), bne_ne h2]; rfl
  unfold addS
  rw [if_pos ⟨hr, h1, h2⟩, h2]
  simp only [Bool.not_true, Bool.or_self, Bool.false_or, bne_same, cond_false]
  by_cases h3 : l.length < 5000
  · rw [if_pos h3, bifF (decide_eq_false (by omega)), cloneM_eq (by omega)]
    simp only [Option.bind_some]
    rw [asrtP (fun _ => limL (by simp; omega))]
  · rw [if_neg h3, bifT (decide_eq_true (by omega))]

theorem m14_eq (S : List T60) (hS : S.length ≤ 20000) (l : List T25) (t : T25) : m14 S l t = some (addS S l t) := by
  unfold m14
  rw [m16_eq S hS]
  simp only [Option.bind_some]
  by_cases hr : RightT S l
  case neg =>
    unfold addS
    rw [decide_eq_false hr, if_neg (fun h => hr h.1)]; rfl
  rw [decide_eq_true hr, m34_eq hr.1]
  simp only [Bool.not_true, beq_self_eq_true, cond_true, Option.bind_some]
  by_cases h1 : OneP S t
  case neg =>
    unfold addS
    rw [decide_eq_false h1, if_neg (fun h => h1 h.2.1)]; rfl
  rw [decide_eq_true h1]
  by_cases h2 : t.2.2.2.2.2.2.1 = -1
  case neg =>
    unfold addS
    rw [if_neg (fun h => h2 h.2.2), bne_ne h2]; rfl
  unfold addS
  rw [if_pos ⟨hr, h1, h2⟩, h2]
  simp only [Bool.not_true, Bool.or_self, Bool.false_or, bne_same, cond_false]
  by_cases h3 : l.length < 5000
  · rw [if_pos h3, bifF (decide_eq_false (by omega)), asrtP (fun _ => limL (by omega)), asrtP (fun _ => limL (by simp; omega))]
  · rw [if_neg h3, bifT (decide_eq_true (by omega))]

/-! ### The examples -/

def S3 : List T60 := [((-1), (-1), ()), ((-1), (-1), ()), ((-1), (-1), ())]
def L3 : List T25 := [(0, 1, 2, 5, 1, 3, (-1), 0, ()), (0, 0, 1, 6, 1, 4, (-1), 0, ()), (1, 0, 2, 4, 1, 4, (-1), 9, ())]
def L4 : List T25 := [(0, 1, 2, 5, 1, 3, 4, 0, ()), (0, 0, 1, 6, 1, 4, 4, 0, ()), (1, 0, 2, 4, 1, 4, 4, 9, ()), (0, 2, 0, 4, 4, 9, (-1), 0, ())]
def L5 : List T25 := [(0, 1, 2, 5, 1, 3, 4, 0, ()), (0, 0, 1, 6, 1, 4, 4, 0, ()), (1, 0, 2, 4, 1, 4, 4, 9, ()), (0, 2, 0, 4, 4, 9, 9, 0, ())]

theorem ex1 : settleS S3 [10, 0, 0] L3 3 = ([10, 0, 0], L3, 0, ()) := by decide +kernel
theorem ex2 : settleS S3 [10, 0, 0] L3 4 = ([0, 1, 9], L4, 0, ()) := by decide +kernel
theorem ex3 : settleS S3 [0, 1, 9] L4 9 = ([4, 1, 5], L5, 0, ()) := by decide +kernel
theorem ex4 : opN L3 3 3 = [0] := by decide +kernel
theorem ex5 : RightT S3 L4 := by decide +kernel

theorem small7 : m7 = some true := by
  have h22 : m22 = some S3 := rfl
  have h23 : m23 = some L3 := rfl
  unfold m7
  simp only [h22, h23, Option.bind_some, m9_eq, ex1, ex2, ex3]
  have e11 : m11 [10, 0, 0] [10, 0, 0] = some true := by rw [m11_eq _ _ (by decide)]; rfl
  have e12 : m12 L3 L3 = some true := by rw [m12_eq _ _ (by decide)]; exact congrArg some (decide_eq_true rfl)
  have e13 : m11 [0, 1, 9] [0, 1, 9] = some true := by rw [m11_eq _ _ (by decide)]; rfl
  have e14 : m11 [4, 1, 5] [4, 1, 5] = some true := by rw [m11_eq _ _ (by decide)]; rfl
  have e15 : m17 L3 3 = some [0] := by rw [m17_eq _ (by decide)]; exact congrArg some ex4
  have e16 : m11 [0] [0] = some true := by rw [m11_eq _ _ (by decide)]; rfl
  have e17 : m10 S3 L4 = some true := by rw [m10_eq]; exact congrArg some (decide_eq_true ex5)
  have l4 : (List.length L4 : Int) = 4 := rfl
  have x3 : idx L4 3 = some (0, 2, 0, 4, 4, 9, (-1), 0, ()) := rfl
  have x0 : idx L4 0 = some (0, 1, 2, 5, 1, 3, 4, 0, ()) := rfl
  have x2 : idx L4 2 = some (1, 0, 2, 4, 1, 4, 4, 9, ()) := rfl
  simp only [e11, e12, e13, e14, l4, bne_same, Bool.or_self, cond_false, cond_true, beq_self_eq_true, Option.bind_some, Bool.and_self, x3, x0, x2, idxG, e15, e16, e17, Bool.true_and, Bool.and_true]

theorem few8 (S : List T60) (u : List Int) (l : List T25) : m8 S u l = some (decide (S.length ≤ 10 ∧ u.length ≤ 10 ∧ l.length ≤ 12)) := by
  unfold m8
  congr 1
  apply Bool.eq_iff_iff.2
  simp only [Bool.and_eq_true, decide_eq_true_eq]
  omega

theorem settle_len {now : Int} : ∀ (n : Nat) (u : List Int) (l : List T25), (settle now n u l).2.length ≤ l.length + n
  | 0, u, l => Nat.le_refl _
  | n + 1, u, l => by
    simp only [settle]
    split
    · simp
    · rename_i i _
      have := settle_len (now := now) n (stepU u (l.getD i (0, 0, 0, 0, 0, 0, 0, 0, ()))) (stepL now l i (l.getD i (0, 0, 0, 0, 0, 0, 0, 0, ())))
      have h2 : (stepL now l i (l.getD i (0, 0, 0, 0, 0, 0, 0, 0, ()))).length ≤ l.length + 1 := by
        unfold stepL
        rw [List.length_append, List.length_set]
        split <;> simp
      omega

theorem stepU_len (u : List Int) (t : T25) : (stepU u t).length = u.length := mvU_len _ _ _ _

theorem settle_len1 {now : Int} : ∀ (n : Nat) (u : List Int) (l : List T25), (settle now n u l).1.length = u.length
  | 0, u, l => rfl
  | n + 1, u, l => by
    simp only [settle]
    split
    · rfl
    · rename_i i _
      rw [settle_len1, stepU_len]

theorem settleS_len (S : List T60) (u : List Int) (l : List T25) (now : Int) : (settleS S u l now).1.length ≤ u.length ∧ (settleS S u l now).2.1.length ≤ 10000 := by
  unfold settleS
  split
  · split
    · rename_i h
      exact ⟨by rw [settle_len1]; exact Nat.le_refl _, h⟩
    · exact ⟨Nat.zero_le _, Nat.zero_le _⟩
  · exact ⟨Nat.zero_le _, Nat.zero_le _⟩

theorem addS_len (S : List T60) (l : List T25) (t : T25) : (addS S l t).1.length ≤ l.length + 1 := by
  unfold addS
  split
  · split <;> simp
  · simp

theorem tradeTells (S : List T60) (u : List Int) (l : List T25) (t : T25) (d : Int) : m4 S u l t d = some true := by
  unfold m4
  rw [small7, few8]
  simp only [Option.bind_some]
  by_cases h : S.length ≤ 10 ∧ u.length ≤ 10 ∧ l.length ≤ 12
  case neg => rw [decide_eq_false h]; rfl
  rw [decide_eq_true h]
  have hS : S.length ≤ 20000 := by omega
  have hs := settleS_len S u l d
  have ha := addS_len S l t
  simp only [Bool.not_true, cond_false, m13_eq, m14_eq S hS, m9_eq, m15_eq S hS, Option.bind_some, beq_self_eq_true, cond_true, Bool.true_and]
  rw [m12_eq _ _ (by omega), m11_eq _ _ (by omega), m12_eq _ _ (by omega), m10_eq, m16_eq S hS, m17_eq l (by omega), m18_eq l (by omega)]
  simp only [decide_true, Option.bind_some, beq_self_eq_true, cond_true, Bool.and_self]
  have hop := opN_len l d l.length
  rw [m11_eq _ _ (by omega)]
  simp

end Go.Proofs.Ytihcngohiffaeaa
