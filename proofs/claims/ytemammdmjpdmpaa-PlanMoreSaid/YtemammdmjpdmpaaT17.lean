/- Plan: PlanMore. -/
import Derived.Test.YtemammdmjpdmpaaT16
namespace Go.Proofs.Ytemammdmjpdmpaa
open Go Go.Eng
set_option linter.unusedVariables false
set_option linter.unusedSimpArgs false

/-- A task that has a choice of at most this cost has a best one. -/
theorem best_le {t : T24} (hr : rightC t = true) {l : List Int} (hf : feas t l) {k : Int} (hk : floorC t l ≤ k) : (bestC t).2.2.2.1 = 0 ∧ (bestC t).2.1 ≤ k := by
  rcases best_cases t with ⟨h, e⟩ | ⟨_, hn, e⟩ | ⟨_, hfe, hc, hmin, hm, e⟩
  · rw [hr] at h; cases h
  · exact absurd hf (hn l)
  · rw [e]
    exact ⟨rfl, Int.le_trans (hm l hf.1 hf.2.1 hf.2.2) hk⟩

theorem maxN_le {f : Nat → Int} {M : Int} (h0 : 0 ≤ M) : ∀ n, (∀ i, i < n → f i ≤ M) → maxN f n ≤ M
  | 0, _ => h0
  | n + 1, h => by
    have a := maxN_le h0 n (fun i hi => h i (by omega))
    have b := h n (by omega)
    unfold maxN
    cases decide (f n > maxN f n) <;> assumption
theorem maxN_ge {f : Nat → Int} : ∀ n, 0 ≤ maxN f n ∧ ∀ i, i < n → f i ≤ maxN f n
  | 0 => ⟨Int.le_refl _, fun i hi => absurd hi (Nat.not_lt_zero i)⟩
  | n + 1 => by
    obtain ⟨a, b⟩ := maxN_ge (f := f) n
    unfold maxN
    by_cases d : f n > maxN f n
    · rw [decide_eq_true d, cond_true]
      refine ⟨by omega, fun i hi => ?_⟩
      by_cases e : i = n
      · subst e; omega
      · have := b i (by omega); omega
    · rw [decide_eq_false d, cond_false]
      refine ⟨a, fun i hi => ?_⟩
      by_cases e : i = n
      · subst e; omega
      · exact b i (by omega)

/-! ### A greater cap -/
theorem rich_le {t : T24} (hr : rightC t = true) {y : Nat} (hy : y < t.2.1.length) {x : Int} (h0 : 0 ≤ x) (h1 : x ≤ 1000000000000000) (hx : t.2.1.getD y 0 ≤ x) {l : List Int} (hf : feas t l) :
    (bestC (t.1, t.2.1.set y x, ())).2.2.2.1 = 0 ∧ (bestC (t.1, t.2.1.set y x, ())).2.1 ≤ floorC t l := by
  have hr2 : rightC (t.1, t.2.1.set y x, ()) = true := by
    have hsc : scen (t.1, t.2.1.set y x, ()) = scen t := rfl
    simp only [rightC, hsc, List.length_set] at hr ⊢
    simp only [Bool.and_eq_true, decide_eq_true_eq, List.all_eq_true, inB] at hr ⊢
    refine ⟨hr.1, hr.2.1, hr.2.2.1, ?_, hr.2.2.2.2⟩
    intro z hz
    rcases List.mem_or_eq_of_mem_set hz with hz | rfl
    · exact hr.2.2.2.1 z hz
    · exact ⟨h0, h1⟩
  refine best_le hr2 (l := l) ⟨hf.1, hf.2.1, ?_⟩ (Int.le_refl _)
  refine over_none.2 fun z hz => ?_
  have hz' : z < t.2.1.length := by simpa using hz
  have := over_none.1 hf.2.2 z hz'
  have e : dueS (t.1, t.2.1.set y x, ()) l (z : Int) = dueS t l (z : Int) := rfl
  rw [e]
  by_cases h : z = y
  · subst h
    have : (t.2.1.set z x).getD z 0 = x := by simp [List.getD_eq_getElem?_getD, hy]
    show _ ≤ (t.2.1.set z x).getD z 0
    omega
  · have : (t.2.1.set y x).getD z 0 = t.2.1.getD z 0 := by simp [List.getD_eq_getElem?_getD, List.getElem?_set, Ne.symm h]
    show _ ≤ (t.2.1.set y x).getD z 0
    omega

/-! ### A further option -/
theorem wide_le {t : T24} (g : Good t) {i : Nat} (hi : i < t.1.length) (o : T42) (hr2 : rightC (t.1.set i (t.1.getD i [] ++ [o]), t.2.1, ()) = true) {l : List Int} (hf : feas t l) :
    (bestC (t.1.set i (t.1.getD i [] ++ [o]), t.2.1, ())).2.2.2.1 = 0 ∧ (bestC (t.1.set i (t.1.getD i [] ++ [o]), t.2.1, ())).2.1 ≤ floorC t l := by
  have hiss : ∀ q, (t.1.set i (t.1.getD i [] ++ [o])).getD q [] = if q = i then t.1.getD i [] ++ [o] else t.1.getD q [] := by
    intro q
    by_cases h : q = i
    · subst h; rw [if_pos rfl]; simp [List.getD_eq_getElem?_getD, hi]
    · rw [if_neg h]; simp [List.getD_eq_getElem?_getD, List.getElem?_set, Ne.symm h]
  have hopt : ∀ q (k : Int), k.toNat < (t.1.getD q []).length → optAt (t.1.set i (t.1.getD i [] ++ [o]), t.2.1, ()) q k = optAt t q k := by
    intro q k hk
    unfold optAt
    simp only [hiss]
    by_cases h : q = i
    · subst h
      rw [if_pos rfl]
      simp only [List.getD_eq_getElem?_getD] at hk ⊢
      rw [List.getElem?_append_left hk]
    · rw [if_neg h]
  have hk : ∀ (q : Nat) (k : Int), l[q]? = some k → k.toNat < (t.1.getD q []).length := fun q k h => (hf.1.2 q k h).2
  have hlen : (t.1.set i (t.1.getD i [] ++ [o])).length = t.1.length := List.length_set
  have hv2 : vC (t.1.set i (t.1.getD i [] ++ [o]), t.2.1, ()) l := by
    refine ⟨by rw [hlen]; exact hf.1.1, fun q k h => ?_⟩
    obtain ⟨a, b⟩ := hf.1.2 q k h
    refine ⟨a, ?_⟩
    rw [hiss]
    by_cases e : q = i
    · subst e; rw [if_pos rfl, List.length_append]; omega
    · rw [if_neg e]; exact b
  have hsc : scen (t.1.set i (t.1.getD i [] ++ [o]), t.2.1, ()) = scen t := by
    have h0 := (g.opt 0 _ (g.issue (i := 0) (by have := g.n1; omega))).1
    have e0 : (t.1.set i (t.1.getD i [] ++ [o])).getD 0 [] = if 0 = i then t.1.getD i [] ++ [o] else t.1.getD 0 [] := hiss 0
    have gen : ∀ u : T24, scen u = ((u.1.getD 0 []).getD 0 ([], 0, 0, ())).1.length := by
      intro u
      unfold scen
      split
      · rename_i a b c d e; rw [e]; rfl
      · rename_i h
        cases hu : u.1 with
        | nil => rfl
        | cons a b =>
          cases a with
          | nil => rfl
          | cons c d => exact absurd hu (fun e => h _ _ _ e)
    rw [gen, gen, e0]
    by_cases e : 0 = i
    · subst e
      rw [if_pos rfl]
      cases hh : t.1.getD 0 [] with
      | nil => rw [hh] at h0; simp at h0
      | cons a b => rfl
    · rw [if_neg e]
  have hfl : floorC (t.1.set i (t.1.getD i [] ++ [o]), t.2.1, ()) l = floorC t l := by
    unfold floorC
    rw [hsc]
    congr 1
    funext s
    unfold sumC
    rw [hlen]
    refine sumN_congr fun q hq => ?_
    have e1 : l[q]? = some (l.getD q 0) := get_of_lt (by have := hf.2.1; omega) 0
    unfold partC
    rw [e1]
    simp only
    rw [hopt q _ (hk q _ e1)]
  refine best_le hr2 (l := l) ⟨hv2, by rw [hlen]; exact hf.2.1, ?_⟩ (by rw [hfl]; exact Int.le_refl _)
  refine over_none.2 fun y hy => ?_
  have := over_none.1 hf.2.2 y hy
  have e : dueS (t.1.set i (t.1.getD i [] ++ [o]), t.2.1, ()) l (y : Int) = dueS t l (y : Int) := by
    unfold dueS
    refine sumN_congr fun q hq => ?_
    have e1 : l[q]? = some (l.getD q 0) := get_of_lt (by omega) 0
    unfold partD
    rw [e1]
    simp only
    rw [hopt q _ (hk q _ e1)]
  rw [e]
  exact this

/-! ### A scenario less -/
def sh (o : T42) : T42 := (o.1.drop 1, o.2.1, o.2.2.1, ())
def short (t : T24) : T24 := (t.1.map (·.map sh), t.2.1, ())

theorem short_iss (t : T24) (q : Nat) : (short t).1.getD q [] = (t.1.getD q []).map sh := by
  simp only [short, List.getD_eq_getElem?_getD, List.getElem?_map]
  cases t.1[q]? <;> rfl
theorem short_opt (t : T24) (q : Nat) (k : Int) : optAt (short t) q k = sh (optAt t q k) := by
  unfold optAt
  rw [short_iss]
  simp only [List.getD_eq_getElem?_getD, List.getElem?_map]
  cases ((t.1[q]?.getD [])[k.toNat]?) <;> rfl
theorem short_len (t : T24) : (short t).1.length = t.1.length := by simp [short]
theorem short_vC {t : T24} {c : List Int} : vC (short t) c ↔ vC t c := by
  unfold vC
  rw [short_len]
  simp only [short_iss, List.length_map]
theorem short_due (t : T24) (c : List Int) (y : Int) : dueS (short t) c y = dueS t c y := by
  unfold dueS
  refine sumN_congr fun q hq => ?_
  unfold partD
  split
  · rw [short_opt]; rfl
  · rfl
theorem short_feas {t : T24} {l : List Int} (h : feas t l) : feas (short t) l := by
  refine ⟨short_vC.2 h.1, by rw [short_len]; exact h.2.1, over_none.2 fun y hy => ?_⟩
  rw [short_due]
  exact over_none.1 h.2.2 y hy
theorem short_scen {t : T24} (g : Good t) : scen (short t) = scen t - 1 := by
  have h0 := (g.opt 0 _ (g.issue (i := 0) (by have := g.n1; omega))).1
  have := g.n1
  unfold scen short
  cases ht : t.1 with
  | nil => rw [ht] at this; simp at this
  | cons a b =>
    rw [ht] at h0
    cases a with
    | nil => simp at h0
    | cons c d => simp [sh]
theorem short_right {t : T24} (hr : rightC t = true) (h2 : 2 ≤ scen t) : rightC (short t) = true := by
  have g := good_of hr
  have hsc := short_scen g
  have hs2 := g.s2
  have hy : (short t).2.1 = t.2.1 := rfl
  unfold rightC at hr ⊢
  rw [short_len, hsc, hy]
  simp only [Bool.and_eq_true, decide_eq_true_eq, List.all_eq_true, inB] at hr ⊢
  refine ⟨hr.1, by omega, hr.2.2.1, hr.2.2.2.1, fun l hl => ?_⟩
  simp only [short, List.mem_map] at hl
  obtain ⟨l0, hl0, rfl⟩ := hl
  have h5 := hr.2.2.2.2 l0 hl0
  simp only [okI, Bool.and_eq_true, decide_eq_true_eq, List.all_eq_true, inB, List.length_map] at h5 ⊢
  refine ⟨h5.1, fun o ho => ?_⟩
  obtain ⟨o0, ho0, rfl⟩ := List.mem_map.1 ho
  have h6 := h5.2 o0 ho0
  simp only [okO, Bool.and_eq_true, decide_eq_true_eq, List.all_eq_true, inB, sh, List.length_drop] at h6 ⊢
  exact ⟨by omega, fun x hx => h6.2.1 x (List.mem_of_mem_drop hx), ⟨decide_eq_true h6.2.2.1.1, decide_eq_true h6.2.2.1.2⟩, decide_eq_true h6.2.2.2.1, decide_eq_true h6.2.2.2.2⟩
theorem short_floor {t : T24} (g : Good t) (h2 : 2 ≤ scen t) {l : List Int} (hf : feas t l) : floorC (short t) l ≤ floorC t l := by
  unfold floorC
  rw [short_scen g]
  obtain ⟨a, b⟩ := maxN_ge (f := sumC t l) (scen t)
  refine maxN_le a _ fun s hs => ?_
  refine Int.le_trans (Int.le_of_eq ?_) (b (s + 1) (by omega))
  unfold sumC
  rw [short_len]
  refine sumN_congr fun q hq => ?_
  have e1 : l[q]? = some (l.getD q 0) := get_of_lt (by have := hf.2.1; omega) 0
  unfold partC
  rw [e1]
  simp only [short_opt, sh, List.getD_eq_getElem?_getD, List.getElem?_drop]
  rw [Nat.add_comm]

theorem short_loop1 {t : T24} (g : Good t) (h2 : 2 ≤ scen t) {R : Type} {i : Nat} (hi : i < t.1.length) (k1 : List T42 → Option R) : l7_1 (i : Int) t k1 FUEL 0 [] = k1 ((t.1.getD i []).map sh) := by
  obtain ⟨q1, q2, q3⟩ := g.opt i _ (g.issue hi)
  have hl := lim_eq
  have e0 : ([] : List T42) = ((t.1.getD i []).take 0).map sh := rfl
  have e1 : (t.1.getD i []).map sh = ((t.1.getD i []).take (t.1.getD i []).length).map sh := by rw [List.take_length]
  rw [e1]
  exact seq_loop (R := R) (S := List T42) (t.1.getD i []).length (fun j => ((t.1.getD i []).take j).map sh) (fun m j x => l7_1 (i : Int) t k1 m j x) k1 (by omega)
    (by
      intro m j hj
      have hx : (t.1.getD i [])[j]? = some (optAt t i (j : Int)) := get_of_lt hj _
      obtain ⟨o1, _⟩ := q3 j _ hx
      have hb : bounds true (List.length (optAt t i (j : Int)).1) 1 (List.length (optAt t i (j : Int)).1 : Int) = true := by simp [bounds]; omega
      have hsub : subl (optAt t i (j : Int)).1 1 (List.length (optAt t i (j : Int)).1 : Int) = (optAt t i (j : Int)).1.drop 1 := by
        simp [subl]
      have hlm : ∀ x : T42, decide (List.length (α := T42) (((t.1.getD i []).take j).map sh) + List.length (α := T42) [x] ≤ LIM) = true := fun x => decide_eq_true (by simp [List.length_take]; omega)
      simp only [l7_1, s7_1, idx_nat, g.issue hi, Option.bind_some, lt1 hj, cond_true, hx, hb, asrtT, hsub, hlm, wr1 (j := j) (by omega)]
      rw [List.take_add_one, hx, List.map_append]
      rfl)
    (by intro m; simp only [l7_1, s7_1, idx_nat, g.issue hi, Option.bind_some, lt0, cond_false])

theorem short_loop2 {t : T24} (g : Good t) (h2 : 2 ≤ scen t) {R : Type} (k1 : List (List T42) → Option R) : l7_2 t k1 FUEL 0 [] = k1 (short t).1 := by
  have hl := lim_eq
  have := g.n2
  have e1 : (short t).1 = (t.1.take t.1.length).map (·.map sh) := by rw [List.take_length]; rfl
  rw [e1]
  exact seq_loop (R := R) (S := List (List T42)) t.1.length (fun j => (t.1.take j).map (·.map sh)) (fun m j x => l7_2 t k1 m j x) k1 (by omega)
    (by
      intro m j hj
      have hlm : ∀ x : List T42, decide (List.length (α := List T42) ((t.1.take j).map (·.map sh)) + List.length (α := List T42) [x] ≤ LIM) = true := fun x => decide_eq_true (by simp [List.length_take]; omega)
      simp only [l7_2, s7_2, lt1 hj, cond_true, short_loop1 g h2 hj, hlm, asrtT, wr1 (j := j) (by omega)]
      rw [List.take_add_one, g.issue hj, List.map_append]
      rfl)
    (by intro m; simp only [l7_2, s7_2, lt0, cond_false])

theorem planMore (t : T24) (a m : Int) (o : T42) (ha : 0 ≤ a ∧ a ≤ 255) : m7 t a m o = some true := by
  unfold m7
  simp only [m8_eq, m9_eq, Option.bind_some]
  cases hf : fewC t [] with
  | false => rfl
  | true =>
    obtain ⟨h5, h6, h7⟩ := few_of hf
    simp only [Bool.not_true, cond_false, m10_eq t h5, Option.bind_some]
    rcases best_cases t with ⟨hr, e⟩ | ⟨hr, hn, e⟩ | ⟨hr, hfe, hc, hmin, hm, e⟩
    · rw [e]; rfl
    · rw [e]; rfl
    · have g := good_of hr
      have hlim := lim_eq
      have := g.n1
      have := g.y
      have hwa : IntKind.i64.wrap a = a := wrapI (by omega) (by omega)
      rw [e, hwa]
      simp only [bne_self_eq_false, cond_false]
      refine (cont_eq () fun k7 => ?_).trans ?_
      · cases hg : (decide ((List.length t.2.1 : Int) > 0) && decide (m ≥ 0)) with
        | false => rfl
        | true =>
          simp only [Bool.and_eq_true, decide_eq_true_eq] at hg
          obtain ⟨g1, g2⟩ := hg
          have em : Int.tmod a (List.length t.2.1 : Int) = ((a % (t.2.1.length : Int)).toNat : Int) := by
            rw [tmod_pos _ ha.1, Int.toNat_of_nonneg (Int.emod_nonneg _ (by omega))]
          have hy : (a % (t.2.1.length : Int)).toNat < t.2.1.length := by
            have := Int.emod_lt_of_pos a g1
            have := Int.emod_nonneg a (show (t.2.1.length : Int) ≠ 0 by omega)
            omega
          rw [em]
          generalize (a % (t.2.1.length : Int)).toNat = y at hy
          have e1 : ((List.length t.2.1 : Int) != 0) = true := by simp only [bne_iff_ne, ne_eq]; omega
          have e2 : decide (List.length (α := Int) t.2.1 ≤ LIM) = true := decide_eq_true (by omega)
          have hcap := g.cap y _ (get_of_lt hy 0)
          simp only [cond_true, e1, asrtT, e2, idx_nat, get_of_lt hy 0, Option.bind_some, rng hy, Int.toNat_natCast]
          have hmm : (0 : Int) ≤ (bif decide (1000000000000000 < m) then 1000000000000000 else m) ∧ (bif decide (1000000000000000 < m) then 1000000000000000 else m) ≤ 1000000000000000 := by
            by_cases h : 1000000000000000 < m
            · rw [decide_eq_true h]; simp only [cond_true]; omega
            · rw [decide_eq_false h]; simp only [cond_false]; omega
          generalize (bif decide (1000000000000000 < m) then 1000000000000000 else m) = d at hmm
          have hw : IntKind.i64.wrap (t.2.1.getD y 0 + d) = t.2.1.getD y 0 + d := wrapI (by omega) (by omega)
          rw [hw]
          have hx : t.2.1.getD y 0 ≤ (bif decide (1000000000000000 < t.2.1.getD y 0 + d) then 1000000000000000 else t.2.1.getD y 0 + d) ∧ (bif decide (1000000000000000 < t.2.1.getD y 0 + d) then 1000000000000000 else t.2.1.getD y 0 + d) ≤ 1000000000000000 := by
            by_cases h : 1000000000000000 < t.2.1.getD y 0 + d
            · rw [decide_eq_true h]; simp only [cond_true]; omega
            · rw [decide_eq_false h]; simp only [cond_false]; omega
          generalize (bif decide (1000000000000000 < t.2.1.getD y 0 + d) then 1000000000000000 else t.2.1.getD y 0 + d) = x at hx
          obtain ⟨r1, r2⟩ := rich_le hr hy (x := x) (by omega) hx.2 hx.1 hfe
          rw [m10_eq _ (by exact h5)]
          simp only [Option.bind_some, r1, bne_self_eq_false, Bool.false_or]
          rw [decide_eq_false (p := (bestC (t.1, t.2.1.set y x, ())).2.1 > (srch t).2) (by omega)]
          rfl
      · have em : Int.tmod a (List.length t.1 : Int) = ((a % (t.1.length : Int)).toNat : Int) := by
          rw [tmod_pos _ ha.1, Int.toNat_of_nonneg (Int.emod_nonneg _ (by omega))]
        have hy : (a % (t.1.length : Int)).toNat < t.1.length := by
          have := Int.emod_lt_of_pos a (show (0 : Int) < (t.1.length : Int) by omega)
          have := Int.emod_nonneg a (show (t.1.length : Int) ≠ 0 by omega)
          omega
        rw [em]
        generalize (a % (t.1.length : Int)).toNat = i at hy
        have hi := (g.opt i _ (g.issue hy))
        have e1 : ((List.length t.1 : Int) != 0) = true := by simp only [bne_iff_ne, ne_eq]; omega
        have e2 : decide (List.length (α := List T42) t.1 ≤ LIM) = true := decide_eq_true (by omega)
        have e3 : decide (List.length (α := T42) (t.1.getD i []) ≤ LIM) = true := decide_eq_true (by omega)
        have e4 : decide (List.length (α := T42) (t.1.getD i []) + List.length (α := T42) [o] ≤ LIM) = true := decide_eq_true (by simp only [List.length_singleton]; omega)
        simp only [e1, asrtT, e2, idx_nat, g.issue hy, Option.bind_some, e3, e4, rng hy, Int.toNat_natCast]
        rw [m10_eq _ (by simp only [List.length_set]; exact h5), m16_eq]
        simp only [Option.bind_some]
        have hgo : (rightC (t.1.set i (t.1.getD i [] ++ [o]), t.2.1, ()) && (((bestC (t.1.set i (t.1.getD i [] ++ [o]), t.2.1, ())).2.2.2.1 != 0) || (decide ((bestC (t.1.set i (t.1.getD i [] ++ [o]), t.2.1, ())).2.1 > (srch t).2)))) = false := by
          cases hr2 : rightC (t.1.set i (t.1.getD i [] ++ [o]), t.2.1, ()) with
          | false => rfl
          | true =>
            obtain ⟨r1, r2⟩ := wide_le g hy o hr2 hfe
            rw [r1, decide_eq_false (p := (bestC (t.1.set i (t.1.getD i [] ++ [o]), t.2.1, ())).2.1 > (srch t).2) (by omega)]
            rfl
        rw [hgo]
        have h0 : t.1[0]? = some (t.1.getD 0 []) := g.issue (by omega)
        obtain ⟨w1, w2, w3⟩ := g.opt 0 _ h0
        have h00 : (t.1.getD 0 [])[0]? = some (optAt t 0 ((0 : Nat) : Int)) := get_of_lt (by omega) _
        obtain ⟨v1, _⟩ := w3 0 _ h00
        have i0 : idx t.1 0 = some (t.1.getD 0 []) := (idx_nat t.1 0).trans h0
        have i00 : idx (t.1.getD 0 []) 0 = some (optAt t 0 ((0 : Nat) : Int)) := (idx_nat _ 0).trans h00
        simp only [cond_false, i0, i00, Option.bind_some, v1]
        by_cases hs : ((scen t : Int) < 2)
        · rw [decide_eq_true hs]; rfl
        · rw [decide_eq_false hs]
          have hs2 : 2 ≤ scen t := by omega
          simp only [cond_false]
          rw [short_loop2 g hs2]
          have eS : ((short t).1, t.2.1, ()) = short t := rfl
          rw [eS, m10_eq _ (by rw [short_len]; exact h5)]
          obtain ⟨r1, r2⟩ := best_le (short_right hr hs2) (short_feas hfe) (k := (srch t).2) (by rw [hc]; exact short_floor g hs2 hfe)
          simp only [Option.bind_some, r1, beq_self_eq_true, Bool.true_and, decide_eq_true r2]

end Go.Proofs.Ytemammdmjpdmpaa
