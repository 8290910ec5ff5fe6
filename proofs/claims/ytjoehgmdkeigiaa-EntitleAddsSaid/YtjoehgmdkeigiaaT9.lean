/- Entitle: EntitleOnce, EntitleAdds. -/
import Derived.Test.YtjoehgmdkeigiaaT8
namespace Go.Proofs.Ytjoehgmdkeigiaa
open Go Go.Eng
set_option linter.unusedVariables false
set_option linter.unusedSimpArgs false

theorem ig3 {l : List T36} {j : Nat} (h : j < l.length) (g : Bool) : idxG g (0, 0, ()) l (j : Int) = some (bif g then l[j] else (0, 0, ())) := by
  unfold idxG
  rw [idx_nat, List.getElem?_eq_getElem h]
  cases g <;> rfl

/-- What holds of what is paid. -/
structure Pd (S : List T36) (p : List Int) : Prop where
  right : Right S
  few : S.length ≤ 10
  len : p.length = S.length
  zero : ∀ i, i < S.length → ¬ LeafP S i → gI p i = 0
  bnd : ∀ i, i < S.length → -20000000000000 ≤ gI p i ∧ gI p i ≤ 20000000000000

theorem pd_pay {S : List T36} (hS : S.length ≤ 10) {l : List T45} {u : List Int} (hv : Valid S u) (ho : ∀ t ∈ l, OneP S t) (hl : l.length ≤ 10000) (d : Int) : Pd S (payS d u l) where
  right := hv.1
  few := hS
  len := (payS_len _ _ _).trans hv.2.1
  zero := fun i hi hlf => by
    rw [payS_get d i hv.2.1 ho]
    have h1 := hv.2.2.1 i hi
    have h2 : ∀ t ∈ l, ds d i t = 0 := fun t ht => by
      have h := ho t ht
      unfold ds
      rw [if_neg (fun e => hlf (by rw [← e]; exact h.1.2)), if_neg (fun e => hlf (by rw [← e]; exact h.2.1.2))]
      rfl
    have h3 : (l.map (ds d i)).sum = 0 := by
      have := sum_b (B := 0) (f := ds d i) (l := l) (fun t ht => by rw [h2 t ht]; omega)
      omega
    have h4 : ¬ 0 < gI u i := fun h => hlf (h1.2.2 h)
    have := h1.1
    omega
  bnd := fun i hi => payS_b2 hv ho hl d hi

theorem Pd.sm {S : List T36} {p : List Int} (h : Pd S p) : Sm (sh (gI p) S.length) := sm_sh (by have := h.few; omega) (fun i hi => by have := h.bnd i hi; omega)

theorem Pd.th {S : List T36} {p : List Int} (h : Pd S p) {s : Nat} (hs : s < S.length) : thS S (sh (gI p) S.length) (s : Int) = has S p s := by
  unfold thS
  rw [if_pos ⟨h.right, by unfold In; omega⟩, Int.toNat_natCast, thr_has]

theorem Pd.hb {S : List T36} {p : List Int} (h : Pd S p) (s : Nat) : -200000000000000 ≤ has S p s ∧ has S p s ≤ 200000000000000 := by
  have h1 := sumN_b (B := 20000000000000) (f := fun i => if below S i s = true then gI p i else 0) (n := S.length) (fun i hi => by
    have := h.bnd i hi
    split <;> omega)
  have := h.few
  unfold has
  omega

theorem Pd.leaf {S : List T36} {p : List Int} (h : Pd S p) {s : Nat} (hs : s < S.length) (hl : LeafP S s) : has S p s = gI p s := by
  rw [has_eq h.right.up p hs, sumN_none (fun c hc => if_neg (hl c hc))]
  omega

theorem roots_sum' {S : List T36} {u : List Int} (hr : Right S) : sumN (fun i => if P S i < 0 then has S u i else 0) S.length = sumN (gI u) S.length := by
  have h1 : sumN (has S u) S.length = sumN (gI u) S.length + sumN (fun j => sumN (fun c => if P S c = j then has S u c else 0) S.length) S.length := by
    rw [← sumN_add]
    exact sumN_congr (fun j hj => has_eq hr.up u hj)
  rw [sumN_swap] at h1
  have h2 : sumN (fun c => sumN (fun j : Nat => if P S c = (j : Int) then has S u c else 0) S.length) S.length = sumN (fun c => if 0 ≤ P S c then has S u c else 0) S.length := by
    apply sumN_congr
    intro c hc
    have hP := hr.up c hc
    by_cases h : 0 ≤ P S c
    · rw [if_pos h, sumN_one (k := (P S c).toNat) (by omega) (fun j hj hne => if_neg (by omega)), if_pos (by omega)]
    · rw [if_neg h, sumN_none (fun j hj => if_neg (by omega))]
  rw [h2] at h1
  have h3 : sumN (has S u) S.length = sumN (fun c => if 0 ≤ P S c then has S u c else 0) S.length + sumN (fun i => if P S i < 0 then has S u i else 0) S.length := by
    rw [← sumN_add]
    apply sumN_congr
    intro c hc
    by_cases h : 0 ≤ P S c
    · rw [if_pos h, if_neg (by omega)]; omega
    · rw [if_neg h, if_pos (by omega)]; omega
  omega

theorem sum_pay {S : List T36} {l : List T45} (d : Int) : ∀ {u : List Int}, u.length = S.length → (∀ t ∈ l, OneP S t) → sumN (gI (payS d u l)) S.length = sumN (gI u) S.length := by
  induction l with
  | nil => intro u _ _; rfl
  | cons t l ih =>
    intro u hl ho
    have h1 := ho t (by simp)
    have a := h1.1.1
    have b := h1.2.1.1
    unfold In at a b
    show sumN (gI (payS d (mvU u t.2.1.toNat t.2.2.1.toNat (- psd d t)) l)) S.length = _
    rw [ih ((mvU_len _ _ _ _).trans hl) (fun x hx => ho x (List.mem_cons_of_mem _ hx)), sum_mv (by omega) (by omega) hl]

theorem l4_1_eq {R : Type} {S : List T36} {u : List Int} (hv : Valid S u) (k : Int → Option R) : ∀ (m n j : Nat), j + m = S.length → m < n → l4_1 u k n (sumN (gI u) j) j = k (sumN (gI u) S.length) := by
  intro m
  have hL := hv.1.1
  have hul := hv.2.1
  induction m with
  | zero =>
    intro n j hj hn
    obtain ⟨n, rfl⟩ : ∃ m, n = m + 1 := ⟨n - 1, by omega⟩
    unfold l4_1 s4_1
    rw [bifF (decide_eq_false (by omega)), show j = S.length by omega]
  | succ m ih =>
    intro n j hj hn
    obtain ⟨n, rfl⟩ : ∃ m, n = m + 1 := ⟨n - 1, by omega⟩
    have h1 := sumU_b hv (show j ≤ S.length by omega)
    have h2 := hv.nn (show j < S.length by omega)
    have e := ih n (j + 1) (by omega) (by omega)
    unfold l4_1 s4_1
    rw [bifT (decide_eq_true (by omega)), idx_nat, gI_get (by omega)]
    simp only [Option.bind_some]
    rw [wrapI (x := (j : Int) + 1) (by omega) (by omega), wrapI (by omega) (by omega)]
    exact e

theorem l4_2_eq {R : Type} {S : List T36} {p : List Int} (hp : Pd S p) (k1 : Int → Option R) (k2 : Option R) (l : List T36) (hl : l = sh (gI p) S.length) : ∀ (m n j : Nat), j + m = l.length → m < n →
    l4_2 S l k1 k2 n (ssum (l.take j)) j = k1 (ssum l) := by
  intro m
  have hsm : Sm l := hl ▸ hp.sm
  have hlen := hsm.1
  have hfew := hp.few
  induction m with
  | zero =>
    intro n j hj hn
    obtain ⟨n, rfl⟩ : ∃ m, n = m + 1 := ⟨n - 1, by omega⟩
    unfold l4_2 s4_2
    rw [bifF (decide_eq_false (by omega)), List.take_of_length_le (by omega)]
  | succ m ih =>
    intro n j hj hn
    obtain ⟨n, rfl⟩ : ∃ m, n = m + 1 := ⟨n - 1, by omega⟩
    have hlt : j < l.length := by omega
    have hb := ssum_b (hsm.take j)
    have hv := hsm.2 l[j] (List.getElem_mem hlt)
    have e := ih n (j + 1) (by omega) (by omega)
    rw [ssum_take hlt] at e
    have hmem : l[j] ∈ sh (gI p) S.length := by rw [← hl]; exact List.getElem_mem hlt
    obtain ⟨i, hi, hne, ex⟩ := sh_mem hmem
    have e1 : l[j].1 = (i : Int) := by rw [ex]
    have e2 : l[j].2.1 = gI p i := by rw [ex]
    have hlf : LeafP S (i : Int) := Classical.byContradiction fun h => hne (hp.zero i hi h)
    have h18 : m18 S (i : Int) = some true := by
      rw [m18_eq S (by omega)]
      exact congrArg some (decide_eq_true ⟨hp.right, by unfold In; omega, hlf⟩)
    unfold l4_2 s4_2
    rw [bifT (decide_eq_true (by omega)), idx_nat, List.getElem?_eq_getElem hlt]
    simp only [Option.bind_some, ig3 hlt]
    rw [e2] at hv e
    rw [e2, beq_eq_false_iff_ne.2 hne]
    simp only [beq_self_eq_true, cond_true, e1, h18, Option.bind_some, Bool.not_true, Bool.or_self, Bool.false_or, Bool.true_and]
    rw [wrapI (x := (j : Int) + 1) (by omega) (by omega), wrapI (x := ssum (l.take j) + gI p i) (by omega) (by omega)]
    by_cases hj0 : j = 0
    · subst hj0
      rw [decide_eq_false (show ¬ ((0 : Nat) : Int) > 0 by omega)]
      simp only [show ((false : Bool) == true) = false from rfl, idxG, cond_false, Option.bind_some, Bool.false_and]
      exact e
    · rw [decide_eq_true (show (j : Int) > 0 by omega), wrapI (x := (j : Int) - 1) (by omega) (by omega), bifF (decide_eq_false (show ¬ (0 : Int) > (j : Int) - 1 by omega)),
        show (j : Int) - 1 = ((j - 1 : Nat) : Int) by omega]
      simp only [ig3 (show j - 1 < l.length by omega), beq_self_eq_true, cond_true, Option.bind_some, Bool.true_and, e1]
      have hso : l[j - 1].1 < l[j].1 := by
        have := sh_sorted (gI p) S.length
        rw [← hl] at this
        exact List.pairwise_iff_getElem.1 this (j - 1) j (by omega) hlt (by omega)
      rw [bifF (decide_eq_false (by omega))]
      exact e

theorem l4_3_eq {R : Type} {S : List T36} {p : List Int} (hp : Pd S p) {s : Nat} (hs : s < S.length) (k : Int → Bool → Option R) : ∀ (m n j : Nat) (b : Bool), j + m = S.length → m < n → (b = true ↔ ∀ c, c < j → P S c ≠ s) →
    l4_3 S (sh (gI p) S.length) (s : Int) k n (sumN (fun c => if P S c = s then has S p c else 0) j) b j =
      k (sumN (fun c => if P S c = s then has S p c else 0) S.length) (decide (LeafP S s)) := by
  intro m
  have hfew := hp.few
  induction m with
  | zero =>
    intro n j b hj hn hb0
    obtain ⟨n, rfl⟩ : ∃ m, n = m + 1 := ⟨n - 1, by omega⟩
    unfold l4_3 s4_3
    rw [bifF (decide_eq_false (by omega)), show j = S.length by omega]
    congr 1
    rw [show j = S.length by omega] at hb0
    rw [Bool.eq_iff_iff, hb0, decide_eq_true_iff]
    rfl
  | succ m ih =>
    intro n j b hj hn hb0
    obtain ⟨n, rfl⟩ : ∃ m, n = m + 1 := ⟨n - 1, by omega⟩
    have hlt : j < S.length := by omega
    have e := fun b => ih n (j + 1) b (by omega) (by omega)
    have hb := hp.hb j
    have hb2 := sumN_b (B := 200000000000000) (f := fun c => if P S c = s then has S p c else 0) (n := j) (fun i hi => by
      have := hp.hb i
      split <;> omega)
    simp only [sumN] at e
    unfold l4_3 s4_3
    rw [bifT (decide_eq_true (by omega)), seat_idx hlt]
    simp only [cont, Option.bind_some, m16_eq S hp.sm, hp.th hlt]
    rw [wrapI (x := (j : Int) + 1) (by omega) (by omega)]
    by_cases hP : P S j = s
    · have e := e false ⟨fun h => (by cases h), fun h => absurd hP (h j (by omega))⟩
      rw [if_pos hP] at e
      rw [bifT (show ((seat S j).1 == (s : Int)) = true from beq_iff_eq.2 hP), wrapI (by omega) (by omega)]
      exact e
    · have e := e b
      rw [if_neg hP, Int.add_zero] at e
      rw [bifF (show ((seat S j).1 == (s : Int)) = false from beq_eq_false_iff_ne.2 hP)]
      have : (∀ c, c < j + 1 → P S c ≠ s) ↔ (∀ c, c < j → P S c ≠ s) := ⟨fun h c hc => h c (by omega), fun h c hc => by
        by_cases e : c = j
        · subst e; exact hP
        · exact h c (by omega)⟩
      exact e (hb0.trans this.symm)

theorem l4_4_eq {R : Type} {S : List T36} {p : List Int} (hp : Pd S p) (k1 : Int → Option R) (k2 : Option R) : ∀ (m n j : Nat), j + m = S.length → m < n →
    l4_4 S (sh (gI p) S.length) k1 k2 n (sumN (fun i => if P S i < 0 then has S p i else 0) j) j = k1 (sumN (gI p) S.length) := by
  intro m
  have hfew := hp.few
  induction m with
  | zero =>
    intro n j hj hn
    obtain ⟨n, rfl⟩ : ∃ m, n = m + 1 := ⟨n - 1, by omega⟩
    unfold l4_4 s4_4
    rw [bifF (decide_eq_false (by omega)), show j = S.length by omega, roots_sum' hp.right]
  | succ m ih =>
    intro n j hj hn
    obtain ⟨n, rfl⟩ : ∃ m, n = m + 1 := ⟨n - 1, by omega⟩
    have hlt : j < S.length := by omega
    have e := ih n (j + 1) (by omega) (by omega)
    have hb := hp.hb j
    have hb2 := sumN_b (B := 200000000000000) (f := fun i => if P S i < 0 then has S p i else 0) (n := j) (fun i hi => by
      have := hp.hb i
      split <;> omega)
    simp only [sumN] at e
    have hh := has_eq hp.right.up p hlt
    have fin : ∀ y15 : Int, y15 = sumN (fun i => if P S i < 0 then has S p i else 0) j + (if P S j < 0 then has S p j else 0) →
        (l4_3 S (sh (gI p) S.length) (j : Int) (fun y19 y20 => bif ((!y20) && (y19 != has S p j)) then k2 else l4_4 S (sh (gI p) S.length) k1 k2 n y15 (IntKind.i64.wrap ((j : Int) + 1))) FUEL 0 true 0) = k1 (sumN (gI p) S.length) := by
      intro y hy
      have e3 := l4_3_eq hp hlt (fun y19 y20 => bif ((!y20) && (y19 != has S p j)) then k2 else l4_4 S (sh (gI p) S.length) k1 k2 n y (IntKind.i64.wrap ((j : Int) + 1))) S.length FUEL 0 true (by omega) (fuel_lt (by omega)) ⟨fun _ c hc => by omega, fun _ => rfl⟩
      refine Eq.trans e3 ?_
      rw [wrapI (x := (j : Int) + 1) (by omega) (by omega), bifF]
      · rw [hy]; exact e
      · by_cases hlf : LeafP S j
        · rw [decide_eq_true hlf]; rfl
        · rw [hp.zero j hlt hlf, Int.zero_add] at hh
          rw [← hh, bne_same]; simp
    unfold l4_4 s4_4
    rw [bifT (decide_eq_true (by omega)), m16_eq S hp.sm, hp.th hlt]
    simp only [cont, Option.bind_some, seat_idx hlt]
    by_cases hP : P S j < 0
    · rw [bifT (show decide ((seat S j).1 < 0) = true from decide_eq_true hP), wrapI (x := _ + has S p j) (by omega) (by omega)]
      exact fin _ (by rw [if_pos hP])
    · rw [bifF (show decide ((seat S j).1 < 0) = false from decide_eq_false hP)]
      exact fin _ (by rw [if_neg hP, Int.add_zero])

theorem entitleOnce (S : List T36) (u : List Int) (l : List T45) (d : Int) : m4 S u l d = some true := by
  unfold m4
  rw [small8, few8]
  simp only [Option.bind_some]
  by_cases h : S.length ≤ 10 ∧ u.length ≤ 10 ∧ l.length ≤ 12
  case neg => rw [decide_eq_false h]; rfl
  rw [decide_eq_true h]
  simp only [Bool.not_true, cond_false, m11_eq, Option.bind_some]
  by_cases hv : Valid S u ∧ RightT S l ∧ Day d
  · have e0 : paidS S u l d = (sh (gI (payS d u l)) S.length, 0, ()) := if_pos hv
    rw [e0]
    simp only [bne_same, cond_false]
    obtain ⟨hv, hr, hd⟩ := hv
    have hp := pd_pay h.1 hv hr.2.2 hr.2.1 d
    refine Eq.trans (l4_1_eq hv _ S.length FUEL 0 (by omega) (fuel_lt (by omega))) ?_
    refine Eq.trans (l4_2_eq hp _ _ _ rfl (sh (gI (payS d u l)) S.length).length FUEL 0 (by omega) (fuel_lt (by have := hp.sm.1; omega))) ?_
    refine Eq.trans (l4_4_eq hp _ _ S.length FUEL 0 (by omega) (fuel_lt (by omega))) ?_
    rw [ssum_sh, sum_pay d hv.2.1 hr.2.2]
    simp
  · have e0 : paidS S u l d = ([], 1, ()) := if_neg hv
    rw [e0]
    rfl

/-! A further trade. -/

theorem l6_eq {R : Type} {S : List T36} {p q : List Int} (hp : Pd S p) (hq : Pd S q) (d : Int) (t : T45) (ht : OneP S t) (ho : t.2.2.2.2.2.2.1 = -1) (hpq : ∀ s, s < S.length → gI q s = gI p s + ds d s t) (k1 k2 : Option R) : ∀ (m n j : Nat), j + m = S.length → m < n →
    l6_1 S d (sh (gI p) S.length) (sh (gI q) S.length) t k1 k2 n j = k1 := by
  intro m
  have hfew := hp.few
  induction m with
  | zero =>
    intro n j hj hn
    obtain ⟨n, rfl⟩ : ∃ m, n = m + 1 := ⟨n - 1, by omega⟩
    unfold l6_1 s6_1
    rw [bifF (decide_eq_false (by omega))]
  | succ m ih =>
    intro n j hj hn
    obtain ⟨n, rfl⟩ : ∃ m, n = m + 1 := ⟨n - 1, by omega⟩
    have hlt : j < S.length := by omega
    have e := ih n (j + 1) (by omega) (by omega)
    unfold l6_1 s6_1
    rw [bifT (decide_eq_true (by omega)), m18_eq S (by omega)]
    simp only [cont, Option.bind_some]
    rw [wrapI (x := (j : Int) + 1) (by omega) (by omega)]
    by_cases hlf : LeafP S j
    · have : leafS S (j : Int) = true := decide_eq_true ⟨hp.right, by unfold In; omega, hlf⟩
      rw [this]
      simp only [Bool.not_true, cond_false, m16_eq S hp.sm, m16_eq S hq.sm, hp.th hlt, hq.th hlt, Option.bind_some, hp.leaf hlt hlf, hq.leaf hlt hlf, hpq j hlt]
      have hb := hp.bnd j hlt
      have hu := ht.2.2.1
      have w1 : IntKind.i64.wrap (gI p j - t.2.2.2.1) = gI p j - t.2.2.2.1 := wrapI (by omega) (by omega)
      have w2 : IntKind.i64.wrap (gI p j + t.2.2.2.1) = gI p j + t.2.2.2.1 := wrapI (by omega) (by omega)
      rw [w1, w2]
      unfold ds psd
      rw [ho]
      by_cases c : t.1 = 0 ∧ t.2.2.2.2.2.1 ≤ d
      · rw [if_pos (show t.1 = 0 ∧ t.2.2.2.2.2.1 ≤ d ∧ ¬ ((0 : Int) ≤ -1 ∧ (-1 : Int) ≤ d) by omega), bifT (by rw [beq_iff_eq.2 c.1, decide_eq_true c.2]; rfl)]
        by_cases f1 : t.2.1 = (j : Int) <;> by_cases f2 : t.2.2.1 = (j : Int)
        · omega
        · rw [if_pos f1, if_neg f2, bifT (beq_iff_eq.2 f1), bifF (beq_eq_false_iff_ne.2 f2), bifF]
          · exact e
          · rw [show gI p j + (-t.2.2.2.1 - 0) = gI p j - t.2.2.2.1 by omega]; exact bne_same _
        · rw [if_neg f1, if_pos f2, bifF (beq_eq_false_iff_ne.2 f1), bifT (beq_iff_eq.2 f2), bifF]
          · exact e
          · rw [show gI p j + (0 - -t.2.2.2.1) = gI p j + t.2.2.2.1 by omega]; exact bne_same _
        · rw [if_neg f1, if_neg f2, bifF (beq_eq_false_iff_ne.2 f1), bifF (beq_eq_false_iff_ne.2 f2), bifF]
          · exact e
          · rw [show gI p j + (0 - 0) = gI p j by omega]; exact bne_same _
      · rw [if_neg (show ¬ (t.1 = 0 ∧ t.2.2.2.2.2.1 ≤ d ∧ ¬ ((0 : Int) ≤ -1 ∧ (-1 : Int) ≤ d)) from fun h => c ⟨h.1, h.2.1⟩), if_neg (show ¬ (t.1 = 1 ∧ ((0 : Int) ≤ -1 ∧ (-1 : Int) ≤ d) ∧ d < t.2.2.2.2.2.2.2.1) by omega), bifF]
        · rw [bifF]
          · exact e
          · simp
        · by_cases c1 : t.1 = 0
          · rw [beq_iff_eq.2 c1, decide_eq_false (fun h => c ⟨c1, h⟩)]; rfl
          · rw [beq_eq_false_iff_ne.2 c1]; rfl
    · have : leafS S (j : Int) = false := decide_eq_false (fun h => hlf h.2.2)
      rw [this]
      exact e

theorem entitleAdds (S : List T36) (u : List Int) (l : List T45) (t : T45) (d : Int) : m6 S u l t d = some true := by
  unfold m6
  rw [small8, few8]
  simp only [Option.bind_some]
  by_cases h : (S.length ≤ 10 ∧ u.length ≤ 10 ∧ l.length ≤ 12) ∧ l.length ≤ 11
  case neg =>
    rw [bifT]
    by_cases h1 : S.length ≤ 10 ∧ u.length ≤ 10 ∧ l.length ≤ 12
    · have : ¬ l.length ≤ 11 := fun x => h ⟨h1, x⟩
      rw [decide_eq_true h1, decide_eq_true (show (l.length : Int) > 11 by omega)]; rfl
    · rw [decide_eq_false h1]; rfl
  rw [bifF (by rw [decide_eq_true h.1, decide_eq_false (show ¬ (l.length : Int) > 11 by omega)]; rfl), m21_eq]
  simp only [Option.bind_some]
  by_cases ha : RightT S l ∧ OneP S t ∧ t.2.2.2.2.2.2.1 = -1
  case neg =>
    have e0 : addS S l t = ([], 1, ()) := if_neg ha
    rw [e0]; rfl
  have e0 : addS S l t = (l ++ [t], 0, ()) := by unfold addS; rw [if_pos ha, if_pos (by omega)]
  rw [e0]
  simp only [bne_same, cond_false, m11_eq, Option.bind_some]
  obtain ⟨hr, h1, hd1⟩ := ha
  have hr2 : RightT S (l ++ [t]) := ⟨hr.1, by simp; omega, fun x hx => by
    rcases List.mem_append.1 hx with hx | hx
    · exact hr.2.2 x hx
    · rw [List.mem_singleton.1 hx]; exact h1⟩
  by_cases hv : Valid S u ∧ Day d
  · have e1 : paidS S u l d = (sh (gI (payS d u l)) S.length, 0, ()) := if_pos ⟨hv.1, hr, hv.2⟩
    have e2 : paidS S u (l ++ [t]) d = (sh (gI (payS d u (l ++ [t]))) S.length, 0, ()) := if_pos ⟨hv.1, hr2, hv.2⟩
    rw [e1, e2]
    simp only [bne_same, cond_false]
    refine l6_eq (pd_pay h.1.1 hv.1 hr.2.2 hr.2.1 d) (pd_pay h.1.1 hv.1 hr2.2.2 hr2.2.1 d) d t h1 hd1 (fun s hs => ?_) (some true) (some false) S.length FUEL 0 (by omega) (fuel_lt (by omega))
    rw [payS_get d s hv.1.2.1 hr2.2.2, payS_get d s hv.1.2.1 hr.2.2, List.map_append, List.sum_append]
    simp
    omega
  · have e1 : paidS S u l d = ([], 1, ()) := if_neg (fun x => hv ⟨x.1, x.2.2⟩)
    have e2 : paidS S u (l ++ [t]) d = ([], 1, ()) := if_neg (fun x => hv ⟨x.1, x.2.2⟩)
    rw [e1, e2]
    rfl

end Go.Proofs.Ytjoehgmdkeigiaa
