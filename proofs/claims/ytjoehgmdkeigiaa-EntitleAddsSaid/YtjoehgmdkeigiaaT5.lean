/- Entitle: what is paid, who votes. -/
import Derived.Test.YtjoehgmdkeigiaaT4
namespace Go.Proofs.Ytjoehgmdkeigiaa
open Go Go.Eng
set_option linter.unusedVariables false
set_option linter.unusedSimpArgs false

/-- The shares of a function that are not zero. -/
def sh (f : Nat → Int) (n : Nat) : List T36 := ((List.range n).filter fun i => f i != 0).map fun i : Nat => ((i : Int), f i, ())

theorem sh_succ (f : Nat → Int) (n : Nat) : sh f (n + 1) = if f n = 0 then sh f n else sh f n ++ [((n : Int), f n, ())] := by
  unfold sh
  rw [List.range_succ, List.filter_append]
  by_cases h : f n = 0
  · rw [if_pos h]; simp [h]
  · rw [if_neg h]; simp [h]

theorem sh_len (f : Nat → Int) (n : Nat) : (sh f n).length ≤ n := by
  unfold sh
  rw [List.length_map]
  exact Nat.le_trans (List.length_filter_le _ _) (by simp)

theorem sh_congr {f g : Nat → Int} {n : Nat} (h : ∀ i, i < n → f i = g i) : sh f n = sh g n := by
  induction n with
  | zero => rfl
  | succ n ih => rw [sh_succ, sh_succ, ih (fun i hi => h i (by omega)), h n (by omega)]

theorem sh_mem {f : Nat → Int} {n : Nat} {x : T36} (h : x ∈ sh f n) : ∃ i, i < n ∧ f i ≠ 0 ∧ x = ((i : Int), f i, ()) := by
  unfold sh at h
  obtain ⟨i, hi, rfl⟩ := List.mem_map.1 h
  obtain ⟨h1, h2⟩ := List.mem_filter.1 hi
  exact ⟨i, List.mem_range.1 h1, by simpa using h2, rfl⟩

theorem sh_pre (f : Nat → Int) {j n : Nat} (h : j ≤ n) : ∃ r, sh f n = sh f j ++ r := by
  induction n with
  | zero => exact ⟨[], by rw [show j = 0 by omega]; simp⟩
  | succ n ih =>
    by_cases e : j = n + 1
    · subst e; exact ⟨[], by simp⟩
    · obtain ⟨r, hr⟩ := ih (by omega)
      rw [sh_succ]
      split
      · exact ⟨r, hr⟩
      · exact ⟨r ++ [((n : Int), f n, ())], by rw [hr, List.append_assoc]⟩

theorem sh_at {f : Nat → Int} {j n : Nat} (h : j < n) (hf : f j ≠ 0) : (sh f j).length < (sh f n).length ∧ (sh f n)[(sh f j).length]? = some ((j : Int), f j, ()) := by
  obtain ⟨r, hr⟩ := sh_pre f (show j + 1 ≤ n from h)
  rw [sh_succ, if_neg hf] at hr
  rw [hr]
  constructor
  · simp only [List.length_append, List.length_singleton]; omega
  · rw [List.append_assoc, List.getElem?_append_right (by omega)]; simp

theorem sh_sorted (f : Nat → Int) (n : Nat) : (sh f n).Pairwise (fun a b => a.1 < b.1) := by
  unfold sh
  refine List.Pairwise.map _ (R := fun a b : Nat => a < b) ?_ ?_
  · intro a b h; show (a : Int) < b; omega
  · exact List.Pairwise.filter _ List.pairwise_lt_range

/-- How many units the seat From of a trade is paid for more. -/
def psd (d : Int) (t : T45) : Int :=
  if t.1 = 0 ∧ t.2.2.2.2.2.1 ≤ d ∧ ¬ (0 ≤ t.2.2.2.2.2.2.1 ∧ t.2.2.2.2.2.2.1 ≤ d) then - t.2.2.2.1
  else if t.1 = 1 ∧ (0 ≤ t.2.2.2.2.2.2.1 ∧ t.2.2.2.2.2.2.1 ≤ d) ∧ d < t.2.2.2.2.2.2.2.1 then t.2.2.2.1 else 0

theorem psd_b {S : List T36} {t : T45} (h : OneP S t) (d : Int) : -1000000000 ≤ psd d t ∧ psd d t ≤ 1000000000 := by
  have := h.2.2.1
  unfold psd
  split
  · omega
  · split <;> omega

theorem m30_eq {S : List T36} {t : T45} (h : OneP S t) (d : Int) : m30 t d = some (psd d t) := by
  have hu := h.2.2.1
  unfold m30 psd
  rw [wrapI (x := 0 - t.2.2.2.1) (by omega) (by omega)]
  by_cases c1 : t.1 = 0 ∧ t.2.2.2.2.2.1 ≤ d ∧ ¬ (0 ≤ t.2.2.2.2.2.2.1 ∧ t.2.2.2.2.2.2.1 ≤ d)
  · rw [if_pos c1, bifT]
    · congr 1; omega
    · obtain ⟨a, b, c⟩ := c1
      simp only [Bool.and_eq_true, beq_iff_eq, decide_eq_true_eq, Bool.not_eq_true', Bool.and_eq_false_iff, decide_eq_false_iff_not, ge_iff_le]
      refine ⟨⟨a, b⟩, ?_⟩
      omega
  · rw [if_neg c1, bifF]
    · by_cases c2 : t.1 = 1 ∧ (0 ≤ t.2.2.2.2.2.2.1 ∧ t.2.2.2.2.2.2.1 ≤ d) ∧ d < t.2.2.2.2.2.2.2.1
      · rw [if_pos c2, bifT]
        obtain ⟨a, b, c⟩ := c2
        simp only [Bool.and_eq_true, beq_iff_eq, decide_eq_true_eq, ge_iff_le, gt_iff_lt]
        exact ⟨⟨a, b⟩, c⟩
      · rw [if_neg c2, bifF]
        cases hb : ((t.1 == 1) && (decide (t.2.2.2.2.2.2.1 ≥ 0) && decide (t.2.2.2.2.2.2.1 ≤ d)) && decide (t.2.2.2.2.2.2.2.1 > d)) with
        | false => rfl
        | true =>
          simp only [Bool.and_eq_true, beq_iff_eq, decide_eq_true_eq, ge_iff_le, gt_iff_lt] at hb
          exact absurd ⟨hb.1.1, hb.1.2, hb.2⟩ c2
    · cases hb : (((t.1 == 0) && decide (t.2.2.2.2.2.1 ≤ d)) && !((decide (t.2.2.2.2.2.2.1 ≥ 0)) && decide (t.2.2.2.2.2.2.1 ≤ d))) with
      | false => rfl
      | true =>
        simp only [Bool.and_eq_true, beq_iff_eq, decide_eq_true_eq, Bool.not_eq_true', Bool.and_eq_false_iff, decide_eq_false_iff_not, ge_iff_le] at hb
        exact absurd ⟨hb.1.1, hb.1.2, fun h => by omega⟩ c1

/-- What is paid, seat by seat. -/
def payS (d : Int) (u : List Int) (l : List T45) : List Int := l.foldl (fun u t => mvU u t.2.1.toNat t.2.2.1.toNat (- psd d t)) u

theorem payS_app (d : Int) (u : List Int) (l : List T45) (t : T45) : payS d u (l ++ [t]) = mvU (payS d u l) t.2.1.toNat t.2.2.1.toNat (- psd d t) := by
  unfold payS; rw [List.foldl_append]; rfl

theorem payS_len (d : Int) (l : List T45) : ∀ u : List Int, (payS d u l).length = u.length := by
  induction l with
  | nil => intro u; rfl
  | cons t l ih => intro u; exact (ih _).trans (mvU_len _ _ _ _)

/-- What a trade changes for a seat. -/
def ds (d : Int) (s : Nat) (t : T45) : Int := (if t.2.1 = s then psd d t else 0) - (if t.2.2.1 = s then psd d t else 0)

theorem ds_b {S : List T36} {t : T45} (h : OneP S t) (d : Int) (s : Nat) : -1000000000 ≤ ds d s t ∧ ds d s t ≤ 1000000000 := by
  have h1 := psd_b h d
  have h2 := h.2.2.1.1
  unfold ds
  split
  · rw [if_neg (by omega)]; omega
  · split <;> omega

theorem payS_get {S : List T36} {l : List T45} (d : Int) (s : Nat) : ∀ {u : List Int}, u.length = S.length → (∀ t ∈ l, OneP S t) → gI (payS d u l) s = gI u s + (l.map (ds d s)).sum := by
  induction l with
  | nil => intro u _ _; simp [payS]
  | cons t l ih =>
    intro u hl ho
    have h1 := ho t (by simp)
    have a := h1.1.1
    have b := h1.2.1.1
    have hm : (mvU u t.2.1.toNat t.2.2.1.toNat (- psd d t)).length = S.length := (mvU_len _ _ _ _).trans hl
    have e := ih hm (fun x hx => ho x (List.mem_cons_of_mem _ hx))
    show gI (payS d (mvU u t.2.1.toNat t.2.2.1.toNat (- psd d t)) l) s = _
    unfold In at a b
    rw [e, mvU_get (by omega) (by omega), List.map_cons, List.sum_cons]
    have e1 : (s = t.2.1.toNat) ↔ (t.2.1 = (s : Int)) := by omega
    have e2 : (s = t.2.2.1.toNat) ↔ (t.2.2.1 = (s : Int)) := by omega
    unfold ds
    simp only [e1, e2]
    split <;> split <;> omega

theorem sum_b {f : T45 → Int} {B : Int} : ∀ {l : List T45}, (∀ t ∈ l, -B ≤ f t ∧ f t ≤ B) → -(B * l.length) ≤ (l.map f).sum ∧ (l.map f).sum ≤ B * l.length
  | [], _ => by simp
  | t :: l, h => by
    have h1 := h t (by simp)
    have h2 := sum_b (l := l) (fun x hx => h x (List.mem_cons_of_mem _ hx))
    rw [List.map_cons, List.sum_cons, List.length_cons, Int.natCast_add, Int.mul_add]
    omega

theorem payS_b {S : List T36} {l : List T45} {u : List Int} (hv : Valid S u) (ho : ∀ t ∈ l, OneP S t) (hl : l.length ≤ 10000) (d : Int) {s : Nat} (hs : s < S.length) :
    -10001000000000 ≤ gI (payS d u l) s ∧ gI (payS d u l) s ≤ 10001000000000 := by
  have h1 := hv.nn hs
  have h2 := sum_b (B := 1000000000) (f := ds d s) (l := l) (fun t ht => ds_b (ho t ht) d s)
  rw [payS_get d s hv.2.1 ho]
  omega

/-- The code's loop over trades. -/
theorem l11_1_eq {R : Type} {S : List T36} {u : List Int} (hv : Valid S u) {l : List T45} (ho : ∀ t ∈ l, OneP S t) (hl : l.length ≤ 10000) (d : Int) (k : List Int → Option R) : ∀ (m n j : Nat), j + m = l.length → m < n →
    l11_1 d l (List.length l : Int) k n j (payS d u (l.take j)) = k (payS d u l) := by
  intro m
  induction m with
  | zero =>
    intro n j hj hn
    obtain ⟨n, rfl⟩ : ∃ m, n = m + 1 := ⟨n - 1, by omega⟩
    unfold l11_1 s11_1
    rw [bifF (decide_eq_false (by omega)), List.take_of_length_le (by omega)]
  | succ m ih =>
    intro n j hj hn
    obtain ⟨n, rfl⟩ : ∃ m, n = m + 1 := ⟨n - 1, by omega⟩
    have hlt : j < l.length := by omega
    have h1 := ho l[j] (List.getElem_mem hlt)
    have hot : ∀ t ∈ l.take j, OneP S t := fun t ht => ho t (List.mem_of_mem_take ht)
    have hlt2 : (l.take j).length ≤ 10000 := by rw [List.length_take]; omega
    obtain ⟨a0, a1⟩ := h1.1.1
    obtain ⟨b0, b1⟩ := h1.2.1.1
    have hul := hv.2.1
    have hpl : (payS d u (l.take j)).length = S.length := (payS_len _ _ _).trans hul
    unfold l11_1 s11_1
    rw [bifT (decide_eq_true (by omega)), idx_nat, List.getElem?_eq_getElem hlt]
    simp only [Option.bind_some, m30_eq h1, List.length_set, hpl]
    rw [asrtP (fun _ => by simp only [Bool.and_eq_true, decide_eq_true_eq]; omega), gI_get (show l[j].2.1.toNat < _ by omega)]
    simp only [Option.bind_some]
    rw [asrtP (fun _ => by simp only [Bool.and_eq_true, decide_eq_true_eq]; omega), asrtP (fun _ => by simp only [Bool.and_eq_true, decide_eq_true_eq]; omega)]
    have p1 := psd_b h1 d
    have q1 := payS_b hv hot hlt2 d (s := l[j].2.1.toNat) (by omega)
    rw [wrapI (x := _ + psd d l[j]) (by omega) (by omega)]
    have q2 := payS_b hv hot hlt2 d (s := l[j].2.2.1.toNat) (by omega)
    have q3 : -20000000000000 ≤ gI ((payS d u (l.take j)).set l[j].2.1.toNat (gI (payS d u (l.take j)) l[j].2.1.toNat + psd d l[j])) l[j].2.2.1.toNat ∧ gI ((payS d u (l.take j)).set l[j].2.1.toNat (gI (payS d u (l.take j)) l[j].2.1.toNat + psd d l[j])) l[j].2.2.1.toNat ≤ 20000000000000 := by
      rw [gI_set (by omega)]
      split <;> omega
    rw [gI_get (show l[j].2.2.1.toNat < _ by rw [List.length_set]; omega)]
    simp only [Option.bind_some]
    rw [asrtP (fun _ => by simp only [Bool.and_eq_true, decide_eq_true_eq]; omega), wrapI (x := _ - psd d l[j]) (by omega) (by omega), wrapI (x := (j : Int) + 1) (by omega) (by omega)]
    have e : payS d u (l.take (j + 1)) = (List.set (List.set (payS d u (l.take j)) l[j].2.1.toNat (gI (payS d u (l.take j)) l[j].2.1.toNat + psd d l[j])) l[j].2.2.1.toNat
        (gI ((payS d u (l.take j)).set l[j].2.1.toNat (gI (payS d u (l.take j)) l[j].2.1.toNat + psd d l[j])) l[j].2.2.1.toNat - psd d l[j])) := by
      rw [List.take_succ_eq_append_getElem hlt, payS_app]
      unfold mvU
      rw [Int.sub_neg, ← Int.sub_eq_add_neg]
    rw [← e]
    exact ih n (j + 1) (by omega) (by omega)

theorem l11_2_eq {R : Type} (p : List Int) (hp : p.length ≤ 20000) (k : List T36 → Option R) : ∀ (m n j : Nat), j + m = p.length → m < n →
    l11_2 (List.length p : Int) p k n j (sh (gI p) j) = k (sh (gI p) p.length) := by
  intro m
  induction m with
  | zero =>
    intro n j hj hn
    obtain ⟨n, rfl⟩ : ∃ m, n = m + 1 := ⟨n - 1, by omega⟩
    unfold l11_2 s11_2
    rw [bifF (decide_eq_false (by omega)), show j = p.length by omega]
  | succ m ih =>
    intro n j hj hn
    obtain ⟨n, rfl⟩ : ∃ m, n = m + 1 := ⟨n - 1, by omega⟩
    have hlt : j < p.length := by omega
    have hs := sh_len (gI p) j
    unfold l11_2 s11_2
    rw [bifT (decide_eq_true (by omega))]
    simp only [cont]
    rw [asrtP (fun _ => by simp only [Bool.and_eq_true, decide_eq_true_eq]; omega), Int.toNat_natCast, gI_get hlt]
    simp only [Option.bind_some]
    rw [wrapI (x := (j : Int) + 1) (by omega) (by omega)]
    have e := ih n (j + 1) (by omega) (by omega)
    rw [sh_succ] at e
    by_cases h : gI p j = 0
    · rw [if_pos h] at e
      rw [bifF (by rw [h]; rfl)]
      exact e
    · rw [if_neg h] at e
      rw [bifT (bne_ne h), asrtP (fun _ => limL (by simp only [List.length_singleton]; omega))]
      exact e

/-- What is paid. -/
def paidS (S : List T36) (u : List Int) (l : List T45) (d : Int) : List T36 × Int × Unit :=
  if Valid S u ∧ RightT S l ∧ Day d then (sh (gI (payS d u l)) S.length, 0, ()) else ([], 1, ())

theorem cnd (S : List T36) (u : List Int) (l : List T45) (d : Int) : ((((!decide (Valid S u)) || (!(decide (Valid S u) && decide (RightT S l)))) || (decide (d < 0))) || (decide (d > 200000))) = !decide (Valid S u ∧ RightT S l ∧ Day d) := by
  unfold Day
  by_cases h1 : Valid S u
  · by_cases h2 : RightT S l
    · rw [Bool.eq_iff_iff]
      simp [h1, h2]
    · simp [h1, h2]
  · simp [h1]

theorem grd {a b : Bool} : (bif ((!a) == false) then some b else some false) = some (a && b) := by cases a <;> rfl

theorem m11_eq (S : List T36) (u : List Int) (l : List T45) (d : Int) : m11 S u l d = some (paidS S u l d) := by
  unfold m11 paidS
  rw [m27_eq S u, m28_eq]
  simp only [Option.bind_some]
  rw [grd]
  simp only [Option.bind_some]
  rw [cnd]
  by_cases h : Valid S u ∧ RightT S l ∧ Day d
  case neg => rw [decide_eq_false h, if_neg h]; rfl
  rw [decide_eq_true h, if_pos h]
  obtain ⟨hv, hr, hd⟩ := h
  have hL := hv.1.1
  simp only [Bool.not_true, cond_false]
  rw [cloneM_eq (by rw [hv.2.1]; omega)]
  simp only [Option.bind_some]
  have e := l11_1_eq hv hr.2.2 hr.2.1 d (fun y10 => l11_2 (List.length y10 : Int) y10 (fun y13 => some ((y13, 0, ()) : List T36 × Int × Unit)) FUEL 0 []) l.length FUEL 0 (by omega) (fuel_lt (by have := hr.2.1; omega))
  refine Eq.trans e ?_
  have hpl : (payS d u l).length = S.length := (payS_len _ _ _).trans hv.2.1
  have e2 := l11_2_eq (payS d u l) (by omega) (fun y13 => some ((y13, 0, ()) : List T36 × Int × Unit)) (payS d u l).length FUEL 0 (by omega) (fuel_lt (by omega))
  refine Eq.trans e2 ?_
  rw [hpl]

end Go.Proofs.Ytjoehgmdkeigiaa
