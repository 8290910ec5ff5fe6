/- Entitle: the reference, votes, what goes through. -/
import Derived.Test.YtjoehgmdkeigiaaT5
namespace Go.Proofs.Ytjoehgmdkeigiaa
open Go Go.Eng
set_option linter.unusedVariables false
set_option linter.unusedSimpArgs false

instance dec3 : DecidableEq T36 := inferInstance

theorem eq3 (x y : T36) : ((x.1 == y.1) && ((x.2.1 == y.2.1) && true)) = decide (x = y) := by
  obtain ⟨a, b, _⟩ := x
  obtain ⟨c, d, _⟩ := y
  rw [Bool.eq_iff_iff]
  simp

theorem l15_eq {R : Type} (a b : List T36) (hl : a.length = b.length) (hL : a.length ≤ 100000) (k1 k2 : Option R) : ∀ (m n j : Nat), j + m = a.length → m < n → a.take j = b.take j →
    l15_1 a b k1 k2 n j = if a = b then k1 else k2 := by
  intro m
  induction m with
  | zero =>
    intro n j hj hn ht
    obtain ⟨n, rfl⟩ : ∃ m, n = m + 1 := ⟨n - 1, by omega⟩
    unfold l15_1 s15_1
    rw [bifF (decide_eq_false (by omega)), if_pos]
    rwa [List.take_of_length_le (by omega), List.take_of_length_le (by omega)] at ht
  | succ m ih =>
    intro n j hj hn ht
    obtain ⟨n, rfl⟩ : ∃ m, n = m + 1 := ⟨n - 1, by omega⟩
    have h1 : j < a.length := by omega
    have h2 : j < b.length := by omega
    unfold l15_1 s15_1
    rw [bifT (decide_eq_true (by omega)), idx_nat, List.getElem?_eq_getElem h1, idx_nat, List.getElem?_eq_getElem h2]
    simp only [Option.bind_some]
    rw [eq3]
    by_cases e : a[j] = b[j]
    · rw [decide_eq_true e, wrapI (x := (j : Int) + 1) (by omega) (by omega)]
      simp only [Bool.not_true, cond_false]
      exact ih n (j + 1) (by omega) (by omega) (by rw [List.take_succ_eq_append_getElem h1, List.take_succ_eq_append_getElem h2, ht, e])
    · rw [decide_eq_false e, if_neg (fun h => e (by subst h; rfl))]
      rfl

theorem m15_eq (a b : List T36) (hL : a.length ≤ 100000) : m15 a b = some (decide (a = b)) := by
  unfold m15
  by_cases hl : a.length = b.length
  · rw [bifF (by rw [hl]; exact bne_same _)]
    refine Eq.trans (l15_eq a b hl hL (some true) (some false) a.length FUEL 0 (by omega) (fuel_lt (by omega)) rfl) ?_
    by_cases h : a = b
    · rw [if_pos h, decide_eq_true h]
    · rw [if_neg h, decide_eq_false h]
  · rw [bifT (bne_ne (by omega)), decide_eq_false (fun h => hl (by rw [h]))]

/-- Few and small shares. -/
def Sm (l : List T36) : Prop := l.length ≤ 12 ∧ ∀ t ∈ l, -1000000000000000 ≤ t.2.1 ∧ t.2.1 ≤ 1000000000000000

theorem l10_eq (l : List T36) : ∀ (n j : Nat), j ≤ l.length → 13 - j < n → (∀ t ∈ l.take j, -1000000000000000 ≤ t.2.1 ∧ t.2.1 ≤ 1000000000000000) → j ≤ 13 →
    ∃ b, l10_1 l (some (decide ((List.length l : Int) ≤ 12))) (some false) n j = some b ∧ (b = true → Sm l)
  | 0, j, _, h, _, _ => by omega
  | n + 1, j, hj, hn, hp, h13 => by
    unfold l10_1 s10_1
    by_cases c : j < l.length ∧ j ≤ 12
    · obtain ⟨c1, c2⟩ := c
      have ig : ∀ g : Bool, idxG g (0, 0, ()) l (j : Int) = some (bif g then l[j] else (0, 0, ())) := by
        intro g
        unfold idxG
        rw [idx_nat, List.getElem?_eq_getElem c1]
        cases g <;> rfl
      rw [bifT (by rw [decide_eq_true (show (j : Int) < (l.length : Int) by omega), decide_eq_true (show (j : Int) ≤ 12 by omega)]; rfl), idx_nat, List.getElem?_eq_getElem c1]
      simp only [Option.bind_some, ig]
      by_cases h : -1000000000000000 ≤ l[j].2.1 ∧ l[j].2.1 ≤ 1000000000000000
      · rw [bifF (by rw [decide_eq_false (show ¬ l[j].2.1 > 1000000000000000 by omega)]; simp only [beq_self_eq_true, cond_true, Bool.false_or]; exact decide_eq_false (by omega)), wrapI (x := (j : Int) + 1) (by omega) (by omega)]
        refine l10_eq l n (j + 1) (by omega) (by omega) ?_ (by omega)
        rw [List.take_succ_eq_append_getElem c1]
        intro t ht
        rcases List.mem_append.1 ht with ht | ht
        · exact hp t ht
        · rw [List.mem_singleton.1 ht]; exact h
      · refine ⟨false, ?_, fun h => by cases h⟩
        rw [bifT]
        by_cases h1 : l[j].2.1 > 1000000000000000
        · rw [decide_eq_true h1]; rfl
        · rw [decide_eq_false h1]
          simp only [beq_self_eq_true, cond_true, Bool.false_or]
          exact decide_eq_true (by omega)
    · rw [bifF]
      · refine ⟨_, rfl, fun h => ?_⟩
        have := of_decide_eq_true h
        refine ⟨by omega, ?_⟩
        rwa [List.take_of_length_le (by omega)] at hp
      · rw [← Bool.decide_and]; exact decide_eq_false (by omega)

theorem m10_eq (l : List T36) : ∃ b, m10 l = some b ∧ (b = true → Sm l) :=
  l10_eq l FUEL 0 (by omega) (fuel_lt (by omega)) (by simp) (by omega)

/-! The reference's sum. -/

theorem m23_eq {S : List T36} {t : T45} (h : OneP S t) (d : Int) : m23 t d = some (decide (t.1 = 0 ∧ t.2.2.2.2.2.1 ≤ d ∧ ¬ (0 ≤ t.2.2.2.2.2.2.1 ∧ t.2.2.2.2.2.2.1 ≤ d))) := by
  obtain ⟨_, _, ⟨hne, u1, u2⟩, ⟨d1, d2, d3, d4⟩, hk⟩ := h
  unfold m23
  congr 1
  rw [Bool.eq_iff_iff]
  simp only [Bool.and_eq_true, Bool.or_eq_true, beq_iff_eq, decide_eq_true_eq]
  unfold Day at d4
  omega

theorem m24_eq (t : T45) (d : Int) : m24 t d = some (decide (t.1 = 1 ∧ (0 ≤ t.2.2.2.2.2.2.1 ∧ t.2.2.2.2.2.2.1 ≤ d) ∧ d < t.2.2.2.2.2.2.2.1)) := by
  unfold m24
  congr 1
  rw [Bool.eq_iff_iff]
  simp only [Bool.and_eq_true, Bool.or_eq_true, beq_iff_eq, decide_eq_true_eq]
  omega

theorem l32_eq {R : Type} {S : List T36} {u : List Int} (hv : Valid S u) {l : List T45} (ho : ∀ t ∈ l, OneP S t) (hl : l.length ≤ 10000) (d : Int) {s : Nat} (hs : s < S.length) (k : Int → Option R) : ∀ (m n j : Nat), j + m = l.length → m < n →
    l32_1 l d (s : Int) k n (gI (payS d u (l.take j)) s) j = k (gI (payS d u l) s) := by
  intro m
  induction m with
  | zero =>
    intro n j hj hn
    obtain ⟨n, rfl⟩ : ∃ m, n = m + 1 := ⟨n - 1, by omega⟩
    unfold l32_1 s32_1
    rw [bifF (decide_eq_false (by omega)), List.take_of_length_le (by omega)]
  | succ m ih =>
    intro n j hj hn
    obtain ⟨n, rfl⟩ : ∃ m, n = m + 1 := ⟨n - 1, by omega⟩
    have hlt : j < l.length := by omega
    have h1 := ho l[j] (List.getElem_mem hlt)
    have hot : ∀ t ∈ l.take j, OneP S t := fun t ht => ho t (List.mem_of_mem_take ht)
    have hlt2 : (l.take j).length ≤ 10000 := by rw [List.length_take]; omega
    have q1 := payS_b hv hot hlt2 d hs
    have e0 := ih n (j + 1) (by omega) (by omega)
    have e1 : gI (payS d u (l.take (j + 1))) s = gI (payS d u (l.take j)) s + ds d s l[j] := by
      rw [payS_get d s hv.2.1 (fun t ht => ho t (List.mem_of_mem_take ht)), payS_get d s hv.2.1 hot, List.take_succ_eq_append_getElem hlt, List.map_append, List.sum_append]
      simp
      omega
    rw [e1] at e0
    have hu := h1.2.2.1
    unfold l32_1 s32_1
    rw [bifT (decide_eq_true (by omega)), idx_nat, List.getElem?_eq_getElem hlt]
    simp only [cont, Option.bind_some, m23_eq h1, m24_eq]
    rw [wrapI (x := (j : Int) + 1) (by omega) (by omega)]
    generalize gI (payS d u (l.take j)) s = x at *
    generalize l[j] = t at *
    have w1 : IntKind.i64.wrap (x - t.2.2.2.1) = x - t.2.2.2.1 := wrapI (by omega) (by omega)
    have w2 : IntKind.i64.wrap (x + t.2.2.2.1) = x + t.2.2.2.1 := wrapI (by omega) (by omega)
    unfold ds psd at e0
    by_cases c1 : t.1 = 0 ∧ t.2.2.2.2.2.1 ≤ d ∧ ¬ (0 ≤ t.2.2.2.2.2.2.1 ∧ t.2.2.2.2.2.2.1 ≤ d)
    · have c2 : ¬ (t.1 = 1 ∧ (0 ≤ t.2.2.2.2.2.2.1 ∧ t.2.2.2.2.2.2.1 ≤ d) ∧ d < t.2.2.2.2.2.2.2.1) := by omega
      rw [decide_eq_true c1, decide_eq_false c2]
      rw [if_pos c1] at e0
      by_cases f1 : t.2.1 = (s : Int) <;> by_cases f2 : t.2.2.1 = (s : Int)
      · omega
      · rw [if_pos f1, if_neg f2] at e0
        simp only [beq_iff_eq.2 f1, beq_eq_false_iff_ne.2 f2, Bool.true_and, Bool.and_true, Bool.and_false, Bool.or_false, Bool.or_true, Bool.true_or, Bool.or_self, Bool.false_or, Bool.false_and, beq_self_eq_true, cond_true, cond_false, Option.bind_some, w1, show ((true : Bool) == false) = false from rfl, show ((false : Bool) == false) = true from rfl]
        rw [← e0]
        congr 1
        omega
      · rw [if_neg f1, if_pos f2] at e0
        simp only [beq_iff_eq.2 f2, beq_eq_false_iff_ne.2 f1, Bool.true_and, Bool.and_true, Bool.and_false, Bool.or_false, Bool.or_true, Bool.true_or, Bool.or_self, Bool.false_or, Bool.false_and, beq_self_eq_true, cond_true, cond_false, Option.bind_some, w2, show ((true : Bool) == false) = false from rfl, show ((false : Bool) == false) = true from rfl]
        rw [← e0]
        congr 1
        omega
      · rw [if_neg f1, if_neg f2] at e0
        simp only [beq_eq_false_iff_ne.2 f2, beq_eq_false_iff_ne.2 f1, Bool.true_and, Bool.and_true, Bool.and_false, Bool.or_false, Bool.or_true, Bool.true_or, Bool.or_self, Bool.false_or, Bool.false_and, beq_self_eq_true, cond_true, cond_false, Option.bind_some, show ((true : Bool) == false) = false from rfl, show ((false : Bool) == false) = true from rfl]
        rw [← e0]
        congr 1
        omega
    · rw [decide_eq_false c1]
      rw [if_neg c1] at e0
      by_cases c2 : t.1 = 1 ∧ (0 ≤ t.2.2.2.2.2.2.1 ∧ t.2.2.2.2.2.2.1 ≤ d) ∧ d < t.2.2.2.2.2.2.2.1
      · rw [decide_eq_true c2]
        rw [if_pos c2] at e0
        by_cases f1 : t.2.1 = (s : Int) <;> by_cases f2 : t.2.2.1 = (s : Int)
        · omega
        · rw [if_pos f1, if_neg f2] at e0
          simp only [beq_iff_eq.2 f1, beq_eq_false_iff_ne.2 f2, Bool.true_and, Bool.and_true, Bool.and_false, Bool.or_false, Bool.or_true, Bool.true_or, Bool.or_self, Bool.false_or, Bool.false_and, beq_self_eq_true, cond_true, cond_false, Option.bind_some, w2, show ((true : Bool) == false) = false from rfl, show ((false : Bool) == false) = true from rfl]
          rw [← e0]
          congr 1
          omega
        · rw [if_neg f1, if_pos f2] at e0
          simp only [beq_iff_eq.2 f2, beq_eq_false_iff_ne.2 f1, Bool.true_and, Bool.and_true, Bool.and_false, Bool.or_false, Bool.or_true, Bool.true_or, Bool.or_self, Bool.false_or, Bool.false_and, beq_self_eq_true, cond_true, cond_false, Option.bind_some, w1, show ((true : Bool) == false) = false from rfl, show ((false : Bool) == false) = true from rfl]
          rw [← e0]
          congr 1
          omega
        · rw [if_neg f1, if_neg f2] at e0
          simp only [beq_eq_false_iff_ne.2 f2, beq_eq_false_iff_ne.2 f1, Bool.true_and, Bool.and_true, Bool.and_false, Bool.or_false, Bool.or_true, Bool.true_or, Bool.or_self, Bool.false_or, Bool.false_and, beq_self_eq_true, cond_true, cond_false, Option.bind_some, show ((true : Bool) == false) = false from rfl, show ((false : Bool) == false) = true from rfl]
          rw [← e0]
          congr 1
          omega
      · rw [decide_eq_false c2]
        rw [if_neg c2] at e0
        simp only [Bool.true_and, Bool.and_true, Bool.and_false, Bool.or_false, Bool.or_true, Bool.true_or, Bool.or_self, Bool.false_or, Bool.false_and, beq_self_eq_true, cond_true, cond_false, Option.bind_some]
        rw [← e0]
        congr 1
        split <;> split <;> omega

theorem m32_eq {S : List T36} {u : List Int} (hv : Valid S u) {l : List T45} (ho : ∀ t ∈ l, OneP S t) (hl : l.length ≤ 10000) (d : Int) {s : Nat} (hs : s < S.length) : m32 u l d (s : Int) = some (gI (payS d u l) s) := by
  unfold m32
  rw [idx_nat, gI_get (by rw [hv.2.1]; exact hs)]
  simp only [Option.bind_some]
  exact l32_eq hv ho hl d hs (fun y9 => some y9) l.length FUEL 0 (by omega) (fuel_lt (by omega))

theorem l12_eq {R : Type} {S : List T36} {u : List Int} (hv : Valid S u) {l : List T45} (ho : ∀ t ∈ l, OneP S t) (hl : l.length ≤ 10000) (d : Int) (k : List T36 → Option R) : ∀ (m n j : Nat), j + m = S.length → m < n →
    l12_1 S u l d k n j (sh (gI (payS d u l)) j) = k (sh (gI (payS d u l)) S.length) := by
  intro m
  induction m with
  | zero =>
    intro n j hj hn
    obtain ⟨n, rfl⟩ : ∃ m, n = m + 1 := ⟨n - 1, by omega⟩
    unfold l12_1 s12_1
    rw [bifF (decide_eq_false (by omega)), show j = S.length by omega]
  | succ m ih =>
    intro n j hj hn
    obtain ⟨n, rfl⟩ : ∃ m, n = m + 1 := ⟨n - 1, by omega⟩
    have hlt : j < S.length := by omega
    have hL := hv.1.1
    have hs := sh_len (gI (payS d u l)) j
    unfold l12_1 s12_1
    rw [bifT (decide_eq_true (by omega)), m32_eq hv ho hl d hlt]
    simp only [cont, Option.bind_some]
    rw [wrapI (x := (j : Int) + 1) (by omega) (by omega)]
    have e := ih n (j + 1) (by omega) (by omega)
    rw [sh_succ] at e
    by_cases h : gI (payS d u l) j = 0
    · rw [if_pos h] at e
      rw [bifF (by rw [h]; rfl)]
      exact e
    · rw [if_neg h] at e
      rw [bifT (bne_ne h), asrtP (fun _ => limL (by simp only [List.length_singleton]; omega))]
      exact e

theorem m12_eq (S : List T36) (hS : S.length ≤ 20000) (u : List Int) (l : List T45) (d : Int) : m12 S u l d = some (paidS S u l d) := by
  unfold m12 paidS
  rw [m19_eq S u hS, m31_eq S hS]
  simp only [Option.bind_some]
  rw [grd]
  simp only [Option.bind_some]
  rw [cnd]
  by_cases h : Valid S u ∧ RightT S l ∧ Day d
  case neg => rw [decide_eq_false h, if_neg h]; rfl
  rw [decide_eq_true h, if_pos h]
  obtain ⟨hv, hr, hd⟩ := h
  simp only [Bool.not_true, cond_false]
  exact l12_eq hv hr.2.2 hr.2.1 d (fun y13 => some ((y13, 0, ()) : List T36 × Int × Unit)) S.length FUEL 0 (by omega) (fuel_lt (by omega))

/-! Votes. -/

/-- For how many units a seat votes. -/
def vt (S : List T36) (u : List Int) (a : Int) (i : Nat) : Int := if 0 < gI u i ∧ (O S i = -1 ∨ O S i ≠ a) then gI u i else 0

theorem vt_c (S : List T36) (u : List Int) (a : Int) (i : Nat) : ((decide (gI u i > 0)) && ((O S i == (-1)) || (O S i != a))) = (vt S u a i != 0) := by
  unfold vt
  by_cases h : 0 < gI u i ∧ (O S i = -1 ∨ O S i ≠ a)
  · rw [if_pos h, bne_ne (show gI u i ≠ 0 by omega), decide_eq_true (show gI u i > 0 from h.1)]
    rcases h.2 with h | h
    · simp [h]
    · simp [h]
  · rw [if_neg h]
    rw [show ((0 : Int) != 0) = false from rfl]
    by_cases h1 : 0 < gI u i
    · have h2 : ¬ (O S i = -1 ∨ O S i ≠ a) := fun x => h ⟨h1, x⟩
      have h3 : ¬ O S i = -1 := fun x => h2 (.inl x)
      have h4 : O S i = a := Classical.byContradiction fun x => h2 (.inr x)
      rw [h4] at h3 ⊢
      simp [h3]
    · simp [h1]

theorem vt_v {S : List T36} {u : List Int} {a : Int} {i : Nat} (h : vt S u a i ≠ 0) : vt S u a i = gI u i := by
  unfold vt at h ⊢
  split
  · rfl
  · rename_i hh; rw [if_neg hh] at h; exact absurd rfl h

def voteS (S : List T36) (u : List Int) (a : Int) : List T36 × Int × Unit :=
  if Valid S u ∧ -1 ≤ a ∧ a < 60 then (sh (vt S u a) S.length, 0, ()) else ([], 1, ())

theorem l13_eq {R : Type} {S : List T36} {u : List Int} (hv : Valid S u) (a : Int) (k : List T36 → Option R) : ∀ (m n j : Nat), j + m = S.length → m < n →
    l13_1 S a u (List.length u : Int) k n j (sh (vt S u a) j) = k (sh (vt S u a) S.length) := by
  intro m
  induction m with
  | zero =>
    intro n j hj hn
    obtain ⟨n, rfl⟩ : ∃ m, n = m + 1 := ⟨n - 1, by omega⟩
    have := hv.2.1
    unfold l13_1 s13_1
    rw [bifF (decide_eq_false (by omega)), show j = S.length by omega]
  | succ m ih =>
    intro n j hj hn
    obtain ⟨n, rfl⟩ : ∃ m, n = m + 1 := ⟨n - 1, by omega⟩
    have hlt : j < S.length := by omega
    have hul := hv.2.1
    have hL := hv.1.1
    have hs := sh_len (vt S u a) j
    have hc : ((decide (gI u j > 0)) && (((seat S j).2.1 == (-1)) || ((seat S j).2.1 != a))) = (vt S u a j != 0) := vt_c S u a j
    unfold l13_1 s13_1
    rw [bifT (decide_eq_true (by omega)), idx_nat, gI_get (by omega), seat_idx hlt]
    simp only [cont, Option.bind_some, hc]
    rw [wrapI (x := (j : Int) + 1) (by omega) (by omega)]
    have e := ih n (j + 1) (by omega) (by omega)
    rw [sh_succ] at e
    by_cases h : vt S u a j = 0
    · rw [if_pos h] at e
      rw [bifF (by rw [h]; rfl)]
      exact e
    · rw [if_neg h, vt_v h] at e
      rw [bifT (bne_ne h), asrtP (fun _ => limL (by simp only [List.length_singleton]; omega))]
      exact e

theorem m13_eq (S : List T36) (u : List Int) (a : Int) : m13 S u a = some (voteS S u a) := by
  unfold m13 voteS
  rw [m27_eq]
  simp only [Option.bind_some]
  by_cases h : Valid S u ∧ -1 ≤ a ∧ a < 60
  · rw [if_pos h, decide_eq_true h.1, bifF (by simp; omega)]
    have hL := h.1.1.1
    exact l13_eq h.1 a (fun y13 => some ((y13, 0, ()) : List T36 × Int × Unit)) S.length FUEL 0 (by omega) (fuel_lt (by omega))
  · rw [if_neg h, bifT]
    by_cases hv : Valid S u
    · have : ¬ (-1 ≤ a ∧ a < 60) := fun x => h ⟨hv, x⟩
      simp [hv]; omega
    · simp [hv]

theorem l14_eq {R : Type} {S : List T36} {u : List Int} (hv : Valid S u) (a : Int) (k : List T36 → Option R) : ∀ (m n j : Nat), j + m = S.length → m < n →
    l14_1 S u a k n j (sh (vt S u a) j) = k (sh (vt S u a) S.length) := by
  intro m
  induction m with
  | zero =>
    intro n j hj hn
    obtain ⟨n, rfl⟩ : ∃ m, n = m + 1 := ⟨n - 1, by omega⟩
    have := hv.2.1
    unfold l14_1 s14_1
    rw [bifF (decide_eq_false (by omega)), show j = S.length by omega]
  | succ m ih =>
    intro n j hj hn
    obtain ⟨n, rfl⟩ : ∃ m, n = m + 1 := ⟨n - 1, by omega⟩
    have hlt : j < S.length := by omega
    have hul := hv.2.1
    have hL := hv.1.1
    have hs := sh_len (vt S u a) j
    have ig : ∀ g : Bool, idxG g (0, 0, ()) S (j : Int) = some (bif g then seat S j else (0, 0, ())) := by
      intro g
      unfold idxG
      rw [seat_idx hlt]
      cases g <;> rfl
    have hc := vt_c S u a j
    unfold l14_1 s14_1
    rw [bifT (decide_eq_true (by omega)), idx_nat, gI_get (by omega)]
    simp only [cont, Option.bind_some, ig]
    rw [wrapI (x := (j : Int) + 1) (by omega) (by omega)]
    have hc2 : ((decide (gI u j > 0)) && ((((bif (decide (gI u j > 0) == true) then seat S j else (0, 0, ())) : T36).2.1 == (-1)) || (((bif ((decide (gI u j > 0) == true) && ((((bif (decide (gI u j > 0) == true) then seat S j else (0, 0, ())) : T36).2.1 == (-1)) == false)) then seat S j else (0, 0, ())) : T36).2.1 != a))) = (vt S u a j != 0) := by
      rw [← hc]
      unfold O
      cases decide (gI u j > 0)
      · rfl
      · simp only [beq_self_eq_true, cond_true, Bool.true_and]
        cases h : ((seat S j).2.1 == (-1))
        · rfl
        · rfl
    rw [hc2]
    have e := ih n (j + 1) (by omega) (by omega)
    rw [sh_succ] at e
    by_cases h : vt S u a j = 0
    · rw [if_pos h] at e
      rw [bifF (by rw [h]; rfl)]
      exact e
    · rw [if_neg h, vt_v h] at e
      rw [bifT (bne_ne h), asrtP (fun _ => limL (by simp only [List.length_singleton]; omega))]
      exact e

theorem m14_eq (S : List T36) (hS : S.length ≤ 20000) (u : List Int) (a : Int) : m14 S u a = some (voteS S u a) := by
  unfold m14 voteS
  rw [m19_eq S u hS]
  simp only [Option.bind_some]
  by_cases h : Valid S u ∧ -1 ≤ a ∧ a < 60
  · rw [if_pos h, decide_eq_true h.1, bifF (by simp; omega)]
    exact l14_eq h.1 a (fun y13 => some ((y13, 0, ()) : List T36 × Int × Unit)) S.length FUEL 0 (by omega) (fuel_lt (by omega))
  · rw [if_neg h, bifT]
    by_cases hv : Valid S u
    · have : ¬ (-1 ≤ a ∧ a < 60) := fun x => h ⟨hv, x⟩
      simp [hv]; omega
    · simp [hv]

end Go.Proofs.Ytjoehgmdkeigiaa
