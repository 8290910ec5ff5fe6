/- Entitle: what goes through a seat; EntitleTells. -/
import Derived.Test.YtjoehgmdkeigiaaT6
namespace Go.Proofs.Ytjoehgmdkeigiaa
open Go Go.Eng
set_option linter.unusedVariables false
set_option linter.unusedSimpArgs false

/-- What a share adds to what goes through a seat. -/
def sv (S : List T36) (s : Nat) (t : T36) : Int := if In S t.1 ∧ below S t.1.toNat s = true then t.2.1 else 0

def thr (S : List T36) (l : List T36) (s : Nat) : Int := (l.map (sv S s)).sum

theorem sv_b {S : List T36} {s : Nat} {t : T36} {B : Int} (h : -B ≤ t.2.1 ∧ t.2.1 ≤ B) (hB : 0 ≤ B) : -B ≤ sv S s t ∧ sv S s t ≤ B := by
  unfold sv; split <;> omega

theorem sum_b3 {f : T36 → Int} {B : Int} : ∀ {l : List T36}, (∀ t ∈ l, -B ≤ f t ∧ f t ≤ B) → -(B * l.length) ≤ (l.map f).sum ∧ (l.map f).sum ≤ B * l.length
  | [], _ => by simp
  | t :: l, h => by
    have h1 := h t (by simp)
    have h2 := sum_b3 (l := l) (fun x hx => h x (List.mem_cons_of_mem _ hx))
    rw [List.map_cons, List.sum_cons, List.length_cons, Int.natCast_add, Int.mul_add]
    omega

theorem Sm.take {l : List T36} (h : Sm l) (j : Nat) : Sm (l.take j) := ⟨by rw [List.length_take]; have := h.1; omega, fun t ht => h.2 t (List.mem_of_mem_take ht)⟩

theorem thr_b {S l : List T36} (h : Sm l) (s : Nat) : -12000000000000000 ≤ thr S l s ∧ thr S l s ≤ 12000000000000000 := by
  have h1 := sum_b3 (f := sv S s) (l := l) (fun t ht => sv_b (h.2 t ht) (by omega))
  have := h.1
  unfold thr
  omega

theorem thr_take {S l : List T36} {j : Nat} (h : j < l.length) (s : Nat) : thr S (l.take (j + 1)) s = thr S (l.take j) s + sv S s l[j] := by
  unfold thr
  rw [List.take_succ_eq_append_getElem h, List.map_append, List.sum_append]
  simp

theorem l16_1_eq {R : Type} (S : List T36) (hU : Up S S.length) (s : Nat) (k : Int → Option R) : ∀ (n i : Nat), i < S.length → i < n → ∃ y : Int, l16_1 S (s : Int) k n i = k y ∧ (y == (s : Int)) = below S i s
  | 0, i, _, h => by omega
  | n + 1, i, hi, hn => by
    have hu : Up S (i + 1) := fun j hj => hU j (by omega)
    have hP := hU i hi
    unfold l16_1 s16_1
    by_cases h : i > s
    · rw [bifT (decide_eq_true (by omega)), seat_idx hi]
      simp only [Option.bind_some]
      by_cases h0 : 0 ≤ P S i
      · have e1 : (seat S i).1 = (((P S i).toNat : Nat) : Int) := by show P S i = _; omega
        rw [e1]
        obtain ⟨y, q1, q2⟩ := l16_1_eq S hU s k n (P S i).toNat (by omega) (by omega)
        exact ⟨y, q1, by rw [q2, below_eq hu, decide_eq_false (show ¬ i = s by omega), decide_eq_true h0]; simp⟩
      · obtain ⟨n, rfl⟩ : ∃ m, n = m + 1 := ⟨n - 1, by omega⟩
        unfold l16_1 s16_1
        refine ⟨P S i, ?_, ?_⟩
        · rw [bifF (decide_eq_false (show ¬ (seat S i).1 > (s : Int) by show ¬ P S i > _; omega))]
          rfl
        · rw [below_eq hu, decide_eq_false (show ¬ i = s by omega), decide_eq_false h0, beq_eq_false_iff_ne.2 (by omega)]; simp
    · rw [bifF (decide_eq_false (by omega))]
      refine ⟨i, rfl, ?_⟩
      cases hb : below S i s with
      | true => have := below_le i s hu hb; rw [beq_iff_eq]; omega
      | false =>
        rw [below_eq hu] at hb
        simp only [Bool.or_eq_false_iff, decide_eq_false_iff_not] at hb
        rw [beq_eq_false_iff_ne]; omega

theorem l16_2_eq {R : Type} {S : List T36} (hr : Right S) {l : List T36} (hl : Sm l) (s : Nat) (k : Int → Option R) : ∀ (m n j : Nat), j + m = l.length → m < n →
    l16_2 S (s : Int) l (List.length l : Int) k n (thr S (l.take j) s) j = k (thr S l s) := by
  intro m
  have hlen := hl.1
  induction m with
  | zero =>
    intro n j hj hn
    obtain ⟨n, rfl⟩ : ∃ m, n = m + 1 := ⟨n - 1, by omega⟩
    unfold l16_2 s16_2
    rw [bifF (decide_eq_false (by omega)), List.take_of_length_le (by omega)]
  | succ m ih =>
    intro n j hj hn
    obtain ⟨n, rfl⟩ : ∃ m, n = m + 1 := ⟨n - 1, by omega⟩
    have hlt : j < l.length := by omega
    have e := ih n (j + 1) (by omega) (by omega)
    have hb := thr_b (S := S) (hl.take j) s
    have hv := hl.2 l[j] (List.getElem_mem hlt)
    rw [thr_take hlt] at e
    unfold l16_2 s16_2
    rw [bifT (decide_eq_true (by omega)), idx_nat, List.getElem?_eq_getElem hlt]
    simp only [cont, Option.bind_some]
    rw [wrapI (x := (j : Int) + 1) (by omega) (by omega)]
    unfold sv at e
    by_cases hin : In S l[j].1
    · obtain ⟨i0, i1⟩ := hin
      rw [bifF (by rw [decide_eq_false (show ¬ l[j].1 < 0 by omega), decide_eq_false (show ¬ l[j].1 ≥ (List.length S : Int) by omega)]; rfl)]
      obtain ⟨y, q1, q2⟩ := l16_1_eq S hr.up s (fun y4 => bif (y4 == (s : Int)) then l16_2 S (s : Int) l (List.length l : Int) k n (IntKind.i64.wrap (thr S (l.take j) s + l[j].2.1)) ((j : Int) + 1)
        else l16_2 S (s : Int) l (List.length l : Int) k n (thr S (l.take j) s) ((j : Int) + 1)) FUEL l[j].1.toNat (by omega) (fuel_lt (by have := hr.1; omega))
      rw [Int.toNat_of_nonneg i0] at q1
      rw [q1, q2]
      rw [wrapI (x := _ + l[j].2.1) (by omega) (by omega)]
      cases hb2 : below S l[j].1.toNat s with
      | true => rw [if_pos ⟨⟨i0, i1⟩, hb2⟩] at e; exact e
      | false => rw [if_neg (fun h => by rw [hb2] at h; exact Bool.false_ne_true h.2), Int.add_zero] at e; exact e
    · rw [if_neg (fun h => hin h.1), Int.add_zero] at e
      rw [bifT]
      · exact e
      · unfold In at hin
        simp only [Bool.or_eq_true, decide_eq_true_eq]
        omega

def thS (S : List T36) (l : List T36) (s : Int) : Int := if Right S ∧ In S s then thr S l s.toNat else 0

theorem m16_eq (S : List T36) {l : List T36} (hl : Sm l) (s : Int) : m16 S l s = some (thS S l s) := by
  unfold m16 thS
  rw [m33_eq]
  simp only [Option.bind_some]
  rw [dec_out]
  by_cases h : Right S ∧ In S s
  · obtain ⟨hr, h0, h1⟩ := h
    rw [if_pos ⟨hr, h0, h1⟩, decide_eq_true hr, decide_eq_true (show In S s from ⟨h0, h1⟩)]
    have e := l16_2_eq hr hl s.toNat (fun y6 => some y6) l.length FUEL 0 (by omega) (fuel_lt (by have := hl.1; omega))
    rw [Int.toNat_of_nonneg h0] at e
    exact e
  · rw [if_neg h, bifT]
    by_cases hr : Right S
    · have : ¬ In S s := fun x => h ⟨hr, x⟩
      simp [hr, this]
    · simp [hr]

theorem l17_eq {R : Type} {S : List T36} (hr : Right S) {l : List T36} (hl : Sm l) (s : Nat) (k : Int → Option R) : ∀ (m n j : Nat), j + m = l.length → m < n →
    l17_1 S l (s : Int) k n (thr S (l.take j) s) j = k (thr S l s) := by
  intro m
  have hlen := hl.1
  induction m with
  | zero =>
    intro n j hj hn
    obtain ⟨n, rfl⟩ : ∃ m, n = m + 1 := ⟨n - 1, by omega⟩
    unfold l17_1 s17_1
    rw [bifF (decide_eq_false (by omega)), List.take_of_length_le (by omega)]
  | succ m ih =>
    intro n j hj hn
    obtain ⟨n, rfl⟩ : ∃ m, n = m + 1 := ⟨n - 1, by omega⟩
    have hlt : j < l.length := by omega
    have e := ih n (j + 1) (by omega) (by omega)
    have hb := thr_b (S := S) (hl.take j) s
    have hv := hl.2 l[j] (List.getElem_mem hlt)
    have ig : ∀ g : Bool, idxG g (0, 0, ()) l (j : Int) = some (bif g then l[j] else (0, 0, ())) := by
      intro g
      unfold idxG
      rw [idx_nat, List.getElem?_eq_getElem hlt]
      cases g <;> rfl
    rw [thr_take hlt] at e
    unfold l17_1 s17_1
    rw [bifT (decide_eq_true (by omega)), idx_nat, List.getElem?_eq_getElem hlt]
    simp only [cont, Option.bind_some, ig]
    rw [wrapI (x := (j : Int) + 1) (by omega) (by omega)]
    unfold sv at e
    by_cases hin : In S l[j].1
    · obtain ⟨i0, i1⟩ := hin
      rw [decide_eq_true (show l[j].1 ≥ 0 from i0)]
      simp only [beq_self_eq_true, cond_true, Bool.true_and]
      rw [bifT (decide_eq_true (show l[j].1 < (List.length S : Int) from i1))]
      have e35 := m35_eq S hr l[j].1.toNat s (by omega)
      rw [Int.toNat_of_nonneg i0] at e35
      rw [e35]
      simp only [Option.bind_some]
      rw [wrapI (x := _ + l[j].2.1) (by omega) (by omega)]
      cases hb2 : below S l[j].1.toNat s with
      | true => rw [if_pos ⟨⟨i0, i1⟩, hb2⟩] at e; exact e
      | false => rw [if_neg (fun h => by rw [hb2] at h; exact Bool.false_ne_true h.2), Int.add_zero] at e; exact e
    · rw [if_neg (fun h => hin h.1), Int.add_zero] at e
      rw [bifF]
      · exact e
      · by_cases h0 : l[j].1 ≥ 0
        · rw [decide_eq_true h0]
          simp only [beq_self_eq_true, cond_true, Bool.true_and]
          exact decide_eq_false (fun h1 => hin ⟨h0, h1⟩)
        · rw [decide_eq_false h0]; rfl

theorem m17_eq (S : List T36) (hS : S.length ≤ 20000) {l : List T36} (hl : Sm l) (s : Int) : m17 S l s = some (thS S l s) := by
  unfold m17 thS
  rw [m34_eq S hS]
  simp only [Option.bind_some]
  rw [dec_out]
  by_cases h : Right S ∧ In S s
  · obtain ⟨hr, h0, h1⟩ := h
    rw [if_pos ⟨hr, h0, h1⟩, decide_eq_true hr, decide_eq_true (show In S s from ⟨h0, h1⟩)]
    have e := l17_eq hr hl s.toNat (fun y6 => some y6) l.length FUEL 0 (by omega) (fuel_lt (by have := hl.1; omega))
    rw [Int.toNat_of_nonneg h0] at e
    exact e
  · rw [if_neg h, bifT]
    by_cases hr : Right S
    · have : ¬ In S s := fun x => h ⟨hr, x⟩
      simp [hr, this]
    · simp [hr]

/-! The examples. -/

def X3 : List T36 := [((-1), (-1), ()), ((-1), (-1), ()), ((-1), 4, ())]

theorem m26_eq (l : List T45) (w : List T36) (h : paidS X3 [10, 0, 5] l 20 = (w, 0, ())) : m26 l w = some true := by
  have h25 : m25 = some X3 := rfl
  unfold m26
  rw [h25]
  simp only [Option.bind_some, m11_eq, h]
  have hw : w.length ≤ 100000 := by
    have h1 := congrArg (fun x => x.1.length) h
    simp only at h1
    rw [← h1]
    unfold paidS
    split
    · exact Nat.le_trans (sh_len _ _) (by decide)
    · simp
  rw [m15_eq _ _ hw]
  simp

theorem small8 : m8 = some true := by
  have h25 : m25 = some X3 := rfl
  have v : voteS X3 [10, 0, 5] 4 = ([(0, 10, ())], 0, ()) := by decide +kernel
  have a1 : m26 [] [(0, 10, ()), (2, 5, ())] = some true := m26_eq _ _ (by decide +kernel)
  have a2 : m26 [(0, 0, 1, 4, 0, 18, (-1), 0, ())] [(0, 6, ()), (1, 4, ()), (2, 5, ())] = some true := m26_eq _ _ (by decide +kernel)
  have a3 : m26 [(1, 0, 2, 3, 0, 15, 15, 25, ())] [(0, 13, ()), (2, 2, ())] = some true := m26_eq _ _ (by decide +kernel)
  have a4 : m26 [(0, 1, 0, 2, 0, 19, 21, 0, ())] [(0, 12, ()), (1, (-2), ()), (2, 5, ())] = some true := m26_eq _ _ (by decide +kernel)
  have a5 : m15 [(0, 10, ())] [(0, 10, ())] = some true := by rw [m15_eq _ _ (by decide)]; simp
  have sm : Sm [((0 : Int), (10 : Int), ())] := ⟨by decide, by simp⟩
  have a6 : m16 X3 [(0, 10, ())] 0 = some 10 := by rw [m16_eq _ sm]; exact congrArg some (by decide +kernel)
  have a7 : m16 X3 [(0, 10, ())] 1 = some 0 := by rw [m16_eq _ sm]; exact congrArg some (by decide +kernel)
  unfold m8 m20
  simp only [h25, Option.bind_some, m13_eq, v, a1, beq_self_eq_true, cond_true, a2, Bool.and_self, a3, a4, a5, a6, a7]

theorem entitleTells (S : List T36) (u : List Int) (l : List T45) (d a : Int) (w : List T36) (s : Int) : m3 S u l d a w s = some true := by
  unfold m3
  rw [small8, few8]
  simp only [Option.bind_some]
  by_cases h : S.length ≤ 10 ∧ u.length ≤ 10 ∧ l.length ≤ 12
  case neg => rw [decide_eq_false h]; rfl
  rw [decide_eq_true h]
  obtain ⟨b, eb, hb⟩ := m10_eq w
  rw [eb]
  simp only [Bool.not_true, beq_self_eq_true, cond_true, Option.bind_some, Bool.false_or]
  cases b with
  | false => rfl
  | true =>
    have hs := hb rfl
    have hS : S.length ≤ 20000 := by omega
    have l1 : (paidS S u l d).1.length ≤ 100000 := by
      unfold paidS
      split
      · exact Nat.le_trans (sh_len _ _) (by omega)
      · simp
    have l2 : (voteS S u a).1.length ≤ 100000 := by
      unfold voteS
      split
      · exact Nat.le_trans (sh_len _ _) (by omega)
      · simp
    simp only [Bool.not_true, cond_false, m11_eq, m12_eq S hS, m13_eq, m14_eq S hS, m16_eq S hs, m17_eq S hS hs, Option.bind_some, m15_eq _ _ l1, m15_eq _ _ l2, beq_self_eq_true, cond_true, Bool.and_self, decide_true]

end Go.Proofs.Ytjoehgmdkeigiaa
