/- Offer: the reference's share; what sharing keeps. -/
import Derived.Test.YtidlfemliaepjaaT3
namespace Go.Proofs.Ytidlfemliaepjaa
open Go Go.Eng
set_option linter.unusedVariables false
set_option linter.unusedSimpArgs false

/-- Amounts. -/
structure Am (l : List Int) : Prop where
  n : l.length ≤ 15
  pos : ∀ i, 0 ≤ gI l i ∧ gI l i ≤ 1000000000

theorem Am.part {l : List Int} (h : Am l) : ∀ j, j ≤ 15 → 0 ≤ sumN (gI l) j ∧ sumN (gI l) j ≤ 1000000000 * (j : Int)
  | 0, _ => by simp [sumN]
  | j + 1, hj => by
    have := h.part j (by omega)
    have := h.pos j
    simp only [sumN]
    omega

theorem m25_eq {l : List Int} (h : Am l) : m25 l = some (sumN (gI l) l.length) := by
  have h15 := h.n
  unfold m25
  refine seq_loop l.length (sumN (gI l)) (fun n j s => l25_1 l (fun y => some y) n s j) (fun s => some s) (by omega) (fun n j hj => ?_) (fun n => ?_)
  · show s25_1 _ _ _ _ _ = _
    unfold s25_1
    have h1 := h.part j (by omega)
    have h2 := h.pos j
    rw [bifT (lt1 hj), gix hj, wrapI (x := (j : Int) + 1) (by omega) (by omega)]
    simp only [Option.bind_some]
    rw [wrapI (x := _ + gI l j) (by omega) (by omega)]
    rfl
  · show s25_1 _ _ _ _ _ = _
    unfold s25_1
    rw [bifF (lt0 _)]

theorem l26_1_eq {R : Type} {l : List Int} {t m : Int} (h : Sh l t m) (k : Int → List Int → Option R) :
    l26_1 l m t k FUEL m 0 (tab l.length fun _ => 0) = k (lef l t m) (tab l.length (flo l t m)) := by
  have h15 := h.n
  have ht := h.t0
  have e1 : tab l.length (fun i => if i < l.length then flo l t m i else 0) = tab l.length (flo l t m) := by
    unfold tab
    apply List.map_congr_left
    intro i hi
    rw [if_pos (List.mem_range.1 hi)]
  rw [← e1]
  have := seq_loop l.length (fun j => (m - sumN (flo l t m) j, tab l.length (fun i => if i < j then flo l t m i else 0)))
    (fun n j s => l26_1 l m t k n s.1 j s.2) (fun s => k s.1 s.2) (by omega) (fun n j hj => by
    show s26_1 _ _ _ _ _ _ _ _ = _
    unfold s26_1
    have hp := h.prod j
    have hf := h.flo_b j
    have hb := h.part (j := j) (by omega)
    have hb2 := h.part (j := j + 1) (by omega)
    simp only [sumN] at hb2 ⊢
    have hm := h.m1
    rw [bifT (lt1 hj), gix hj, wrapI (x := (j : Int) + 1) (by omega) (by omega)]
    simp only [Option.bind_some, Int.toNat_natCast]
    rw [asrtP (fun _ => by simp; omega), asrtP (fun _ => rng (by rw [tab_len]; exact hj)), gI_get (by rw [tab_len]; exact hj)]
    simp only [Option.bind_some]
    rw [wrapI (x := gI l j * m) (by omega) (by omega), tdiv_pos _ hp.1]
    have e : IntKind.i64.wrap (gI l j * m / t) = flo l t m j := wrapI (x := flo l t m j) (by omega) (by omega)
    have es := tab_set hj (fun i => if i < j then flo l t m i else 0) (fun i => if i < j + 1 then flo l t m i else 0) (flo l t m j) (fun i _ hne => by
      by_cases c : i < j
      · rw [if_pos c, if_pos (by omega)]
      · rw [if_neg c, if_neg (by omega)]) (if_pos (by omega))
    rw [e, asrtP (fun _ => rng (by rw [List.length_set, tab_len]; exact hj)), es, gI_get (by rw [tab_len]; exact hj), tab_gI hj, if_pos (by omega)]
    simp only [Option.bind_some]
    rw [wrapI (x := m - _ - _) (by omega) (by omega), Int.sub_sub]) (fun n => by
    show s26_1 _ _ _ _ _ _ _ _ = _
    unfold s26_1
    rw [bifF (lt0 _)])
  simp only [sumN, Int.sub_zero] at this
  exact this

def tabB (n : Nat) (f : Nat → Bool) : List Bool := (List.range n).map f
theorem tabB_len (n : Nat) (f : Nat → Bool) : (tabB n f).length = n := by simp [tabB]
theorem tabB_get {n i : Nat} (h : i < n) (f : Nat → Bool) : (tabB n f)[i]? = some (f i) := by
  unfold tabB
  rw [List.getElem?_map, List.getElem?_range h]
  rfl
theorem tabB_set {n j : Nat} (hj : j < n) (f g : Nat → Bool) (h1 : ∀ i, i < n → i ≠ j → g i = f i) (h2 : g j = true) : (tabB n f).set j true = tabB n g := by
  apply List.ext_getElem?
  intro i
  rw [List.getElem?_set]
  by_cases hi : i < n
  · rw [tabB_get hi, tabB_get hi]
    by_cases e : j = i
    · subst e
      rw [if_pos rfl, if_pos (by rw [tabB_len]; exact hj), h2]
    · rw [if_neg e, h1 i hi (fun q => e q.symm)]
  · rw [if_neg (by omega), List.getElem?_eq_none (by rw [tabB_len]; omega), List.getElem?_eq_none (by rw [tabB_len]; omega)]
theorem tabB_rep (n : Nat) : List.replicate n false = tabB n (fun _ => false) := by
  apply List.ext_getElem?
  intro i
  by_cases hi : i < n
  · rw [tabB_get hi, List.getElem?_replicate, if_pos hi]
  · rw [List.getElem?_eq_none (by simp; omega), List.getElem?_eq_none (by rw [tabB_len]; omega)]

/-- The best one so far. -/
def bst (K : Nat → Int) (g : Nat → Bool) : Nat → Int
  | 0 => -1
  | j + 1 => if g j = false ∧ (bst K g j < 0 ∨ K (bst K g j).toNat < K j) then (j : Int) else bst K g j

theorem bst_inv (K : Nat → Int) (g : Nat → Bool) : ∀ j, (bst K g j = -1 ∧ ∀ i, i < j → g i = true) ∨ (∃ b : Nat, b < j ∧ bst K g j = (b : Int) ∧ g b = false ∧ ∀ i, i < j → g i = false → i = b ∨ Bet K b i)
  | 0 => .inl ⟨rfl, fun i hi => absurd hi (Nat.not_lt_zero i)⟩
  | j + 1 => by
    unfold bst
    rcases bst_inv K g j with ⟨h1, h2⟩ | ⟨b, hb, h1, h2, h3⟩
    · by_cases c : g j = false
      · rw [if_pos ⟨c, .inl (by omega)⟩]
        right
        refine ⟨j, by omega, rfl, c, fun i hi hg => ?_⟩
        by_cases e : i = j
        · exact .inl e
        · rw [h2 i (by omega)] at hg; cases hg
      · rw [if_neg (fun q => c q.1)]
        left
        refine ⟨h1, fun i hi => ?_⟩
        by_cases e : i = j
        · subst e; simpa using c
        · exact h2 i (by omega)
    · right
      by_cases c : g j = false ∧ (bst K g j < 0 ∨ K (bst K g j).toNat < K j)
      · rw [if_pos c]
        rw [h1] at c
        have c2 : K b < K j := by
          rcases c.2 with q | q
          · omega
          · simpa using q
        refine ⟨j, by omega, rfl, c.1, fun i hi hg => ?_⟩
        by_cases e : i = j
        · exact .inl e
        · right
          rcases h3 i (by omega) hg with q | q
          · rw [q]; exact .inl c2
          · unfold Bet at q ⊢; omega
      · rw [if_neg c]
        rw [h1] at c
        refine ⟨b, by omega, h1, h2, fun i hi hg => ?_⟩
        by_cases e : i = j
        · right
          subst e
          have : ¬ K b < K i := fun q => c ⟨hg, .inr (by simpa using q)⟩
          unfold Bet; omega
        · exact h3 i (by omega) hg

theorem l26_2_eq {R : Type} {l : List Int} {t m : Int} (h : Sh l t m) (g : Nat → Bool) (k : Int → Option R) :
    l26_2 l m t (tabB l.length g) k FUEL (-1) 0 = k (bst (rem l t m) g l.length) := by
  have h15 := h.n
  have ht := h.t0
  refine seq_loop l.length (bst (rem l t m) g) (fun n j s => l26_2 l m t (tabB l.length g) k n s j) k (by omega) (fun n j hj => ?_) (fun n => ?_)
  · show s26_2 _ _ _ _ _ _ _ _ = _
    unfold s26_2
    have hp := h.prod j
    rw [bifT (lt1 hj), wrapI (x := (j : Int) + 1) (by omega) (by omega)]
    refine cont_eq (bst (rem l t m) g (j + 1)) (fun kk => ?_)
    rw [asrtP (fun _ => rng (by rw [tabB_len]; exact hj)), Int.toNat_natCast, tabB_get hj]
    simp only [Option.bind_some]
    have eb : bst (rem l t m) g (j + 1) = if g j = false ∧ (bst (rem l t m) g j < 0 ∨ rem l t m (bst (rem l t m) g j).toNat < rem l t m j) then (j : Int) else bst (rem l t m) g j := rfl
    rw [eb]
    cases hg : g j with
    | true =>
      rw [if_neg (fun q => by simp at q)]
      rfl
    | false =>
      rcases bst_inv (rem l t m) g j with ⟨h1, h2⟩ | ⟨b, hb, h1, h2, h3⟩
      · rw [h1, if_pos ⟨rfl, .inl (by omega)⟩]
        rfl
      · have hq := h.prod b
        have eg : ∀ (gg : Bool) (i : Nat), i < l.length → idxG gg 0 l (i : Int) = some (bif gg then gI l i else 0) := by
          intro gg i hi
          unfold idxG
          rw [gix hi]
          cases gg <;> rfl
        rw [h1, eg _ _ hj, eg _ _ (by omega), decide_eq_false (show ¬ ((b : Int) < 0) by omega)]
        simp only [Bool.not_false, beq_self_eq_true, Bool.and_self, cond_true, Option.bind_some, Bool.false_or, Bool.true_and]
        rw [asrtP (fun _ => by simp; omega), asrtP (fun _ => by simp; omega), wrapI (x := gI l j * m) (by omega) (by omega), wrapI (x := gI l b * m) (by omega) (by omega), tmod_pos _ hp.1, tmod_pos _ hq.1]
        show (bif decide (rem l t m j > rem l t m b) then _ else _) = _
        by_cases c : rem l t m b < rem l t m j
        · rw [decide_eq_true c, if_pos ⟨trivial, .inr (by simpa using c)⟩]; rfl
        · rw [decide_eq_false c, if_neg (fun q => by
            rcases q.2 with q | q
            · omega
            · exact c (by simpa using q))]; rfl
  · show s26_2 _ _ _ _ _ _ _ _ = _
    unfold s26_2
    rw [bifF (lt0 _)]

theorem bet_asymm {K : Nat → Int} {a b : Nat} (h1 : Bet K a b) (h2 : Bet K b a) : False := by
  unfold Bet at h1 h2; omega

theorem bst_ord {K : Nat → Int} {n q : Nat} (hq : q < n) : bst K (fun i => decide (i ∈ (ordL K n).take q)) n = (((ordL K n)[q]'(by rw [ordL_len]; exact hq) : Nat) : Int) := by
  have hlt : q < (ordL K n).length := by rw [ordL_len]; exact hq
  have eL : ordL K n = (ordL K n).take q ++ (ordL K n)[q] :: (ordL K n).drop (q + 1) := by
    conv => lhs; rw [← List.take_append_drop q (ordL K n), List.drop_eq_getElem_cons hlt]
  have hnd := ordL_nodup K n
  have hs := ordL_sorted K n
  have hin : (ordL K n)[q] < n := ordL_mem.1 (List.getElem_mem hlt)
  have hng : (ordL K n)[q] ∉ (ordL K n).take q := by
    intro hm
    rw [eL] at hnd
    rw [List.nodup_append] at hnd
    exact hnd.2.2 _ hm _ (List.mem_cons_self ..) rfl
  rcases bst_inv K (fun i => decide (i ∈ (ordL K n).take q)) n with ⟨_, h2⟩ | ⟨b, hb, h1, h2, h3⟩
  · exact absurd (of_decide_eq_true (h2 _ hin)) hng
  · rw [h1]
    have hbn : b ∉ (ordL K n).take q := of_decide_eq_false h2
    rcases h3 _ hin (decide_eq_false hng) with e | e
    · rw [e]
    · exfalso
      have hb' : b ∈ ordL K n := ordL_mem.2 hb
      rw [eL] at hb' hs
      rcases List.mem_append.1 hb' with z | z
      · exact hbn z
      · rcases List.mem_cons.1 z with z | z
        · rw [z] at e; exact bet_asymm e e
        · rw [List.pairwise_append] at hs
          have := (List.pairwise_cons.1 hs.2.1).1 b z
          exact bet_asymm e this

theorem l26_3_eq {R : Type} {l : List Int} {t m : Int} (h : Sh l t m) (k : List Int → Option R) : ∀ (d n q : Nat), q + d = (lef l t m).toNat → d < n →
    l26_3 l m t k n (d : Int) (bump (tab l.length (flo l t m)) ((ordL (rem l t m) l.length).take q)) (tabB l.length (fun i => decide (i ∈ (ordL (rem l t m) l.length).take q))) = k (shareS l t m)
  | 0, n + 1, q, hq, _ => by
    show s26_3 _ _ _ _ _ _ _ _ = _
    unfold s26_3
    have : q = (lef l t m).toNat := by omega
    rw [this]
    rfl
  | d + 1, n + 1, q, hq, hn => by
    have h15 := h.n
    have hlb := h.left_b
    have hqn : q < l.length := by omega
    have hlt : q < (ordL (rem l t m) l.length).length := by rw [ordL_len]; exact hqn
    have hin : (ordL (rem l t m) l.length)[q] < l.length := ordL_mem.1 (List.getElem_mem hlt)
    have hb1 := bump_b (tab l.length (flo l t m)) ((ordL (rem l t m) l.length).take q) (fun i hi => by rw [tab_len]; exact ordL_mem.1 (List.mem_of_mem_take hi)) (ordL (rem l t m) l.length)[q]
    rw [tab_gI hin] at hb1
    have hf := h.flo_b (ordL (rem l t m) l.length)[q]
    have hl : ((ordL (rem l t m) l.length).take q).length ≤ 100 := by rw [List.length_take]; omega
    show s26_3 _ _ _ _ _ _ _ _ = _
    unfold s26_3
    rw [bifT (decide_eq_true (by omega)), l26_2_eq h, bst_ord hqn, asrtP (fun _ => rng (by rw [tabB_len]; exact hin)), Int.toNat_natCast, tabB_get hin]
    simp only [Option.bind_some]
    rw [asrtP (fun _ => rng (by rw [bump_len, tab_len]; exact hin)), gI_get (by rw [bump_len, tab_len]; exact hin)]
    simp only [Option.bind_some]
    rw [asrtP (fun _ => rng (by rw [bump_len, tab_len]; exact hin)), wrapI (x := gI _ _ + 1) (by omega) (by omega), wrapI (x := ((d + 1 : Nat) : Int) - 1) (by omega) (by omega)]
    have e1 : ((d + 1 : Nat) : Int) - 1 = (d : Int) := by omega
    have e2 : (ordL (rem l t m) l.length).take (q + 1) = (ordL (rem l t m) l.length).take q ++ [(ordL (rem l t m) l.length)[q]] := List.take_succ_eq_append_getElem hlt
    have ih := l26_3_eq h k d n (q + 1) (by omega) (by omega)
    rw [e2, bump_snoc] at ih
    rw [e1, tabB_set hin _ (fun i => decide (i ∈ (ordL (rem l t m) l.length).take q ++ [(ordL (rem l t m) l.length)[q]])) (fun i _ hne => by
      rw [Bool.eq_iff_iff, decide_eq_true_eq, decide_eq_true_eq, List.mem_append, List.mem_singleton]
      constructor
      · rintro (z | z)
        · exact z
        · exact absurd z hne
      · exact fun z => .inl z) (decide_eq_true (List.mem_append.2 (.inr (List.mem_singleton.2 rfl))))]
    exact ih

theorem m26_eq {l : List Int} {t m : Int} (h : Sh l t m) : m26 l m = some (shareS l t m) := by
  have h15 := h.n
  have ht := h.t0
  unfold m26
  rw [m25_eq ⟨h.n, h.pos⟩, h.sum]
  simp only [Option.bind_some]
  rw [asrtP (fun _ => limN (by omega)), bifF (by simp; omega), Int.toNat_natCast, tab_rep, l26_1_eq h, asrtP (fun _ => limN (by omega)), tabB_rep]
  have hlb := h.left_b
  have := l26_3_eq h (fun y => some y) (lef l t m).toNat FUEL 0 (by omega) (fuel_lt (by omega))
  rw [Int.toNat_of_nonneg hlb.1] at this
  refine Eq.trans ?_ this
  rfl

theorem m26_zero {l : List Int} {m : Int} (h : Am l) (h0 : sumN (gI l) l.length = 0) : m26 l m = some (tab l.length fun _ => 0) := by
  have h15 := h.n
  unfold m26
  rw [m25_eq h, h0]
  simp only [Option.bind_some]
  rw [asrtP (fun _ => limN (by omega)), bifT (by simp), Int.toNat_natCast, tab_rep]

/-! What sharing keeps. -/

theorem share_len (l : List Int) (t m : Int) : (shareS l t m).length = l.length := by unfold shareS; rw [bump_len, tab_len]

theorem bump_gI (o : List Int) : ∀ (is : List Nat), (∀ i ∈ is, i < o.length) → is.Nodup → ∀ j, gI (bump o is) j = gI o j + (if j ∈ is then 1 else 0) := by
  intro is
  induction is generalizing o with
  | nil => intro _ _ j; simp [bump]
  | cons i is ih =>
    intro h hn j
    rw [List.nodup_cons] at hn
    show gI (bump (o.set i _) is) j = _
    rw [ih (o.set i (gI o i + 1)) (fun a ha => by rw [List.length_set]; exact h a (List.mem_cons_of_mem _ ha)) hn.2 j, gI_set (h i (List.mem_cons_self ..))]
    by_cases e : j = i
    · subst e
      rw [if_pos rfl, if_neg hn.1, if_pos (List.mem_cons_self ..)]
      omega
    · rw [if_neg e]
      by_cases c : j ∈ is
      · rw [if_pos c, if_pos (List.mem_cons_of_mem _ c)]
      · rw [if_neg c, if_neg (fun q => by rcases List.mem_cons.1 q with q | q; exact e q; exact c q)]

theorem sumN_set (o : List Int) {i n : Nat} (x : Int) (hi : i < o.length) (hn : i < n) : sumN (gI (o.set i x)) n = sumN (gI o) n - gI o i + x := by
  have : sumN (fun j => gI (o.set i x) j - gI o j) n = x - gI o i := by
    rw [sumN_one (k := i) hn (fun j _ hne => by rw [gI_set hi, if_neg hne]; omega), gI_set hi, if_pos rfl]
  rw [sumN_sub] at this
  omega

theorem bump_sum (n : Nat) (o : List Int) : ∀ (is : List Nat), (∀ i ∈ is, i < o.length ∧ i < n) → sumN (gI (bump o is)) n = sumN (gI o) n + is.length := by
  intro is
  induction is generalizing o with
  | nil => intro _; simp [bump]
  | cons i is ih =>
    intro h
    have h1 := h i (List.mem_cons_self ..)
    show sumN (gI (bump (o.set i _) is)) n = _
    rw [ih (o.set i (gI o i + 1)) (fun a ha => by rw [List.length_set]; exact h a (List.mem_cons_of_mem _ ha)), sumN_set o _ h1.1 h1.2, List.length_cons]
    omega

theorem take_lt {K : Nat → Int} {n q i : Nat} (h : i ∈ (ordL K n).take q) : i < n := ordL_mem.1 (List.mem_of_mem_take h)

theorem share_sum {l : List Int} {t m : Int} (h : Sh l t m) : sumN (gI (shareS l t m)) l.length = m := by
  have hlb := h.left_b
  unfold shareS
  rw [bump_sum l.length _ _ (fun i hi => by rw [tab_len]; exact ⟨take_lt hi, take_lt hi⟩), List.length_take, ordL_len, sumN_congr (g := flo l t m) (fun i hi => tab_gI hi _)]
  unfold lef at *
  omega

theorem share_gI {l : List Int} {t m : Int} (i : Nat) (hi : i < l.length) : gI (shareS l t m) i = flo l t m i + (if i ∈ (ordL (rem l t m) l.length).take (lef l t m).toNat then 1 else 0) := by
  unfold shareS
  rw [bump_gI _ _ (fun i hi => by rw [tab_len]; exact take_lt hi) ((List.take_sublist _ _).nodup (ordL_nodup _ _)), tab_gI hi]

def lsum : List Int → Int
  | [] => 0
  | a :: l => a + lsum l
theorem lsum_app : ∀ a b : List Int, lsum (a ++ b) = lsum a + lsum b
  | [], b => by simp [lsum]
  | x :: a, b => by show x + lsum (a ++ b) = x + lsum a + lsum b; rw [lsum_app a b]; omega
theorem lsum_perm {a b : List Int} (h : a.Perm b) : lsum a = lsum b := by
  induction h with
  | nil => rfl
  | cons x _ ih => show x + _ = x + _; rw [ih]
  | swap x y l => show y + (x + _) = x + (y + _); omega
  | trans _ _ h1 h2 => exact h1.trans h2
theorem lsum_range (K : Nat → Int) : ∀ n, lsum ((List.range n).map K) = sumN K n
  | 0 => rfl
  | n + 1 => by rw [List.range_succ, List.map_append, lsum_app, lsum_range K n]; simp [lsum, sumN]
theorem lsum_le {c : Int} : ∀ {l : List Int}, (∀ x ∈ l, x ≤ c) → lsum l ≤ c * (l.length : Int)
  | [], _ => by simp [lsum]
  | a :: l, h => by
    have h1 := h a (List.mem_cons_self ..)
    have h2 := lsum_le (l := l) (fun x hx => h x (List.mem_cons_of_mem _ hx))
    rw [List.length_cons]
    have : c * ((l.length + 1 : Nat) : Int) = c * (l.length : Int) + c := by
      rw [Int.natCast_add, Int.mul_add]; simp
    rw [this]
    show a + lsum l ≤ _
    omega

/-- Only who has a rest gets one more. -/
theorem take_rem {l : List Int} {t m : Int} (h : Sh l t m) {i : Nat} (hi : i ∈ (ordL (rem l t m) l.length).take (lef l t m).toNat) : 0 < rem l t m i := by
  apply Classical.byContradiction
  intro hc
  have ht := h.t0
  have hlb := h.left_b
  obtain ⟨p, hp, e⟩ := List.getElem_of_mem hi
  rw [List.length_take, ordL_len] at hp
  rw [List.getElem_take] at e
  have hlt : p < (ordL (rem l t m) l.length).length := by rw [ordL_len]; omega
  have hs := ordL_sorted (rem l t m) l.length
  have eL : ordL (rem l t m) l.length = (ordL (rem l t m) l.length).take p ++ (ordL (rem l t m) l.length)[p] :: (ordL (rem l t m) l.length).drop (p + 1) := by
    conv => lhs; rw [← List.take_append_drop p (ordL (rem l t m) l.length), List.drop_eq_getElem_cons hlt]
  have hsum : lsum ((ordL (rem l t m) l.length).map (rem l t m)) = t * lef l t m := by
    rw [lsum_perm ((ordL_perm (rem l t m) l.length).map _), lsum_range, h.left_eq]
  rw [eL, List.map_append, lsum_app] at hsum
  have a1 : lsum (((ordL (rem l t m) l.length).take p).map (rem l t m)) ≤ t * (p : Int) := by
    have := lsum_le (c := t) (l := ((ordL (rem l t m) l.length).take p).map (rem l t m)) (fun x hx => by
      obtain ⟨a, _, rfl⟩ := List.mem_map.1 hx
      have := (h.rem_b a).2
      omega)
    rw [List.length_map, List.length_take, Nat.min_eq_left (by omega)] at this
    exact this
  have a2 : lsum (((ordL (rem l t m) l.length)[p] :: (ordL (rem l t m) l.length).drop (p + 1)).map (rem l t m)) ≤ 0 := by
    have := lsum_le (c := 0) (l := ((ordL (rem l t m) l.length)[p] :: (ordL (rem l t m) l.length).drop (p + 1)).map (rem l t m)) (fun x hx => by
      obtain ⟨a, ha, rfl⟩ := List.mem_map.1 hx
      rcases List.mem_cons.1 ha with z | z
      · rw [z, e]; omega
      · rw [eL, List.pairwise_append] at hs
        have := (List.pairwise_cons.1 hs.2.1).1 a z
        rw [e] at this
        unfold Bet at this
        omega)
    rw [Int.zero_mul] at this
    exact this
  have a3 : t * lef l t m ≤ t * (p : Int) := by omega
  have := Int.le_of_mul_le_mul_left a3 ht
  omega

theorem share_b {l : List Int} {t m : Int} (h : Sh l t m) (hmt : m ≤ t) (i : Nat) (hi : i < l.length) : 0 ≤ gI (shareS l t m) i ∧ gI (shareS l t m) i ≤ gI l i ∧ gI (shareS l t m) i * t - gI l i * m < t ∧ -t < gI (shareS l t m) i * t - gI l i * m := by
  have hf := h.flo_b i
  have hr := h.rem_b i
  have he := Sh.eq (l := l) (t := t) (m := m) i
  have ht := h.t0
  have hg := h.pos i
  have hml : gI l i * m ≤ gI l i * t := Int.mul_le_mul_of_nonneg_left hmt hg.1
  rw [share_gI i hi]
  by_cases c : i ∈ (ordL (rem l t m) l.length).take (lef l t m).toNat
  · rw [if_pos c]
    have hp := take_rem h c
    have e : (flo l t m i + 1) * t = t * flo l t m i + t := by rw [Int.add_mul, Int.mul_comm]; omega
    have e2 : gI l i * t = t * gI l i := Int.mul_comm _ _
    have : t * flo l t m i < t * gI l i := by omega
    have := Int.lt_of_mul_lt_mul_left this (by omega)
    rw [e]
    omega
  · rw [if_neg c, Int.add_zero]
    have e : flo l t m i * t = t * flo l t m i := Int.mul_comm _ _
    have e2 : gI l i * t = t * gI l i := Int.mul_comm _ _
    have : t * flo l t m i ≤ t * gI l i := by omega
    have := Int.le_of_mul_le_mul_left this ht
    rw [e]
    omega

end Go.Proofs.Ytidlfemliaepjaa
