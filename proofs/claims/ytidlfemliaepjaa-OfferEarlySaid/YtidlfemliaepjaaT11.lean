/- Offer: a late tender more or less. -/
import Derived.Test.YtidlfemliaepjaaT8
namespace Go.Proofs.Ytidlfemliaepjaa
open Go Go.Eng
set_option linter.unusedVariables false
set_option linter.unusedSimpArgs false

/-- The places without place k. -/
def sg (k i : Nat) : Nat := if i < k then i else i + 1

theorem er_gT (l : List T38) (k i : Nat) : gT (l.eraseIdx k) i = gT l (sg k i) := by
  unfold gT sg
  rw [List.getD_eq_getElem?_getD, List.getD_eq_getElem?_getD, List.getElem?_eraseIdx]
  split <;> rfl

theorem er_sea (l : List T38) (k i : Nat) : sea (l.eraseIdx k) i = sea l (sg k i) := by unfold sea; rw [er_gT]

theorem sum_sg (f : Nat → Int) (k : Nat) : ∀ n, k ≤ n → sumN (fun i => f (sg k i)) n = sumN f (n + 1) - f k
  | 0, h => by
    have : k = 0 := by omega
    subst this
    simp [sumN]
  | n + 1, h => by
    by_cases e : k = n + 1
    · subst e
      have e1 : sumN (fun i => f (sg (n + 1) i)) (n + 1) = sumN f (n + 1) := sumN_congr fun i hi => by unfold sg; rw [if_pos hi]
      rw [e1]
      simp only [sumN]
      omega
    · have ih := sum_sg f k n (by omega)
      simp only [sumN] at ih ⊢
      rw [ih]
      have : sg k n = n + 1 := if_neg (by omega)
      rw [this]
      omega

theorem er_rt {o : T22} {l : List T38} {u : List Int} (h : Rt o l u) {k : Nat} (hk : k < l.length) : Rt o (l.eraseIdx k) u := by
  have hl := List.length_eraseIdx_of_lt hk
  have hn := h.n
  refine ⟨by omega, h.nu, h.ok.1, h.ok.2.1, fun i hi => ?_⟩
  rw [er_gT]
  exact h.ok.2.2 _ (by unfold sg; split <;> omega)

theorem lf_low (la : Int) (l : List T38) (u : List Int) (k : Nat) : ∀ i, i ≤ k → lf la (l.eraseIdx k) u i = lf la l u i
  | 0, _ => rfl
  | i + 1, hi => by
    have ih := lf_low la l u k i (by omega)
    have e : sg k i = i := if_pos (by omega)
    unfold lf
    rw [er_sea, er_gT, e, ih]

theorem lf_high {o : T22} {l : List T38} {u : List Int} (h : Rt o l u) (la : Int) {k : Nat} (hk : k < l.length) : ∀ d s, k + d + 1 ≤ l.length → gI (lf la l u (k + d + 1)) s ≤ gI (lf la (l.eraseIdx k) u (k + d)) s ∧ (s ≠ sea l k → gI (lf la l u (k + d + 1)) s = gI (lf la (l.eraseIdx k) u (k + d)) s)
  | 0, s, hd => by
    have e0 : lf la (l.eraseIdx k) u (k + 0) = lf la l u k := lf_low la l u k k (Nat.le_refl _)
    rw [e0]
    have hb := h.lf_b la k (by omega) (sea l k)
    have ht := h.ten hk
    have e : lf la l u (k + 1) = if (gT l k).2.2.1 ≤ la then (lf la l u k).set (sea l k) (gI (lf la l u k) (sea l k) - min (gT l k).2.1 (gI (lf la l u k) (sea l k))) else lf la l u k := rfl
    rw [show k + 0 + 1 = k + 1 from rfl, e]
    split
    · rw [gI_set (by rw [lf_len]; exact h.sea_lt hk)]
      split
      · rename_i q
        rw [q]
        exact ⟨by omega, fun z => absurd rfl z⟩
      · exact ⟨Int.le_refl _, fun _ => rfl⟩
    · exact ⟨Int.le_refl _, fun _ => rfl⟩
  | d + 1, s, hd => by
    have ih := fun s => lf_high h la hk d s (by omega)
    have hlt : k + d + 1 < l.length := by omega
    have ht := h.ten hlt
    have esg : sg k (k + d) = k + d + 1 := if_neg (by omega)
    have e1 : lf la l u (k + (d + 1) + 1) = if (gT l (k + d + 1)).2.2.1 ≤ la then (lf la l u (k + d + 1)).set (sea l (k + d + 1)) (gI (lf la l u (k + d + 1)) (sea l (k + d + 1)) - min (gT l (k + d + 1)).2.1 (gI (lf la l u (k + d + 1)) (sea l (k + d + 1)))) else lf la l u (k + d + 1) := rfl
    have e2 : lf la (l.eraseIdx k) u (k + (d + 1)) = if (gT l (k + d + 1)).2.2.1 ≤ la then (lf la (l.eraseIdx k) u (k + d)).set (sea l (k + d + 1)) (gI (lf la (l.eraseIdx k) u (k + d)) (sea l (k + d + 1)) - min (gT l (k + d + 1)).2.1 (gI (lf la (l.eraseIdx k) u (k + d)) (sea l (k + d + 1)))) else lf la (l.eraseIdx k) u (k + d) := by
      rw [← esg, ← er_gT, ← er_sea]
      rfl
    rw [e1, e2]
    split
    · rw [gI_set (by rw [lf_len]; exact h.sea_lt hlt), gI_set (by rw [lf_len]; exact h.sea_lt hlt)]
      have i1 := ih (sea l (k + d + 1))
      split
      · rename_i q
        refine ⟨by omega, fun z => ?_⟩
        rw [i1.2 (q ▸ z)]
      · exact ih s
    · exact ih s

/-- No early tender of this seat comes later. -/
def Own0 (o : T22) (l : List T38) (k : Nat) : Prop := ∀ j, k < j → j < l.length → sea l j = sea l k → o.2.2.1 < (gT l j).2.2.1

theorem er_ea {o : T22} {l : List T38} {u : List Int} (h : Rt o l u) {k : Nat} (hk : k < l.length) (hown : Own0 o l k) (i : Nat) (hi : i + 1 < l.length) : eaL o (l.eraseIdx k) u i = eaL o l u (sg k i) := by
  unfold eaL
  rw [er_gT]
  by_cases c : (gT l (sg k i)).2.2.1 ≤ o.2.2.1
  · rw [if_pos c, if_pos c]
    unfold gd
    rw [er_gT, er_sea]
    split
    · congr 1
      by_cases q : i < k
      · have e : sg k i = i := if_pos q
        rw [e, lf_low _ _ _ _ _ (by omega)]
      · have e : sg k i = i + 1 := if_neg q
        rw [e] at c ⊢
        obtain ⟨d, rfl⟩ : ∃ d, i = k + d := ⟨i - k, by omega⟩
        refine ((lf_high h o.2.2.2.1 hk d _ (by omega)).2 (fun z => ?_)).symm
        have := hown (k + d + 1) (by omega) (by omega) z
        omega
    · rfl
  · rw [if_neg c, if_neg c]

theorem er_tot {o : T22} {l : List T38} {u : List Int} (h : Rt o l u) {k : Nat} (hk : k < l.length) : sumN (gd o.2.2.2.1 (l.eraseIdx k) u) (l.eraseIdx k).length ≤ sumN (gd o.2.2.2.1 l u) l.length := by
  have h' := er_rt h hk
  have hl := List.length_eraseIdx_of_lt hk
  rw [← cnt_all h, ← cnt_all h']
  refine sumN_le fun s _ => ?_
  have h1 := h.lf_eq o.2.2.2.1 s l.length (Nat.le_refl _)
  have h2 := h'.lf_eq o.2.2.2.1 s (l.eraseIdx k).length (Nat.le_refl _)
  obtain ⟨d, hd⟩ : ∃ d, l.length = k + d + 1 := ⟨l.length - k - 1, by omega⟩
  have h3 := (lf_high h o.2.2.2.1 hk d s (by omega)).1
  rw [← hd] at h3
  have e : (l.eraseIdx k).length = k + d := by omega
  rw [← e] at h3
  unfold cnt
  omega

theorem sg_inj {k a b : Nat} (h : sg k a = sg k b) : a = b := by
  unfold sg at h
  split at h <;> split at h <;> omega

theorem sg_lt {k a b : Nat} (h : a < b) : sg k a < sg k b := by
  unfold sg
  split <;> split <;> omega

/-- The order without a place that has no rest. -/
theorem ord_er {K K' : Nat → Int} {n k : Nat} (hk : k < n + 1) (hK : ∀ i, i < n → K' i = K (sg k i)) : (ordL K (n + 1)).filter (fun i => i != k) = (ordL K' n).map (sg k) := by
  refine List.Perm.eq_of_pairwise (le := Bet K) (fun a b _ _ h1 h2 => (bet_asymm h1 h2).elim) ((ordL_sorted K (n + 1)).filter _) ?_ ?_
  · rw [List.pairwise_map]
    refine (ordL_sorted K' n).imp_of_mem (fun {a b} ha hb hab => ?_)
    have h1 := hK a (ordL_mem.1 ha)
    have h2 := hK b (ordL_mem.1 hb)
    have h3 := fun z => sg_lt (k := k) (a := a) (b := b) z
    unfold Bet at hab ⊢
    rw [← h1, ← h2]
    rcases hab with q | ⟨q, q'⟩
    · exact .inl q
    · exact .inr ⟨q, h3 q'⟩
  · have n1 : ((ordL K (n + 1)).filter (fun i => i != k)).Nodup := (ordL_nodup K (n + 1)).filter _
    have n2 : ((ordL K' n).map (sg k)).Nodup := by
      unfold List.Nodup
      rw [List.pairwise_map]
      exact (ordL_nodup K' n).imp (fun hne e => hne (sg_inj e))
    rw [List.perm_ext_iff_of_nodup n1 n2]
    intro a
    rw [List.mem_filter, List.mem_map, ordL_mem]
    constructor
    · rintro ⟨h1, h2⟩
      have h2 : a ≠ k := by simpa using h2
      by_cases q : a < k
      · exact ⟨a, ordL_mem.2 (by omega), if_pos q⟩
      · exact ⟨a - 1, ordL_mem.2 (by omega), by unfold sg; rw [if_neg (by omega)]; omega⟩
    · rintro ⟨b, hb, rfl⟩
      have hb := ordL_mem.1 hb
      unfold sg
      split
      · exact ⟨by omega, by simp; omega⟩
      · exact ⟨by omega, by simp; omega⟩

theorem take_er {K K' : Nat → Int} {n k q : Nat} (hk : k < n + 1) (hK : ∀ i, i < n → K' i = K (sg k i)) (hq : q ≤ n + 1) (hno : k ∉ (ordL K (n + 1)).take q) (i : Nat) : sg k i ∈ (ordL K (n + 1)).take q ↔ i ∈ (ordL K' n).take q := by
  have e1 : ((ordL K (n + 1)).filter (fun i => i != k)).take q = (ordL K (n + 1)).take q := by
    conv => lhs; rw [← List.take_append_drop q (ordL K (n + 1)), List.filter_append]
    have e2 : ((ordL K (n + 1)).take q).filter (fun i => i != k) = (ordL K (n + 1)).take q := by
      rw [List.filter_eq_self]
      intro a ha
      rw [bne_iff_ne]
      intro e
      exact hno (e ▸ ha)
    rw [e2, List.take_append_of_le_length (by rw [List.length_take, ordL_len]; omega), List.take_of_length_le (by rw [List.length_take]; omega)]
  rw [← e1, ord_er hk hK, ← List.map_take, List.mem_map]
  constructor
  · rintro ⟨b, hb, e⟩
    rw [← sg_inj e]; exact hb
  · exact fun hb => ⟨i, hb, rfl⟩

/-- Shares without a place that has nothing. -/
theorem share_er {f g : Nat → Int} {n k : Nat} {t m : Int} (h : Sh (tab (n + 1) f) t m) (h' : Sh (tab n g) t m) (hk : k < n + 1) (hg : ∀ i, i < n → g i = f (sg k i)) (h0 : f k = 0) {i : Nat} (hi : i < n) :
    gI (shareS (tab (n + 1) f) t m) (sg k i) = gI (shareS (tab n g) t m) i := by
  have hsl : ∀ j, j < n → sg k j < n + 1 := fun j hj => by unfold sg; split <;> omega
  have eK : ∀ j, j < n → rem (tab n g) t m j = rem (tab (n + 1) f) t m (sg k j) := fun j hj => by
    unfold rem; rw [tab_gI hj, tab_gI (hsl j hj), hg j hj]
  have eF : ∀ j, j < n → flo (tab n g) t m j = flo (tab (n + 1) f) t m (sg k j) := fun j hj => by
    unfold flo; rw [tab_gI hj, tab_gI (hsl j hj), hg j hj]
  have f0 : flo (tab (n + 1) f) t m k = 0 := by unfold flo; rw [tab_gI hk, h0]; simp
  have r0 : rem (tab (n + 1) f) t m k = 0 := by unfold rem; rw [tab_gI hk, h0]; simp
  have eL : lef (tab n g) t m = lef (tab (n + 1) f) t m := by
    unfold lef
    rw [tab_len, tab_len, sumN_congr eF, sum_sg _ k n (by omega), f0, Int.sub_zero]
  have hlb := h.left_b
  rw [tab_len] at hlb
  rw [share_gI _ (by rw [tab_len]; exact hsl i hi), share_gI _ (by rw [tab_len]; exact hi), eF i hi, eL, tab_len, tab_len]
  congr 1
  have hno : k ∉ (ordL (rem (tab (n + 1) f) t m) (n + 1)).take (lef (tab (n + 1) f) t m).toNat := by
    intro hm
    have := take_rem h (i := k) (by rw [tab_len]; exact hm)
    omega
  have := take_er hk eK (q := (lef (tab (n + 1) f) t m).toNat) (by omega) hno i
  by_cases c : sg k i ∈ (ordL (rem (tab (n + 1) f) t m) (n + 1)).take (lef (tab (n + 1) f) t m).toNat
  · rw [if_pos c, if_pos (this.1 c)]
  · rw [if_neg c, if_neg (fun z => c (this.2 z))]

/-- Early tenders are taken whole, unless there is too much of them. -/
theorem early_all {o : T22} {l : List T38} {u : List Int} (h : Rt o l u) (h1 : o.2.2.2.2.2.2.1 ≤ fst1 o l u + snd1 o l u) (h2 : ¬ (o.2.2.2.2.2.2.2.1 < fst1 o l u ∨ (fst1 o l u = o.2.2.2.2.2.2.2.1 ∧ 0 < fst1 o l u))) {i : Nat} (hi : i < l.length) (he : (gT l i).2.2.1 ≤ o.2.2.1) :
    gI (takenS o l u) i = eaL o l u i := by
  have hs := h.sums l.length (Nat.le_refl _)
  have hoff := h.off
  have hn := h.n
  have eS : sumN (laL o l u) l.length = snd1 o l u := rfl
  have eF : sumN (eaL o l u) l.length = fst1 o l u := rfl
  rw [eF, eS] at hs
  have z : laL o l u i = 0 := if_pos he
  unfold takenS
  rw [if_neg (by omega), if_neg h2]
  split
  · rename_i c3
    have hsh : Sh (tab l.length (laL o l u)) (snd1 o l u) (o.2.2.2.2.2.2.2.1 - fst1 o l u) := sh_tab (by omega) (fun i hi => by have := h.ea_b hi; omega) (by omega) (by omega) (by rw [eS]; omega)
    have := share_b hsh (by omega) i (by rw [tab_len]; exact hi)
    rw [tab_gI hi, z] at this
    rw [tab_gI hi]
    omega
  · rw [tab_gI hi, ← ea_la o l u i, z, Int.add_zero]

theorem early_er {o : T22} {l : List T38} {u : List Int} (h : Rt o l u) {k : Nat} (hk : k < l.length) (hown : Own0 o l k) (hlate : o.2.2.1 < (gT l k).2.2.1) (hle : o.2.2.2.2.2.2.1 ≤ sumN (gd o.2.2.2.1 (l.eraseIdx k) u) (l.eraseIdx k).length) {i : Nat} (hi : i + 1 < l.length) (he : (gT l (sg k i)).2.2.1 ≤ o.2.2.1) :
    gI (takenS o l u) (sg k i) = gI (takenS o (l.eraseIdx k) u) i := by
  have h' := er_rt h hk
  have hl := List.length_eraseIdx_of_lt hk
  have ht := er_tot h hk
  obtain ⟨n, hn⟩ : ∃ n, l.length = n + 1 := ⟨l.length - 1, by omega⟩
  have hn' : (l.eraseIdx k).length = n := by omega
  have hsl : sg k i < l.length := by unfold sg; split <;> omega
  have z : eaL o l u k = 0 := if_neg (by omega)
  have eF : fst1 o (l.eraseIdx k) u = fst1 o l u := by
    unfold fst1
    rw [hn', sumN_congr (fun j hj => er_ea h hk hown j (by omega)), sum_sg (eaL o l u) k n (by omega), z, hn, Int.sub_zero]
  rw [gd_sum] at hle ht
  rw [gd_sum] at ht
  by_cases c : o.2.2.2.2.2.2.2.1 < fst1 o l u ∨ (fst1 o l u = o.2.2.2.2.2.2.2.1 ∧ 0 < fst1 o l u)
  · have hoff := h.off
    have hb := fun i (hi : i < l.length) => h.ea_b hi
    have hn14 := h.n
    have hsh : Sh (tab l.length (eaL o l u)) (fst1 o l u) o.2.2.2.2.2.2.2.1 := sh_tab (by omega) (fun i hi => by have := h.ea_b hi; omega) (by omega) (by omega) (by show 0 < fst1 o l u; omega)
    have hsh' : Sh (tab (l.eraseIdx k).length (eaL o (l.eraseIdx k) u)) (fst1 o (l.eraseIdx k) u) o.2.2.2.2.2.2.2.1 := sh_tab (by omega) (fun i hi => by have := h'.ea_b hi; omega) (by omega) (by omega) (by show 0 < fst1 o (l.eraseIdx k) u; omega)
    have e1 : takenS o l u = shareS (tab l.length (eaL o l u)) (fst1 o l u) o.2.2.2.2.2.2.2.1 := by unfold takenS; rw [if_neg (by omega), if_pos c]
    have e2 : takenS o (l.eraseIdx k) u = shareS (tab (l.eraseIdx k).length (eaL o (l.eraseIdx k) u)) (fst1 o (l.eraseIdx k) u) o.2.2.2.2.2.2.2.1 := by unfold takenS; rw [if_neg (by omega), if_pos (by rw [eF]; exact c)]
    rw [e1, e2]
    rw [hn] at hsh ⊢
    rw [hn', eF] at hsh' ⊢
    exact share_er hsh hsh' (by omega) (fun j hj => er_ea h hk hown j (by omega)) z (by omega)
  · rw [early_all h (by omega) c hsl he, early_all h' hle (by rw [eF]; exact c) (by omega) (by rw [er_gT]; exact he), er_ea h hk hown i hi]

/-! The code. -/

theorem l6_1_eq {R : Type} (a : List Int) (h : Am a) (k : Int → Option R) : l6_1 a k FUEL 0 0 = k (sumN (gI a) a.length) := by
  have hn := h.n
  refine seq_loop a.length (sumN (gI a)) (fun n j s => l6_1 a k n s j) k (by omega) (fun n j hj => ?_) (fun n => ?_)
  · show s6_1 _ _ _ _ _ = _
    unfold s6_1
    have h1 := h.part j (by omega)
    have h2 := h.pos j
    rw [bifT (lt1 hj), asrtP (fun _ => rng hj), Int.toNat_natCast, gI_get hj, wrapI (x := (j : Int) + 1) (by omega) (by omega)]
    simp only [Option.bind_some]
    rw [wrapI (x := _ + gI a j) (by omega) (by omega)]
    rfl
  · show s6_1 _ _ _ _ _ = _
    unfold s6_1
    rw [bifF (lt0 _)]

/-- An early tender of this seat from j on. -/
def own (o : T22) (l : List T38) (k j : Nat) : Bool := decide (∃ i, i < l.length ∧ j ≤ i ∧ sea l i = sea l k ∧ (gT l i).2.2.1 ≤ o.2.2.1)

theorem l6_2_eq {R : Type} {o : T22} {l : List T38} {u : List Int} (h : Rt o l u) {k : Nat} (hk : k < l.length) (kk : Bool → Option R) : ∀ (m n j : Nat) (b : Bool), j + m = l.length → m < n → ∃ c, l6_2 l (k : Int) o kk n b (j : Int) = kk c ∧ (c = false → b = false ∧ ∀ i, j ≤ i → i < l.length → sea l i = sea l k → o.2.2.1 < (gT l i).2.2.1)
  | 0, n + 1, j, b, hj, _ => by
    have : j = l.length := by omega
    subst this
    refine ⟨b, ?_, fun e => ⟨e, fun i h1 h2 => absurd h2 (by omega)⟩⟩
    show s6_2 _ _ _ _ _ _ _ = _
    unfold s6_2
    rw [bifF (lt0 _)]
  | m + 1, n + 1, j, b, hj, hn => by
    have hlt : j < l.length := by omega
    have hl := h.n
    have h1 := h.ten hlt
    have h2 := h.ten hk
    have hstep : l6_2 l (k : Int) o kk (n + 1) b (j : Int) = l6_2 l (k : Int) o kk n (b || (((gT l j).1 == (gT l k).1) && decide ((gT l j).2.2.1 ≤ o.2.2.1))) ((j + 1 : Nat) : Int) := by
      show s6_2 _ _ _ _ _ _ _ = _
      unfold s6_2
      rw [bifT (lt1 hlt), wrapI (x := (j : Int) + 1) (by omega) (by omega)]
      simp only [gTg hlt, gTg hk, Option.bind_some]
      cases b with
      | true => rfl
      | false =>
        simp only [beq_self_eq_true, cond_true, Bool.true_and, Bool.false_or]
        cases hc : ((gT l j).1 == (gT l k).1) with
        | false => rfl
        | true => rfl
    obtain ⟨c, e, hc⟩ := l6_2_eq h hk kk m n (j + 1) (b || (((gT l j).1 == (gT l k).1) && decide ((gT l j).2.2.1 ≤ o.2.2.1))) (by omega) (by omega)
    refine ⟨c, hstep.trans e, fun z => ?_⟩
    obtain ⟨z1, z2⟩ := hc z
    rw [Bool.or_eq_false_iff] at z1
    refine ⟨z1.1, fun i hi1 hi2 hs => ?_⟩
    by_cases q : i = j
    · subst q
      have : ((gT l i).1 == (gT l k).1) = true := by unfold sea at hs; rw [beq_iff_eq]; omega
      rw [this, Bool.true_and] at z1
      have := of_decide_eq_false z1.2
      omega
    · exact z2 i (by omega) hi2 hs

theorem l6_3_eq {R : Type} {o : T22} {l : List T38} {u : List Int} (h : Rt o l u) {k : Nat} (hk : k < l.length) (hall : ∀ i, i + 1 < l.length → (gT l (sg k i)).2.2.1 ≤ o.2.2.1 → gI (takenS o l u) (sg k i) = gI (takenS o (l.eraseIdx k) u) i) (k1 k2 : Option R) :
    l6_3 l (k : Int) o (takenS o l u) (l.eraseIdx k) (takenS o (l.eraseIdx k) u) k1 k2 FUEL 0 = k1 := by
  have hn := h.n
  have hl := List.length_eraseIdx_of_lt hk
  have h' := er_rt h hk
  have ht := (takenS_tk h).n
  have ht' := (takenS_tk h').n
  refine seq_loop (l.eraseIdx k).length (fun _ => ()) (fun n j (_ : Unit) => l6_3 l (k : Int) o (takenS o l u) (l.eraseIdx k) (takenS o (l.eraseIdx k) u) k1 k2 n j) (fun _ => k1) (by omega) (fun n j hj => ?_) (fun n => ?_)
  · show s6_3 _ _ _ _ _ _ _ _ _ _ = _
    unfold s6_3
    have hsl : sg k j < l.length := by unfold sg; split <;> omega
    rw [bifT (lt1 hj), wrapI (x := (j : Int) + 1) (by omega) (by omega)]
    refine (cont_eq ((sg k j : Nat) : Int) (fun kk => ?_)).trans ?_
    · unfold sg
      by_cases c : j < k
      · rw [bifF (decide_eq_false (by omega)), if_pos c]
      · rw [bifT (decide_eq_true (by omega)), if_neg c]; rfl
    · rw [gTx hsl]
      simp only [Option.bind_some]
      have rT := rng (show sg k j < (takenS o l u).length by omega)
      have rT' := rng (show j < (takenS o (l.eraseIdx k) u).length by omega)
      have g1 : (takenS o l u)[((sg k j : Nat) : Int).toNat]? = some (gI (takenS o l u) (sg k j)) := by rw [Int.toNat_natCast]; exact gI_get (by omega)
      have g2 : (takenS o (l.eraseIdx k) u)[((j : Nat) : Int).toNat]? = some (gI (takenS o (l.eraseIdx k) u) j) := by rw [Int.toNat_natCast]; exact gI_get (by omega)
      rw [asrtP (fun _ => rT), g1]
      by_cases c : (gT l (sg k j)).2.2.1 ≤ o.2.2.1
      · rw [decide_eq_true c]
        simp only [beq_self_eq_true, cond_true, Option.bind_some]
        rw [asrtP (fun _ => rT'), g2]
        simp only [Option.bind_some]
        rw [hall j (by omega) c]
        simp
      · rw [decide_eq_false c]
        rfl
  · show s6_3 _ _ _ _ _ _ _ _ _ _ = _
    unfold s6_3
    rw [bifF (lt0 _)]

theorem offerEarly (o : T22) (l : List T38) (u : List Int) (a : Int) (ha : 0 ≤ a ∧ a ≤ 255) : m6 o l u a = some true := by
  unfold m6
  rw [m8_eq, m9_eq]
  simp only [Option.bind_some]
  by_cases hf : l.length ≤ 14 ∧ u.length ≤ 10
  case neg => rw [decide_eq_false hf]; rfl
  rw [decide_eq_true hf]
  simp only [Bool.not_true, Bool.false_or]
  by_cases h0 : l.length = 0
  · rw [bifT (by rw [h0]; rfl)]
  rw [bifF (by rw [beq_eq_false_iff_ne]; omega)]
  by_cases h : Ok o l u
  · have hr : Rt o l u := ⟨hf.1, hf.2, h⟩
    have ht := takenS_tk hr
    rw [m12_eq hr, wrapI (x := a) (by omega) (by omega), tmod_pos _ ha.1]
    simp only [Option.bind_some, bne_self_eq_false, cond_false]
    have hk0 : 0 ≤ a % (l.length : Int) := Int.emod_nonneg _ (by omega)
    have hk1 : a % (l.length : Int) < (l.length : Int) := Int.emod_lt_of_pos _ (by omega)
    obtain ⟨k, hk⟩ : ∃ k : Nat, a % (l.length : Int) = (k : Int) := ⟨(a % (l.length : Int)).toNat, by omega⟩
    rw [hk] at hk1 ⊢
    have hkl : k < l.length := by omega
    have hl := List.length_eraseIdx_of_lt hkl
    rw [wrapI (x := (k : Int) + 1) (by omega) (by omega)]
    have e1 : subl l 0 (k : Int) = l.take k := by unfold subl; simp
    have e2 : subl l ((k : Int) + 1) (l.length : Int) = l.drop (k + 1) := by
      unfold subl
      rw [Int.toNat_natCast, List.take_of_length_le (Nat.le_refl _), show ((k : Int) + 1).toNat = k + 1 by omega]
    have e3 : l.take k ++ l.drop (k + 1) = l.eraseIdx k := (List.eraseIdx_eq_take_drop_succ l k).symm
    rw [e1, e2, e3]
    rw [asrtP (fun _ => by rw [bne_iff_ne]; omega), asrtP (fun _ => by unfold bounds; simp; omega), asrtP (fun _ => lim2 (by rw [List.length_take]; omega)), asrtP (fun _ => by unfold bounds; simp; omega), asrtP (fun _ => lim2 (by rw [List.length_take, List.length_drop]; omega))]
    have hr' := er_rt hr hkl
    have ht' := takenS_tk hr'
    rw [m12_eq hr', m16_eq hr']
    simp only [Option.bind_some, bne_self_eq_false]
    rw [bifF (by rw [ht.n, ht'.n]; simp)]
    have amG : Am (tab (l.eraseIdx k).length (gd o.2.2.2.1 (l.eraseIdx k) u)) := am_tab (by omega) fun i hi => by have := hr'.ea_b hi; omega
    rw [l6_1_eq _ amG, tab_sum]
    have e4 : ((k : Int) + 1) = ((k + 1 : Nat) : Int) := by omega
    rw [e4]
    obtain ⟨c, ec, hc⟩ := l6_2_eq hr hkl (fun y11 => (idx l (k : Int)).bind fun x12 => bif (((decide (x12.2.2.1 ≤ o.2.2.1)) || (decide (sumN (gd o.2.2.2.1 (l.eraseIdx k) u) (l.eraseIdx k).length < o.2.2.2.2.2.2.1))) || y11) then some true else l6_3 l (k : Int) o (takenS o l u) (l.eraseIdx k) (takenS o (l.eraseIdx k) u) (some true) (some false) FUEL 0) (l.length - (k + 1)) FUEL (k + 1) false (by omega) (fuel_lt (by omega))
    refine ec.trans ?_
    rw [gTx hkl]
    simp only [Option.bind_some]
    by_cases q1 : (gT l k).2.2.1 ≤ o.2.2.1
    · rw [decide_eq_true q1]; rfl
    by_cases q2 : sumN (gd o.2.2.2.1 (l.eraseIdx k) u) (l.eraseIdx k).length < o.2.2.2.2.2.2.1
    · rw [decide_eq_true q2, Bool.or_true]; rfl
    cases hcc : c with
    | true => rw [Bool.or_true]; rfl
    | false =>
      rw [decide_eq_false q1, decide_eq_false q2]
      have hown : Own0 o l k := fun j hj1 hj2 hs => (hc hcc).2 j (by omega) hj2 hs
      exact l6_3_eq hr hkl (fun i hi he => early_er hr hkl hown (by omega) (by omega) hi he) _ _
  · rw [m12_bad hf.1 hf.2 h]
    rfl

end Go.Proofs.Ytidlfemliaepjaa
