/- Offer: the reference's answer; what both give. -/
import Derived.Test.YtidlfemliaepjaaT5
namespace Go.Proofs.Ytidlfemliaepjaa
open Go Go.Eng
set_option linter.unusedVariables false
set_option linter.unusedSimpArgs false

theorem tab_ext {n : Nat} {f g : Nat → Int} (h : ∀ i, i < n → f i = g i) : tab n f = tab n g := by
  unfold tab
  apply List.map_congr_left
  intro i hi
  exact h i (List.mem_range.1 hi)

theorem l13_1_eq {R : Type} {o : T22} {l : List T38} {u : List Int} (h : Rt o l u) (k : List Int → List Int → Option R) :
    l13_1 l o (tab l.length (gd o.2.2.2.1 l u)) k FUEL 0 (tab l.length fun _ => 0) (tab l.length fun _ => 0) = k (tab l.length (eaL o l u)) (tab l.length (laL o l u)) := by
  have hn := h.n
  have e1 : ∀ f : Nat → Int, tab l.length (fun i => if i < l.length then f i else 0) = tab l.length f := fun f => tab_ext fun i hi => if_pos hi
  rw [← e1 (eaL o l u), ← e1 (laL o l u)]
  have tS : ∀ (f : Nat → Int) (j : Nat), j < l.length → (tab l.length (fun i => if i < j then f i else 0)).set j (f j) = tab l.length (fun i => if i < j + 1 then f i else 0) := fun f j hj => tab_set hj _ _ _ (fun i _ hne => by
      by_cases c : i < j
      · rw [if_pos c, if_pos (by omega)]
      · rw [if_neg c, if_neg (by omega)]) (if_pos (by omega))
  have tZ : ∀ (f : Nat → Int) (j : Nat), j < l.length → f j = 0 → tab l.length (fun i => if i < j then f i else 0) = tab l.length (fun i => if i < j + 1 then f i else 0) := fun f j hj h0 => tab_ext fun i hi => by
    by_cases c : i < j
    · rw [if_pos c, if_pos (by omega)]
    · rw [if_neg c]
      by_cases c2 : i = j
      · subst c2; rw [if_pos (by omega), h0]
      · rw [if_neg (by omega)]
  refine seq_loop l.length (fun j => (tab l.length (fun i => if i < j then eaL o l u i else 0), tab l.length (fun i => if i < j then laL o l u i else 0)))
    (fun n j s => l13_1 l o (tab l.length (gd o.2.2.2.1 l u)) k n j s.1 s.2) (fun s => k s.1 s.2) (by omega) (fun n j hj => ?_) (fun n => ?_)
  · show s13_1 _ _ _ _ _ _ _ _ = _
    unfold s13_1
    rw [bifT (lt1 hj), wrapI (x := (j : Int) + 1) (by omega) (by omega)]
    refine cont_eq (tab l.length (fun i => if i < j + 1 then eaL o l u i else 0), tab l.length (fun i => if i < j + 1 then laL o l u i else 0)) (fun kk => ?_)
    rw [gTx hj]
    simp only [Option.bind_some]
    by_cases c1 : (gT l j).2.2.1 ≤ o.2.2.1
    · have eg : eaL o l u j = gd o.2.2.2.1 l u j := if_pos c1
      have eg2 : laL o l u j = 0 := if_pos c1
      rw [← tS (eaL o l u) j hj, ← tZ (laL o l u) j hj eg2, eg]
      rw [bifT (decide_eq_true c1), asrtP (fun _ => rng (by rw [tab_len]; exact hj)), Int.toNat_natCast, gI_get (by rw [tab_len]; exact hj), tab_gI hj]
      simp only [Option.bind_some]
      rw [asrtP (fun _ => rng (by rw [tab_len]; exact hj)), gI_get (by rw [tab_len]; exact hj)]
      rfl
    · have eg : laL o l u j = gd o.2.2.2.1 l u j := if_neg c1
      have eg2 : eaL o l u j = 0 := if_neg c1
      rw [← tS (laL o l u) j hj, ← tZ (eaL o l u) j hj eg2, eg]
      rw [bifF (decide_eq_false c1), asrtP (fun _ => rng (by rw [tab_len]; exact hj)), Int.toNat_natCast, gI_get (by rw [tab_len]; exact hj), tab_gI hj]
      simp only [Option.bind_some]
      rw [asrtP (fun _ => rng (by rw [tab_len]; exact hj)), gI_get (by rw [tab_len]; exact hj)]
      rfl
  · show s13_1 _ _ _ _ _ _ _ _ = _
    unfold s13_1
    rw [bifF (lt0 _)]

theorem l13_2_eq {R : Type} (l : List T38) (hn : l.length ≤ 15) (f : Nat → Int) (a : List Int) (ha : a.length = l.length) (hf : ∀ i, i < l.length → 0 ≤ f i ∧ f i ≤ 1000000000) (hb : ∀ i, i < l.length → 0 ≤ gI a i ∧ gI a i ≤ 1000000000) (k : List Int → Option R) :
    l13_2 l (tab l.length f) k FUEL 0 a = k (tab l.length (fun i => gI a i + f i)) := by
  have e0 : a = tab l.length (fun i => if i < 0 then gI a i + f i else gI a i) := by
    apply ext_gI (by rw [tab_len, ha])
    intro i hi
    rw [tab_gI (by omega), if_neg (by omega)]
  have e1 : tab l.length (fun i => gI a i + f i) = tab l.length (fun i => if i < l.length then gI a i + f i else gI a i) := tab_ext fun i hi => by rw [if_pos hi]
  rw [e1]
  conv => lhs; rw [e0]
  refine seq_loop l.length (fun j => tab l.length (fun i => if i < j then gI a i + f i else gI a i)) (fun m j s => l13_2 l (tab l.length f) k m j s) k (by omega) (fun m j hj => ?_) (fun m => ?_)
  · show s13_2 _ _ _ _ _ _ = _
    unfold s13_2
    have h1 := hf j hj
    have h2 := hb j hj
    rw [bifT (lt1 hj), wrapI (x := (j : Int) + 1) (by omega) (by omega), asrtP (fun _ => rng (by rw [tab_len]; exact hj)), Int.toNat_natCast, gI_get (by rw [tab_len]; exact hj), tab_gI hj, if_neg (by omega)]
    simp only [Option.bind_some]
    rw [asrtP (fun _ => rng (by rw [tab_len]; exact hj)), gI_get (by rw [tab_len]; exact hj), tab_gI hj]
    simp only [Option.bind_some]
    rw [asrtP (fun _ => rng (by rw [tab_len]; exact hj)), wrapI (x := gI a j + f j) (by omega) (by omega), tab_set hj _ (fun i => if i < j + 1 then gI a i + f i else gI a i) _ (fun i _ hne => by
      by_cases c : i < j
      · rw [if_pos c, if_pos (by omega)]
      · rw [if_neg c, if_neg (by omega)]) (if_pos (by omega))]
  · show s13_2 _ _ _ _ _ _ = _
    unfold s13_2
    rw [bifF (lt0 _)]

/-- Nothing is left of what is shared whole. -/
theorem share_all {l : List Int} {t : Int} (h : Sh l t t) : shareS l t t = l := by
  apply ext_gI (share_len ..)
  intro i hi
  rw [share_len] at hi
  have h1 := share_b h (Int.le_refl _) i hi
  have ht := h.t0
  have hs := share_sum h
  have hl := h.sum
  -- each is at most, and the sums are the same
  apply Classical.byContradiction
  intro hne
  have hlt : gI (shareS l t t) i < gI l i := by omega
  have : sumN (fun j => gI l j - gI (shareS l t t) j) l.length = 0 := by rw [sumN_sub]; omega
  have hp := sumN_part (f := fun j => gI l j - gI (shareS l t t) j) (n := l.length) (k := i) hi (fun j hj => by have := share_b h (Int.le_refl _) j hj; omega)
  rw [this] at hp
  have hp : gI l i - gI (shareS l t t) i ≤ 0 := hp
  omega

theorem share_zero {l : List Int} {t : Int} (h : Sh l t 0) : shareS l t 0 = tab l.length (fun _ => 0) := by
  apply ext_gI (by rw [share_len, tab_len])
  intro i hi
  rw [share_len] at hi
  have ht := h.t0
  have hs := share_sum h
  have hb := fun j hj => (share_b h (by omega) j hj).1
  have hp := sumN_part (f := gI (shareS l t 0)) (n := l.length) (k := i) hi hb
  have := hb i hi
  rw [tab_gI hi]
  omega

theorem zero_of_sum {f : Nat → Int} {n : Nat} (h0 : sumN f n = 0) (hf : ∀ i, i < n → 0 ≤ f i) {i : Nat} (hi : i < n) : f i = 0 := by
  have := sumN_part hi hf
  have := hf i hi
  omega

theorem m13_eq {o : T22} {l : List T38} {u : List Int} (h : Rt o l u) : m13 o l u = some (takenS o l u, 0, ()) := by
  have hn := h.n
  have hnu := h.nu
  have hs := h.sums l.length (Nat.le_refl _)
  have hoff := h.off
  have eF : sumN (eaL o l u) l.length = fst1 o l u := rfl
  have eS : sumN (laL o l u) l.length = snd1 o l u := rfl
  have eG : sumN (gd o.2.2.2.1 l u) l.length = fst1 o l u + snd1 o l u := by
    rw [← eF, ← eS, ← sumN_add]
    exact sumN_congr fun i _ => (ea_la o l u i).symm
  have amG : Am (tab l.length (gd o.2.2.2.1 l u)) := am_tab (by omega) fun i hi => by have := h.ea_b hi; omega
  have amE : Am (tab l.length (eaL o l u)) := am_tab (by omega) fun i hi => by have := h.ea_b hi; omega
  have amL : Am (tab l.length (laL o l u)) := am_tab (by omega) fun i hi => by have := h.ea_b hi; omega
  rw [eF, eS] at hs
  unfold m13
  rw [m22_eq, decide_eq_true h.ok.1, m23_eq u (by omega), decide_eq_true h.ok.2.1, m24_eq l u.length (by omega) (by omega), decide_eq_true h.ok.2.2]
  simp only [Option.bind_some, Bool.not_true, Bool.or_self, beq_self_eq_true, cond_true, cond_false, m16_eq h, m25_eq amG, tab_sum, eG]
  unfold takenS
  by_cases c1 : fst1 o l u + snd1 o l u < o.2.2.2.2.2.2.1
  · rw [bifT (decide_eq_true c1), if_pos c1, asrtP (fun _ => limN (by omega)), Int.toNat_natCast, tab_rep]
  rw [bifF (decide_eq_false c1), if_neg c1]
  by_cases c3 : fst1 o l u + snd1 o l u ≤ o.2.2.2.2.2.2.2.1
  · rw [bifT (decide_eq_true c3)]
    by_cases c2 : o.2.2.2.2.2.2.2.1 < fst1 o l u ∨ (fst1 o l u = o.2.2.2.2.2.2.2.1 ∧ 0 < fst1 o l u)
    · rw [if_pos c2]
      have hsh : Sh (tab l.length (eaL o l u)) (fst1 o l u) (fst1 o l u) := sh_tab (by omega) (fun i hi => by have := h.ea_b hi; omega) (by omega) (by omega) (by rw [eF]; omega)
      have e2 : o.2.2.2.2.2.2.2.1 = fst1 o l u := by omega
      rw [e2, share_all hsh]
      have : tab l.length (gd o.2.2.2.1 l u) = tab l.length (eaL o l u) := tab_ext fun i hi => by
        have := zero_of_sum (f := laL o l u) (n := l.length) (by rw [eS]; omega) (fun i hi => by have := h.ea_b hi; omega) hi
        rw [← ea_la o l u i, this, Int.add_zero]
      rw [this]
    · rw [if_neg c2, if_neg (by omega)]
  rw [bifF (decide_eq_false c3), asrtP (fun _ => limN (by omega)), asrtP (fun _ => limN (by omega)), Int.toNat_natCast, tab_rep, l13_1_eq h, m25_eq amE, tab_sum, eF]
  simp only [Option.bind_some]
  by_cases c4 : fst1 o l u ≥ o.2.2.2.2.2.2.2.1
  · rw [bifT (decide_eq_true c4)]
    by_cases c5 : fst1 o l u = 0
    · rw [m26_zero amE (by rw [tab_sum, eF]; exact c5), tab_len, if_neg (by omega), if_pos (by omega)]
      simp only [Option.bind_some]
      have e2 : o.2.2.2.2.2.2.2.1 - fst1 o l u = 0 := by omega
      have hsh : Sh (tab l.length (laL o l u)) (snd1 o l u) 0 := sh_tab (by omega) (fun i hi => by have := h.ea_b hi; omega) (by omega) (by omega) (by rw [eS]; omega)
      rw [e2, share_zero hsh, tab_len]
      have : tab l.length (fun i => gI (tab l.length fun _ => 0) i + eaL o l u i) = tab l.length (fun _ => 0) := tab_ext fun i hi => by
        rw [tab_gI hi, zero_of_sum (f := eaL o l u) (n := l.length) (by rw [eF]; omega) (fun i hi => by have := h.ea_b hi; omega) hi]; rfl
      rw [this]
    · have hsh : Sh (tab l.length (eaL o l u)) (fst1 o l u) o.2.2.2.2.2.2.2.1 := sh_tab (by omega) (fun i hi => by have := h.ea_b hi; omega) (by omega) (by omega) (by rw [eF]; omega)
      rw [m26_eq hsh, if_pos (by omega)]
      rfl
  · rw [bifF (decide_eq_false c4)]
    have hsh : Sh (tab l.length (laL o l u)) (snd1 o l u) (o.2.2.2.2.2.2.2.1 - fst1 o l u) := sh_tab (by omega) (fun i hi => by have := h.ea_b hi; omega) (by omega) (by omega) (by rw [eS]; omega)
    rw [wrapI (x := _ - fst1 o l u) (by omega) (by omega), m26_eq hsh, if_neg (by omega), if_pos (by omega)]
    simp only [Option.bind_some]
    exact l13_2_eq l (by omega) (eaL o l u) _ (by rw [share_len, tab_len]) (fun i hi => by have := h.ea_b hi; omega) (fun i hi => share_le hsh (by omega) i (by rw [tab_len]; exact hi)) _

theorem m13_bad {o : T22} {l : List T38} {u : List Int} (hn : l.length ≤ 14) (hu : u.length ≤ 10) (h : ¬ Ok o l u) : m13 o l u = some ([], 1, ()) := by
  unfold m13
  rw [m22_eq, m23_eq u (by omega), m24_eq l u.length (by omega) (by omega)]
  unfold Ok at h
  by_cases a : OkO o <;> by_cases b : OkU u <;> by_cases c : OkT u.length l <;> simp [a, b, c]
  exact absurd ⟨a, b, c⟩ h

/-! What both give. -/

/-- Of a seat. -/
def cnt (l : List T38) (w : Nat → Int) (s j : Nat) : Int := sumN (fun i => if sea l i = s then w i else 0) j

def pick (f : Nat → Int) : Nat → List T40
  | 0 => []
  | j + 1 => if 0 < f j then pick f j ++ [((j : Int), f j, ())] else pick f j

theorem pick_len (f : Nat → Int) : ∀ j, (pick f j).length ≤ j
  | 0 => Nat.le_refl 0
  | j + 1 => by
    unfold pick
    have := pick_len f j
    split
    · rw [List.length_append]; simp; omega
    · omega

/-- What a taken unit is worth. -/
def wor (o : T22) (l : List T38) (tk : List Int) (i : Nat) : Int := gI tk i * (if (gT l i).2.2.1 ≤ o.2.2.1 then o.2.2.2.2.1 else o.2.2.2.2.2.1)

def resS (o : T22) (l : List T38) (u : List Int) (tk : List Int) : List T40 × List T40 :=
  (pick (fun s => cnt l (gI tk) s l.length) u.length, pick (fun s => cnt l (wor o l tk) s l.length / 1000) u.length)

/-- What is taken is within bounds. -/
structure Tk (l : List T38) (tk : List Int) : Prop where
  n : tk.length = l.length
  b : ∀ i, i < l.length → 0 ≤ gI tk i ∧ gI tk i ≤ 1000000000

theorem Tk.wor_b {o : T22} {l : List T38} {u : List Int} (h : Rt o l u) {tk : List Int} (ht : Tk l tk) {i : Nat} (hi : i < l.length) : 0 ≤ wor o l tk i ∧ wor o l tk i ≤ 10000000000000 := by
  have hb := ht.b i hi
  have hoff := h.off
  unfold wor
  have : 0 ≤ (if (gT l i).2.2.1 ≤ o.2.2.1 then o.2.2.2.2.1 else o.2.2.2.2.2.1) ∧ (if (gT l i).2.2.1 ≤ o.2.2.1 then o.2.2.2.2.1 else o.2.2.2.2.2.1) ≤ 10000 := by split <;> omega
  generalize (if (gT l i).2.2.1 ≤ o.2.2.1 then o.2.2.2.2.1 else o.2.2.2.2.2.1) = p at this
  have h2 : gI tk i * p ≤ 1000000000 * 10000 := Int.mul_le_mul hb.2 this.2 this.1 (by omega)
  exact ⟨Int.mul_nonneg hb.1 this.1, by omega⟩

theorem cnt_b {l : List T38} {w : Nat → Int} {B : Int} (hB : 0 ≤ B) (hw : ∀ i, i < l.length → 0 ≤ w i ∧ w i ≤ B) (s : Nat) : ∀ j, j ≤ l.length → 0 ≤ cnt l w s j ∧ cnt l w s j ≤ B * (j : Int)
  | 0, _ => by simp [cnt, sumN]
  | j + 1, hj => by
    have ih := cnt_b hB hw s j (by omega)
    have := hw j (by omega)
    unfold cnt at *
    simp only [sumN]
    have e : B * ((j + 1 : Nat) : Int) = B * (j : Int) + B := by rw [Int.natCast_add, Int.mul_add]; simp
    rw [e]
    split <;> omega

theorem tab_cnt {n : Nat} {l : List T38} {w : Nat → Int} {j : Nat} (hs : sea l j < n) : (tab n (fun s => cnt l w s j)).set (sea l j) (cnt l w (sea l j) j + w j) = tab n (fun s => cnt l w s (j + 1)) := by
  refine tab_set hs _ _ _ (fun i _ hne => ?_) ?_
  · unfold cnt; simp only [sumN]; rw [if_neg (fun q => hne q.symm)]; omega
  · simp [cnt, sumN]

theorem l10_1_eq {R : Type} {o : T22} {l : List T38} {u : List Int} (h : Rt o l u) {tk : List Int} (ht : Tk l tk) (k : List Int → List Int → Option R) :
    l10_1 l (l.length : Int) o tk k FUEL 0 (tab u.length fun _ => 0) (tab u.length fun _ => 0) = k (tab u.length (fun s => cnt l (gI tk) s l.length)) (tab u.length (fun s => cnt l (wor o l tk) s l.length)) := by
  have hn := h.n
  have hnu := h.nu
  have := seq_loop l.length (fun j => (tab u.length (fun s => cnt l (gI tk) s j), tab u.length (fun s => cnt l (wor o l tk) s j))) (fun n j s => l10_1 l (l.length : Int) o tk k n j s.1 s.2) (fun s => k s.1 s.2) (by omega) (fun n j hj => by
    show s10_1 _ _ _ _ _ _ _ _ _ = _
    unfold s10_1
    have hw := ht.wor_b h hj
    have hg := ht.b j hj
    have c1 := cnt_b (by omega) ht.b (sea l j) j (by omega)
    have c2 := cnt_b (w := wor o l tk) (by omega) (fun i hi => ht.wor_b h hi) (sea l j) j (by omega)
    have hsl := h.sea_lt hj
    rw [bifT (lt1 hj), wrapI (x := (j : Int) + 1) (by omega) (by omega)]
    refine cont_eq (tab u.length (fun s => cnt l (gI tk) s (j + 1)), tab u.length (fun s => cnt l (wor o l tk) s (j + 1))) (fun kk => ?_)
    rw [gTx hj]
    simp only [Option.bind_some]
    have g1 : ∀ f : Nat → Int, (tab u.length f)[(gT l j).1.toNat]? = some (f (sea l j)) := fun f => (gI_get (by rw [tab_len]; exact hsl)).trans (by rw [show gI (tab u.length f) (gT l j).1.toNat = f (sea l j) from tab_gI hsl f])
    rw [asrtP (fun _ => gT_lt h hj (tab_len ..)), g1]
    simp only [Option.bind_some]
    rw [asrtP (fun _ => rng (by rw [ht.n]; exact hj)), Int.toNat_natCast, gI_get (by rw [ht.n]; exact hj)]
    simp only [Option.bind_some]
    rw [asrtP (fun _ => gT_lt h hj (tab_len ..))]
    have e1 : IntKind.i64.wrap (cnt l (gI tk) (sea l j) j + gI tk j) = cnt l (gI tk) (sea l j) j + gI tk j := wrapI (by omega) (by omega)
    have s1 := tab_cnt (w := gI tk) hsl
    have s2 := tab_cnt (w := wor o l tk) hsl
    by_cases c : (gT l j).2.2.1 ≤ o.2.2.1
    · have ew : wor o l tk j = gI tk j * o.2.2.2.2.1 := by unfold wor; rw [if_pos c]
      rw [bifT (decide_eq_true c), asrtP (fun _ => gT_lt h hj (tab_len ..)), g1]
      simp only [Option.bind_some]
      rw [asrtP (fun _ => rng (by rw [ht.n]; exact hj))]
      rw [asrtP (fun _ => gT_lt h hj (tab_len ..)), e1, wrapI (x := gI tk j * o.2.2.2.2.1) (by omega) (by omega), ← ew, wrapI (x := cnt l (wor o l tk) (sea l j) j + _) (by omega) (by omega)]
      exact congrArg kk (Prod.ext s1 s2)
    · have ew : wor o l tk j = gI tk j * o.2.2.2.2.2.1 := by unfold wor; rw [if_neg c]
      rw [bifF (decide_eq_false c), asrtP (fun _ => gT_lt h hj (tab_len ..)), g1]
      simp only [Option.bind_some]
      rw [asrtP (fun _ => rng (by rw [ht.n]; exact hj))]
      rw [asrtP (fun _ => gT_lt h hj (tab_len ..)), e1, wrapI (x := gI tk j * o.2.2.2.2.2.1) (by omega) (by omega), ← ew, wrapI (x := cnt l (wor o l tk) (sea l j) j + _) (by omega) (by omega)]
      exact congrArg kk (Prod.ext s1 s2)) (fun n => by
    show s10_1 _ _ _ _ _ _ _ _ _ = _
    unfold s10_1
    rw [bifF (lt0 _)])
  exact this

theorem lim2 {n : Nat} (h : n ≤ 10000) : decide (n ≤ LIM) = true := decide_eq_true (Nat.le_trans h (by decide))

theorem l10_2_eq {R : Type} (n : Nat) (hn : n ≤ 10) (f g : Nat → Int) (hg : ∀ i, i < n → 0 ≤ g i ∧ g i ≤ 1000000000000000) (k : List T40 → List T40 → Option R) :
    l10_2 (n : Int) (tab n f) (tab n g) k FUEL 0 [] [] = k (pick f n) (pick (fun s => g s / 1000) n) := by
  refine seq_loop n (fun j => (pick f j, pick (fun s => g s / 1000) j)) (fun m j s => l10_2 (n : Int) (tab n f) (tab n g) k m j s.1 s.2) (fun s => k s.1 s.2) (by omega) (fun m j hj => ?_) (fun m => ?_)
  · show s10_2 _ _ _ _ _ _ _ _ = _
    unfold s10_2
    have hgj := hg j hj
    have l1 := pick_len f j
    have l2 := pick_len (fun s => g s / 1000) j
    rw [bifT (lt1 hj), wrapI (x := (j : Int) + 1) (by omega) (by omega)]
    refine cont_eq (pick f (j + 1), pick (fun s => g s / 1000) (j + 1)) (fun kk => ?_)
    refine (cont_eq (pick f (j + 1)) (fun k1 => ?_)).trans ?_
    · rw [asrtP (fun _ => rng (by rw [tab_len]; exact hj)), Int.toNat_natCast, gI_get (by rw [tab_len]; exact hj), tab_gI hj]
      simp only [Option.bind_some]
      have ep : pick f (j + 1) = if 0 < f j then pick f j ++ [((j : Int), f j, ())] else pick f j := rfl
      rw [ep]
      by_cases c : 0 < f j
      · rw [bifT (decide_eq_true c), if_pos c, asrtP (fun _ => rng (by rw [tab_len]; exact hj)), asrtP (fun _ => lim2 (by simp; omega))]
      · rw [bifF (decide_eq_false c), if_neg c]
    · rw [asrtP (fun _ => rng (by rw [tab_len]; exact hj)), Int.toNat_natCast, gI_get (by rw [tab_len]; exact hj), tab_gI hj]
      simp only [Option.bind_some]
      rw [tdiv_pos _ hgj.1, wrapI (x := g j / 1000) (by omega) (by omega)]
      have ep : pick (fun s => g s / 1000) (j + 1) = if 0 < g j / 1000 then pick (fun s => g s / 1000) j ++ [((j : Int), g j / 1000, ())] else pick (fun s => g s / 1000) j := rfl
      rw [ep]
      by_cases c : 0 < g j / 1000
      · rw [bifT (decide_eq_true c), if_pos c, asrtP (fun _ => lim2 (by simp; omega))]
      · rw [bifF (decide_eq_false c), if_neg c]
  · show s10_2 _ _ _ _ _ _ _ _ = _
    unfold s10_2
    rw [bifF (lt0 _)]

theorem l11_1_eq {R : Type} {o : T22} {l : List T38} {u : List Int} (h : Rt o l u) {tk : List Int} (ht : Tk l tk) (s : Nat) (k : Int → Int → Option R) :
    l11_1 l (s : Int) o tk k FUEL 0 0 0 = k (cnt l (gI tk) s l.length) (cnt l (wor o l tk) s l.length) := by
  have hn := h.n
  refine seq_loop l.length (fun j => (cnt l (gI tk) s j, cnt l (wor o l tk) s j)) (fun m j st => l11_1 l (s : Int) o tk k m st.1 st.2 j) (fun st => k st.1 st.2) (by omega) (fun m j hj => ?_) (fun m => ?_)
  · show s11_1 _ _ _ _ _ _ _ _ _ = _
    unfold s11_1
    have hw := ht.wor_b h hj
    have hg := ht.b j hj
    have c1 := cnt_b (by omega) ht.b s j (by omega)
    have c2 := cnt_b (w := wor o l tk) (by omega) (fun i hi => ht.wor_b h hi) s j (by omega)
    have htn := h.ten hj
    rw [bifT (lt1 hj), wrapI (x := (j : Int) + 1) (by omega) (by omega)]
    refine cont_eq (cnt l (gI tk) s (j + 1), cnt l (wor o l tk) s (j + 1)) (fun kk => ?_)
    rw [gTx hj]
    simp only [Option.bind_some]
    have es : ∀ w : Nat → Int, cnt l w s (j + 1) = cnt l w s j + if sea l j = s then w j else 0 := fun w => rfl
    rw [es, es]
    by_cases c : sea l j = s
    · rw [bifF (by unfold sea at c; rw [bne_eq_false_iff_eq]; omega), if_pos c, if_pos c, asrtP (fun _ => rng (by rw [ht.n]; exact hj)), Int.toNat_natCast, gI_get (by rw [ht.n]; exact hj)]
      simp only [Option.bind_some]
      rw [wrapI (x := cnt l (gI tk) s j + _) (by omega) (by omega)]
      by_cases c3 : (gT l j).2.2.1 ≤ o.2.2.1
      · have ew : wor o l tk j = o.2.2.2.2.1 * gI tk j := by unfold wor; rw [if_pos c3, Int.mul_comm]
        rw [bifT (decide_eq_true c3), asrtP (fun _ => rng (by rw [ht.n]; exact hj)), wrapI (x := o.2.2.2.2.1 * gI tk j) (by omega) (by omega), ← ew, wrapI (x := cnt l (wor o l tk) s j + _) (by omega) (by omega)]
      · have ew : wor o l tk j = o.2.2.2.2.2.1 * gI tk j := by unfold wor; rw [if_neg c3, Int.mul_comm]
        rw [bifF (decide_eq_false c3), asrtP (fun _ => rng (by rw [ht.n]; exact hj)), wrapI (x := o.2.2.2.2.2.1 * gI tk j) (by omega) (by omega), ← ew, wrapI (x := cnt l (wor o l tk) s j + _) (by omega) (by omega)]
    · rw [bifT (by unfold sea at c; rw [bne_iff_ne]; omega), if_neg c, if_neg c, Int.add_zero, Int.add_zero]
  · show s11_1 _ _ _ _ _ _ _ _ _ = _
    unfold s11_1
    rw [bifF (lt0 _)]

theorem l11_2_eq {R : Type} {o : T22} {l : List T38} {u : List Int} (h : Rt o l u) {tk : List Int} (ht : Tk l tk) (k : List T40 → List T40 → Option R) :
    l11_2 l u o tk k FUEL 0 [] [] = k (resS o l u tk).1 (resS o l u tk).2 := by
  have hn := h.n
  have hnu := h.nu
  refine seq_loop u.length (fun j => (pick (fun s => cnt l (gI tk) s l.length) j, pick (fun s => cnt l (wor o l tk) s l.length / 1000) j)) (fun m j s => l11_2 l u o tk k m j s.1 s.2) (fun s => k s.1 s.2) (by omega) (fun m j hj => ?_) (fun m => ?_)
  · show s11_2 _ _ _ _ _ _ _ _ _ = _
    unfold s11_2
    have l1 := pick_len (fun s => cnt l (gI tk) s l.length) j
    have l2 := pick_len (fun s => cnt l (wor o l tk) s l.length / 1000) j
    have c2 := cnt_b (w := wor o l tk) (by omega) (fun i hi => ht.wor_b h hi) j l.length (Nat.le_refl _)
    rw [bifT (lt1 hj), wrapI (x := (j : Int) + 1) (by omega) (by omega)]
    refine cont_eq (pick (fun s => cnt l (gI tk) s l.length) (j + 1), pick (fun s => cnt l (wor o l tk) s l.length / 1000) (j + 1)) (fun kk => ?_)
    rw [l11_1_eq h ht]
    refine (cont_eq (pick (fun s => cnt l (gI tk) s l.length) (j + 1)) (fun k1 => ?_)).trans ?_
    · have ep : pick (fun s => cnt l (gI tk) s l.length) (j + 1) = if 0 < cnt l (gI tk) j l.length then pick (fun s => cnt l (gI tk) s l.length) j ++ [((j : Int), cnt l (gI tk) j l.length, ())] else pick (fun s => cnt l (gI tk) s l.length) j := rfl
      rw [ep]
      by_cases c : 0 < cnt l (gI tk) j l.length
      · rw [bifT (decide_eq_true c), if_pos c, asrtP (fun _ => lim2 (by simp; omega))]
      · rw [bifF (decide_eq_false c), if_neg c]
    · have ep : pick (fun s => cnt l (wor o l tk) s l.length / 1000) (j + 1) = if 0 < cnt l (wor o l tk) j l.length / 1000 then pick (fun s => cnt l (wor o l tk) s l.length / 1000) j ++ [((j : Int), cnt l (wor o l tk) j l.length / 1000, ())] else pick (fun s => cnt l (wor o l tk) s l.length / 1000) j := rfl
      rw [ep, tdiv_pos _ c2.1, wrapI (x := cnt l (wor o l tk) j l.length / 1000) (by omega) (by omega)]
      by_cases c : 0 < cnt l (wor o l tk) j l.length / 1000
      · rw [bifT (decide_eq_true (by omega)), if_pos c, asrtP (fun _ => lim2 (by simp; omega))]
      · rw [bifF (decide_eq_false (by omega)), if_neg c]
  · show s11_2 _ _ _ _ _ _ _ _ _ = _
    unfold s11_2
    rw [bifF (lt0 _)]

theorem takenS_tk {o : T22} {l : List T38} {u : List Int} (h : Rt o l u) : Tk l (takenS o l u) := by
  have hn := h.n
  have hs := h.sums l.length (Nat.le_refl _)
  have hoff := h.off
  have eF : sumN (eaL o l u) l.length = fst1 o l u := rfl
  have eS : sumN (laL o l u) l.length = snd1 o l u := rfl
  rw [eF, eS] at hs
  unfold takenS
  split
  · exact ⟨tab_len .., fun i hi => by rw [tab_gI hi]; omega⟩
  · split
    · have hsh : Sh (tab l.length (eaL o l u)) (fst1 o l u) o.2.2.2.2.2.2.2.1 := sh_tab (by omega) (fun i hi => by have := h.ea_b hi; omega) (by omega) (by omega) (by rw [eF]; omega)
      exact ⟨by rw [share_len, tab_len], fun i hi => share_le hsh (by omega) i (by rw [tab_len]; exact hi)⟩
    · split
      · have hsh : Sh (tab l.length (laL o l u)) (snd1 o l u) (o.2.2.2.2.2.2.2.1 - fst1 o l u) := sh_tab (by omega) (fun i hi => by have := h.ea_b hi; omega) (by omega) (by omega) (by rw [eS]; omega)
        refine ⟨tab_len .., fun i hi => ?_⟩
        rw [tab_gI hi]
        have h1 := share_b hsh (by omega) i (by rw [tab_len]; exact hi)
        rw [tab_gI hi] at h1
        have h2 := h.ea_b hi
        have h3 := ea_la o l u i
        omega
      · exact ⟨tab_len .., fun i hi => by rw [tab_gI hi]; have := h.ea_b hi; omega⟩

theorem m10_eq {o : T22} {l : List T38} {u : List Int} (h : Rt o l u) : m10 o l u = some ((resS o l u (takenS o l u)).1, (resS o l u (takenS o l u)).2, 0, ()) := by
  have hnu := h.nu
  have hn := h.n
  have ht := takenS_tk h
  unfold m10
  rw [m12_eq h]
  simp only [Option.bind_some, bne_self_eq_false, cond_false]
  rw [asrtP (fun _ => limN (by omega)), asrtP (fun _ => limN (by omega)), Int.toNat_natCast, tab_rep, l10_1_eq h ht, l10_2_eq u.length hnu _ _ (fun i hi => by have := cnt_b (w := wor o l (takenS o l u)) (by omega) (fun i hi => ht.wor_b h hi) i l.length (Nat.le_refl _); omega)]
  rfl

theorem m11_eq {o : T22} {l : List T38} {u : List Int} (h : Rt o l u) : m11 o l u = some ((resS o l u (takenS o l u)).1, (resS o l u (takenS o l u)).2, 0, ()) := by
  unfold m11
  rw [m13_eq h]
  simp only [Option.bind_some, bne_self_eq_false, cond_false]
  rw [l11_2_eq h (takenS_tk h)]

theorem m10_bad {o : T22} {l : List T38} {u : List Int} (hn : l.length ≤ 14) (hu : u.length ≤ 10) (h : ¬ Ok o l u) : m10 o l u = some ([], [], 1, ()) := by
  unfold m10
  rw [m12_bad hn hu h]
  rfl
theorem m11_bad {o : T22} {l : List T38} {u : List Int} (hn : l.length ≤ 14) (hu : u.length ≤ 10) (h : ¬ Ok o l u) : m11 o l u = some ([], [], 1, ()) := by
  unfold m11
  rw [m13_bad hn hu h]
  rfl

end Go.Proofs.Ytidlfemliaepjaa
