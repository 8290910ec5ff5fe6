/- Offer: what tenders are good for; what is taken. -/
import Derived.Test.YtidlfemliaepjaaT4
namespace Go.Proofs.Ytidlfemliaepjaa
open Go Go.Eng
set_option linter.unusedVariables false
set_option linter.unusedSimpArgs false

/-- Everything that is right, within the bounds. -/
structure Rt (o : T22) (l : List T38) (u : List Int) : Prop where
  n : l.length ≤ 14
  nu : u.length ≤ 10
  ok : Ok o l u

theorem Rt.ten {o : T22} {l : List T38} {u : List Int} (h : Rt o l u) {i : Nat} (hi : i < l.length) : 0 ≤ (gT l i).1 ∧ (gT l i).1 < u.length ∧ 1 ≤ (gT l i).2.1 ∧ (gT l i).2.1 ≤ 1000000000 ∧ 0 ≤ (gT l i).2.2.1 ∧ (gT l i).2.2.1 ≤ 200000 := by
  have := of_decide_eq_true (h.ok.2.2 i hi)
  unfold In at this
  omega

theorem Rt.unit {o : T22} {l : List T38} {u : List Int} (h : Rt o l u) (s : Nat) : 0 ≤ gI u s ∧ gI u s ≤ 1000000000 := by
  by_cases hs : s < u.length
  · have h1 := of_decide_eq_true (h.ok.2.1 s hs)
    have h2 := okU_sum (u := u) (j := s) (fun i hi => h.ok.2.1 i (by omega))
    unfold In at h1
    omega
  · unfold gI; rw [List.getD_eq_getElem?_getD, List.getElem?_eq_none (by omega)]; simp

theorem Rt.off {o : T22} {l : List T38} {u : List Int} (h : Rt o l u) : o.2.2.1 ≤ o.2.2.2.1 ∧ 0 ≤ o.2.2.2.2.1 ∧ o.2.2.2.2.1 ≤ 10000 ∧ 0 ≤ o.2.2.2.2.2.1 ∧ o.2.2.2.2.2.1 ≤ 10000 ∧ 0 ≤ o.2.2.2.2.2.2.1 ∧ o.2.2.2.2.2.2.1 ≤ o.2.2.2.2.2.2.2.1 ∧ o.2.2.2.2.2.2.2.1 ≤ 1000000000 := by
  have := h.ok.1
  unfold OkO In at this
  omega

/-! What each tender is good for. -/

def sea (l : List T38) (i : Nat) : Nat := (gT l i).1.toNat

/-- The units that are left, before tender j. -/
def lf (la : Int) (l : List T38) (u : List Int) : Nat → List Int
  | 0 => u
  | j + 1 => if (gT l j).2.2.1 ≤ la then (lf la l u j).set (sea l j) (gI (lf la l u j) (sea l j) - min (gT l j).2.1 (gI (lf la l u j) (sea l j))) else lf la l u j

def gd (la : Int) (l : List T38) (u : List Int) (j : Nat) : Int := if (gT l j).2.2.1 ≤ la then min (gT l j).2.1 (gI (lf la l u j) (sea l j)) else 0

theorem lf_len (la : Int) (l : List T38) (u : List Int) : ∀ j, (lf la l u j).length = u.length
  | 0 => rfl
  | j + 1 => by
    unfold lf
    split
    · rw [List.length_set, lf_len la l u j]
    · exact lf_len la l u j

theorem Rt.sea_lt {o : T22} {l : List T38} {u : List Int} (h : Rt o l u) {i : Nat} (hi : i < l.length) : sea l i < u.length := by
  have := h.ten hi
  unfold sea
  omega

theorem Rt.lf_b {o : T22} {l : List T38} {u : List Int} (h : Rt o l u) (la : Int) : ∀ j, j ≤ l.length → ∀ s, 0 ≤ gI (lf la l u j) s ∧ gI (lf la l u j) s ≤ 1000000000
  | 0, _, s => h.unit s
  | j + 1, hj, s => by
    have ih := h.lf_b la j (by omega)
    have ht := h.ten (i := j) (by omega)
    unfold lf
    split
    · rw [gI_set (by rw [lf_len]; exact h.sea_lt (by omega))]
      have h1 := ih (sea l j)
      have h2 := ih s
      split <;> omega
    · exact ih s

theorem Rt.gd_b {o : T22} {l : List T38} {u : List Int} (h : Rt o l u) (la : Int) {j : Nat} (hj : j < l.length) : 0 ≤ gd la l u j ∧ gd la l u j ≤ (gT l j).2.1 ∧ gd la l u j ≤ gI (lf la l u j) (sea l j) := by
  have h1 := h.lf_b la j (by omega) (sea l j)
  have ht := h.ten hj
  unfold gd
  split <;> omega

theorem Rt.gd_late {la : Int} {l : List T38} {u : List Int} {j : Nat} (hd : la < (gT l j).2.2.1) : gd la l u j = 0 := if_neg (by omega)

/-- What is left of a seat. -/
theorem Rt.lf_eq {o : T22} {l : List T38} {u : List Int} (h : Rt o l u) (la : Int) (s : Nat) : ∀ j, j ≤ l.length → gI (lf la l u j) s = gI u s - sumN (fun i => if sea l i = s then gd la l u i else 0) j
  | 0, _ => by simp [lf, sumN]
  | j + 1, hj => by
    have ih := h.lf_eq la s j (by omega)
    simp only [sumN]
    have e : lf la l u (j + 1) = if (gT l j).2.2.1 ≤ la then (lf la l u j).set (sea l j) (gI (lf la l u j) (sea l j) - min (gT l j).2.1 (gI (lf la l u j) (sea l j))) else lf la l u j := rfl
    rw [e]
    have eg : gd la l u j = if (gT l j).2.2.1 ≤ la then min (gT l j).2.1 (gI (lf la l u j) (sea l j)) else 0 := rfl
    by_cases c : (gT l j).2.2.1 ≤ la
    · rw [if_pos c, gI_set (by rw [lf_len]; exact h.sea_lt (by omega)), eg, if_pos c]
      by_cases q : s = sea l j
      · rw [if_pos q, if_pos q.symm, ← q]; omega
      · rw [if_neg q, if_neg (fun z => q z.symm)]; omega
    · rw [if_neg c, eg, if_neg c]
      split <;> omega

theorem gT_lt {l : List T38} {o1 : List Int} {u : List Int} {o : T22} (h : Rt o l u) {j : Nat} (hj : j < l.length) (ho : o1.length = u.length) : (decide (0 ≤ (gT l j).1) && decide ((gT l j).1 < (o1.length : Int))) = true := by
  have := h.ten hj
  simp only [Bool.and_eq_true, decide_eq_true_eq]
  omega

theorem m16_eq {o : T22} {l : List T38} {u : List Int} (h : Rt o l u) : m16 o l u = some (tab l.length (gd o.2.2.2.1 l u)) := by
  have hn := h.n
  have hnu := h.nu
  unfold m16
  rw [asrtP (fun _ => decide_eq_true (Nat.le_trans hnu (by decide)))]
  have := seq_loop l.length (fun j => (lf o.2.2.2.1 l u j, tab j (gd o.2.2.2.1 l u))) (fun n j s => l16_1 l o (fun y => some y) n j s.1 s.2) (fun s => some s.2) (by omega) (fun n j hj => by
    show s16_1 _ _ _ _ _ _ _ = _
    unfold s16_1
    have ht := h.ten hj
    have hb := h.lf_b o.2.2.2.1 j (by omega) (sea l j)
    rw [bifT (lt1 hj), wrapI (x := (j : Int) + 1) (by omega) (by omega)]
    refine cont_eq (gd o.2.2.2.1 l u j, lf o.2.2.2.1 l u (j + 1)) (fun kk => ?_) |>.trans ?_
    · rw [gTx hj]
      simp only [Option.bind_some]
      have eg : gd o.2.2.2.1 l u j = if (gT l j).2.2.1 ≤ o.2.2.2.1 then min (gT l j).2.1 (gI (lf o.2.2.2.1 l u j) (sea l j)) else 0 := rfl
      have el : lf o.2.2.2.1 l u (j + 1) = if (gT l j).2.2.1 ≤ o.2.2.2.1 then (lf o.2.2.2.1 l u j).set (sea l j) (gI (lf o.2.2.2.1 l u j) (sea l j) - min (gT l j).2.1 (gI (lf o.2.2.2.1 l u j) (sea l j))) else lf o.2.2.2.1 l u j := rfl
      rw [eg, el]
      by_cases c : (gT l j).2.2.1 ≤ o.2.2.2.1
      · have e1 : (lf o.2.2.2.1 l u j)[(gT l j).1.toNat]? = some (gI (lf o.2.2.2.1 l u j) (sea l j)) := gI_get (by rw [lf_len]; exact h.sea_lt hj)
        have hlen : (lf o.2.2.2.1 l u j).length = u.length := lf_len ..
        rw [bifT (decide_eq_true c), if_pos c, if_pos c, asrtP (fun _ => gT_lt h hj hlen), e1]
        simp only [Option.bind_some]
        rw [asrtP (fun _ => gT_lt h hj hlen)]
        rw [asrtP (fun _ => gT_lt h hj hlen)]
        rw [min_eq (gT l j).2.1 (gI (lf o.2.2.2.1 l u j) (sea l j)), wrapI (x := gI _ _ - min _ _) (by omega) (by omega)]
        rfl
      · rw [bifF (decide_eq_false c), if_neg c, if_neg c]
    · simp only []
      rw [asrtP (fun _ => decide_eq_true (by rw [tab_len]; exact Nat.le_trans (show j + [gd o.2.2.2.1 l u j].length ≤ 20 by simp; omega) (by decide)))]
      have : tab (j + 1) (gd o.2.2.2.1 l u) = tab j (gd o.2.2.2.1 l u) ++ [gd o.2.2.2.1 l u j] := by unfold tab; rw [List.range_succ, List.map_append]; rfl
      rw [this]) (fun n => by
    show s16_1 _ _ _ _ _ _ _ = _
    unfold s16_1
    rw [bifF (lt0 _)])
  exact this

/-! What is taken. -/

def eaL (o : T22) (l : List T38) (u : List Int) (i : Nat) : Int := if (gT l i).2.2.1 ≤ o.2.2.1 then gd o.2.2.2.1 l u i else 0
def laL (o : T22) (l : List T38) (u : List Int) (i : Nat) : Int := if (gT l i).2.2.1 ≤ o.2.2.1 then 0 else gd o.2.2.2.1 l u i

def fst1 (o : T22) (l : List T38) (u : List Int) : Int := sumN (eaL o l u) l.length
def snd1 (o : T22) (l : List T38) (u : List Int) : Int := sumN (laL o l u) l.length

def takenS (o : T22) (l : List T38) (u : List Int) : List Int :=
  if fst1 o l u + snd1 o l u < o.2.2.2.2.2.2.1 then tab l.length (fun _ => 0) else
  if o.2.2.2.2.2.2.2.1 < fst1 o l u ∨ (fst1 o l u = o.2.2.2.2.2.2.2.1 ∧ 0 < fst1 o l u) then shareS (tab l.length (eaL o l u)) (fst1 o l u) o.2.2.2.2.2.2.2.1 else
  if o.2.2.2.2.2.2.2.1 < fst1 o l u + snd1 o l u then tab l.length (fun i => gI (shareS (tab l.length (laL o l u)) (snd1 o l u) (o.2.2.2.2.2.2.2.1 - fst1 o l u)) i + eaL o l u i) else
  tab l.length (gd o.2.2.2.1 l u)

theorem ea_la (o : T22) (l : List T38) (u : List Int) (i : Nat) : eaL o l u i + laL o l u i = gd o.2.2.2.1 l u i := by
  unfold eaL laL
  split <;> omega

theorem Rt.ea_b {o : T22} {l : List T38} {u : List Int} (h : Rt o l u) {i : Nat} (hi : i < l.length) : 0 ≤ eaL o l u i ∧ eaL o l u i ≤ 1000000000 ∧ 0 ≤ laL o l u i ∧ laL o l u i ≤ 1000000000 ∧ 0 ≤ gd o.2.2.2.1 l u i ∧ gd o.2.2.2.1 l u i ≤ 1000000000 := by
  have h1 := h.gd_b o.2.2.2.1 hi
  have h2 := h.ten hi
  unfold eaL laL
  split <;> omega

theorem am_tab {n : Nat} (hn : n ≤ 15) {f : Nat → Int} (hf : ∀ i, i < n → 0 ≤ f i ∧ f i ≤ 1000000000) : Am (tab n f) := by
  refine ⟨by rw [tab_len]; exact hn, fun i => ?_⟩
  by_cases c : i < n
  · rw [tab_gI c]; exact hf i c
  · unfold gI; rw [List.getD_eq_getElem?_getD, List.getElem?_eq_none (by rw [tab_len]; omega)]; simp

theorem tab_sum (n : Nat) (f : Nat → Int) : sumN (gI (tab n f)) (tab n f).length = sumN f n := by
  rw [tab_len]
  exact sumN_congr fun i hi => tab_gI hi f

theorem sh_tab {n : Nat} (hn : n ≤ 15) {f : Nat → Int} (hf : ∀ i, i < n → 0 ≤ f i ∧ f i ≤ 1000000000) {m : Int} (h0 : 0 ≤ m) (h1 : m ≤ 1000000000) (ht : 0 < sumN f n) : Sh (tab n f) (sumN f n) m :=
  ⟨(am_tab hn hf).n, (am_tab hn hf).pos, h0, h1, ht, tab_sum n f⟩

theorem Rt.sums {o : T22} {l : List T38} {u : List Int} (h : Rt o l u) : ∀ j, j ≤ l.length → 0 ≤ sumN (eaL o l u) j ∧ sumN (eaL o l u) j ≤ 1000000000 * (j : Int) ∧ 0 ≤ sumN (laL o l u) j ∧ sumN (laL o l u) j ≤ 1000000000 * (j : Int)
  | 0, _ => by simp [sumN]
  | j + 1, hj => by
    have ih := h.sums j (by omega)
    have hb := h.ea_b (i := j) (by omega)
    simp only [sumN]
    omega

theorem l12_1_eq {R : Type} {o : T22} {l : List T38} {u : List Int} (h : Rt o l u) (k : Int → Int → List Int → List Int → Option R) :
    l12_1 l (l.length : Int) o k FUEL 0 0 0 (tab l.length fun _ => 0) (tab l.length fun _ => 0) u = k (fst1 o l u) (snd1 o l u) (tab l.length (eaL o l u)) (tab l.length (laL o l u)) := by
  have hn := h.n
  have hnu := h.nu
  have e1 : ∀ f : Nat → Int, tab l.length (fun i => if i < l.length then f i else 0) = tab l.length f := by
    intro f
    unfold tab
    apply List.map_congr_left
    intro i hi
    rw [if_pos (List.mem_range.1 hi)]
  rw [← e1 (eaL o l u), ← e1 (laL o l u)]
  have tS : ∀ (f : Nat → Int) (j : Nat), j < l.length → (tab l.length (fun i => if i < j then f i else 0)).set j (f j) = tab l.length (fun i => if i < j + 1 then f i else 0) := fun f j hj => tab_set hj _ _ _ (fun i _ hne => by
      by_cases c : i < j
      · rw [if_pos c, if_pos (by omega)]
      · rw [if_neg c, if_neg (by omega)]) (if_pos (by omega))
  have tZ : ∀ (f : Nat → Int) (j : Nat), j < l.length → f j = 0 → tab l.length (fun i => if i < j then f i else 0) = tab l.length (fun i => if i < j + 1 then f i else 0) := fun f j hj h0 => by
    unfold tab
    apply List.map_congr_left
    intro i hi
    by_cases c : i < j
    · rw [if_pos c, if_pos (by omega)]
    · rw [if_neg c]
      by_cases c2 : i = j
      · subst c2; rw [if_pos (by omega), h0]
      · rw [if_neg (by omega)]
  refine seq_loop l.length (fun j => (sumN (eaL o l u) j, sumN (laL o l u) j, tab l.length (fun i => if i < j then eaL o l u i else 0), tab l.length (fun i => if i < j then laL o l u i else 0), lf o.2.2.2.1 l u j))
    (fun n j s => l12_1 l (l.length : Int) o k n s.1 s.2.1 j s.2.2.1 s.2.2.2.1 s.2.2.2.2) (fun s => k s.1 s.2.1 s.2.2.1 s.2.2.2.1) (by omega) (fun n j hj => ?_) (fun n => ?_)
  · show s12_1 _ _ _ _ _ _ _ _ _ _ _ = _
    unfold s12_1
    have ht := h.ten hj
    have hb := h.lf_b o.2.2.2.1 j (by omega) (sea l j)
    have hs := h.sums j (by omega)
    have hoff := h.off.1
    have hlen : (lf o.2.2.2.1 l u j).length = u.length := lf_len ..
    rw [bifT (lt1 hj), wrapI (x := (j : Int) + 1) (by omega) (by omega)]
    refine cont_eq (sumN (eaL o l u) (j + 1), sumN (laL o l u) (j + 1), tab l.length (fun i => if i < j + 1 then eaL o l u i else 0), tab l.length (fun i => if i < j + 1 then laL o l u i else 0), lf o.2.2.2.1 l u (j + 1)) (fun kk => ?_) |>.trans rfl
    rw [gTx hj]
    simp only [Option.bind_some]
    have g1 : (lf o.2.2.2.1 l u j)[(gT l j).1.toNat]? = some (gI (lf o.2.2.2.1 l u j) (sea l j)) := gI_get (by rw [lf_len]; exact h.sea_lt hj)
    rw [asrtP (fun _ => gT_lt h hj hlen), g1]
    simp only [Option.bind_some]
    rw [min_eq (gT l j).2.1 (gI (lf o.2.2.2.1 l u j) (sea l j))]
    simp only [sumN]
    have el : lf o.2.2.2.1 l u (j + 1) = if (gT l j).2.2.1 ≤ o.2.2.2.1 then (lf o.2.2.2.1 l u j).set (sea l j) (gI (lf o.2.2.2.1 l u j) (sea l j) - min (gT l j).2.1 (gI (lf o.2.2.2.1 l u j) (sea l j))) else lf o.2.2.2.1 l u j := rfl
    by_cases c1 : (gT l j).2.2.1 ≤ o.2.2.1
    · have eg : eaL o l u j = min (gT l j).2.1 (gI (lf o.2.2.2.1 l u j) (sea l j)) := by unfold eaL gd; rw [if_pos c1, if_pos (by omega)]
      have eg2 : laL o l u j = 0 := by unfold laL; rw [if_pos c1]
      rw [el, if_pos (by omega), ← tS (eaL o l u) j hj, ← tZ (laL o l u) j hj eg2, eg, eg2]
      refine (cont_eq (sumN (eaL o l u) j + min (gT l j).2.1 (gI (lf o.2.2.2.1 l u j) (sea l j)), sumN (laL o l u) j, (tab l.length (fun i => if i < j then eaL o l u i else 0)).set j (min (gT l j).2.1 (gI (lf o.2.2.2.1 l u j) (sea l j))), tab l.length (fun i => if i < j then laL o l u i else 0)) (fun k7 => ?_)).trans ?_
      · rw [bifT (decide_eq_true c1), asrtP (fun _ => rng (by rw [tab_len]; exact hj)), Int.toNat_natCast, gI_get (by rw [tab_len]; exact hj)]
        simp only [Option.bind_some]
        rw [wrapI (x := sumN (eaL o l u) j + _) (by omega) (by omega)]
      · rw [asrtP (fun _ => gT_lt h hj hlen)]
        simp only [Option.bind_some]
        rw [asrtP (fun _ => gT_lt h hj hlen), wrapI (x := gI _ _ - min _ _) (by omega) (by omega)]
        simp only [Int.add_zero]
        rfl
    · by_cases c2 : (gT l j).2.2.1 ≤ o.2.2.2.1
      · have eg : laL o l u j = min (gT l j).2.1 (gI (lf o.2.2.2.1 l u j) (sea l j)) := by unfold laL gd; rw [if_neg c1, if_pos c2]
        have eg2 : eaL o l u j = 0 := by unfold eaL; rw [if_neg c1]
        rw [el, if_pos c2, ← tS (laL o l u) j hj, ← tZ (eaL o l u) j hj eg2, eg, eg2]
        refine (cont_eq (sumN (eaL o l u) j, sumN (laL o l u) j + min (gT l j).2.1 (gI (lf o.2.2.2.1 l u j) (sea l j)), tab l.length (fun i => if i < j then eaL o l u i else 0), (tab l.length (fun i => if i < j then laL o l u i else 0)).set j (min (gT l j).2.1 (gI (lf o.2.2.2.1 l u j) (sea l j)))) (fun k7 => ?_)).trans ?_
        · rw [bifF (decide_eq_false c1), bifT (decide_eq_true c2), asrtP (fun _ => rng (by rw [tab_len]; exact hj)), Int.toNat_natCast, gI_get (by rw [tab_len]; exact hj)]
          simp only [Option.bind_some]
          rw [wrapI (x := sumN (laL o l u) j + _) (by omega) (by omega)]
        · rw [asrtP (fun _ => gT_lt h hj hlen)]
          simp only [Option.bind_some]
          rw [asrtP (fun _ => gT_lt h hj hlen), wrapI (x := gI _ _ - min _ _) (by omega) (by omega)]
          simp only [Int.add_zero]
          rfl
      · have eg : laL o l u j = 0 := by unfold laL gd; rw [if_neg c1, if_neg c2]
        have eg2 : eaL o l u j = 0 := by unfold eaL; rw [if_neg c1]
        rw [el, if_neg c2, ← tZ (laL o l u) j hj eg, ← tZ (eaL o l u) j hj eg2, eg, eg2]
        simp only [cont, Int.add_zero]
        rw [bifF (decide_eq_false c1), bifF (decide_eq_false c2)]
  · show s12_1 _ _ _ _ _ _ _ _ _ _ _ = _
    unfold s12_1
    rw [bifF (lt0 _)]

theorem l12_2_eq {R : Type} (n : Nat) (hn : n ≤ 15) (f : Nat → Int) (a : List Int) (ha : a.length = n) (hf : ∀ i, i < n → 0 ≤ f i ∧ f i ≤ 1000000000) (hb : ∀ i, i < n → 0 ≤ gI a i ∧ gI a i ≤ 1000000000) (k : List Int → Option R) :
    l12_2 ((tab n f).length : Int) (tab n f) k FUEL 0 a = k (tab n (fun i => gI a i + f i)) := by
  have e0 : a = tab n (fun i => if i < 0 then gI a i + f i else gI a i) := by
    apply ext_gI (by rw [tab_len, ha])
    intro i hi
    rw [tab_gI (by omega), if_neg (by omega)]
  have e1 : tab n (fun i => gI a i + f i) = tab n (fun i => if i < n then gI a i + f i else gI a i) := by
    unfold tab
    apply List.map_congr_left
    intro i hi
    rw [if_pos (List.mem_range.1 hi)]
  rw [e1, tab_len]
  conv => lhs; rw [e0]
  refine seq_loop n (fun j => tab n (fun i => if i < j then gI a i + f i else gI a i)) (fun m j s => l12_2 (n : Int) (tab n f) k m j s) k (by omega) (fun m j hj => ?_) (fun m => ?_)
  · show s12_2 _ _ _ _ _ _ = _
    unfold s12_2
    have h1 := hf j hj
    have h2 := hb j hj
    rw [bifT (lt1 hj), wrapI (x := (j : Int) + 1) (by omega) (by omega), asrtP (fun _ => rng (by rw [tab_len]; exact hj)), Int.toNat_natCast, gI_get (by rw [tab_len]; exact hj), tab_gI hj]
    simp only [Option.bind_some]
    rw [asrtP (fun _ => rng (by rw [tab_len]; exact hj)), gI_get (by rw [tab_len]; exact hj), tab_gI hj, if_neg (by omega)]
    simp only [Option.bind_some]
    rw [asrtP (fun _ => rng (by rw [tab_len]; exact hj)), wrapI (x := gI a j + f j) (by omega) (by omega), tab_set hj _ (fun i => if i < j + 1 then gI a i + f i else gI a i) _ (fun i _ hne => by
      by_cases c : i < j
      · rw [if_pos c, if_pos (by omega)]
      · rw [if_neg c, if_neg (by omega)]) (if_pos (by omega))]
  · show s12_2 _ _ _ _ _ _ = _
    unfold s12_2
    rw [bifF (lt0 _)]

theorem share_le {l : List Int} {t m : Int} (h : Sh l t m) (hmt : m ≤ t) (i : Nat) (hi : i < l.length) : 0 ≤ gI (shareS l t m) i ∧ gI (shareS l t m) i ≤ 1000000000 := by
  have h1 := share_b h hmt i hi
  have h2 := h.pos i
  omega

theorem m12_eq {o : T22} {l : List T38} {u : List Int} (h : Rt o l u) : m12 o l u = some (takenS o l u, 0, ()) := by
  have hn := h.n
  have hnu := h.nu
  have hs := h.sums l.length (Nat.le_refl _)
  have hoff := h.off
  have eF : sumN (eaL o l u) l.length = fst1 o l u := rfl
  have eS : sumN (laL o l u) l.length = snd1 o l u := rfl
  rw [eF, eS] at hs
  unfold m12
  rw [m19_eq o l u (by omega) (by omega), decide_eq_true h.ok]
  simp only [Option.bind_some, Bool.not_true, cond_false]
  rw [asrtP (fun _ => limN (by omega)), asrtP (fun _ => limN (by omega)), cloneM_eq (by omega), Int.toNat_natCast, tab_rep]
  simp only [Option.bind_some]
  rw [l12_1_eq h]
  rw [wrapI (x := fst1 o l u + snd1 o l u) (by omega) (by omega)]
  unfold takenS
  simp only [cont]
  by_cases c1 : fst1 o l u + snd1 o l u < o.2.2.2.2.2.2.1
  · rw [bifT (decide_eq_true c1), if_pos c1, asrtP (fun _ => limN (by omega))]
  rw [bifF (decide_eq_false c1), if_neg c1]
  by_cases c2 : o.2.2.2.2.2.2.2.1 < fst1 o l u ∨ (fst1 o l u = o.2.2.2.2.2.2.2.1 ∧ 0 < fst1 o l u)
  · have hsh : Sh (tab l.length (eaL o l u)) (fst1 o l u) o.2.2.2.2.2.2.2.1 := sh_tab (by omega) (fun i hi => by have := h.ea_b hi; omega) (by omega) (by omega) (by rw [eF]; omega)
    rw [bifT (by simp only [Bool.or_eq_true, Bool.and_eq_true, decide_eq_true_eq, beq_iff_eq]; omega), if_pos c2, m21_eq hsh]
    rfl
  rw [bifF (by rw [Bool.eq_false_iff]; simp only [ne_eq, Bool.or_eq_true, Bool.and_eq_true, decide_eq_true_eq, beq_iff_eq]; omega), if_neg c2]
  by_cases c3 : o.2.2.2.2.2.2.2.1 < fst1 o l u + snd1 o l u
  · have hsh : Sh (tab l.length (laL o l u)) (snd1 o l u) (o.2.2.2.2.2.2.2.1 - fst1 o l u) := sh_tab (by omega) (fun i hi => by have := h.ea_b hi; omega) (by omega) (by omega) (by rw [eS]; omega)
    rw [bifT (decide_eq_true c3), if_pos c3, wrapI (x := _ - fst1 o l u) (by omega) (by omega), m21_eq hsh]
    simp only [Option.bind_some]
    refine l12_2_eq l.length (by omega) (eaL o l u) _ (by rw [share_len, tab_len]) (fun i hi => by have := h.ea_b hi; omega) (fun i hi => share_le hsh (by omega) i (by rw [tab_len]; exact hi)) _
  · rw [bifF (decide_eq_false c3), if_neg c3]
    refine (l12_2_eq l.length (by omega) (eaL o l u) (tab l.length (laL o l u)) (by rw [tab_len]) (fun i hi => by have := h.ea_b hi; omega) (fun i hi => by rw [tab_gI hi]; have := h.ea_b hi; omega) _).trans ?_
    have : tab l.length (fun i => gI (tab l.length (laL o l u)) i + eaL o l u i) = tab l.length (gd o.2.2.2.1 l u) := by
      unfold tab
      apply List.map_congr_left
      intro i hi
      have hi := List.mem_range.1 hi
      show gI (tab l.length (laL o l u)) i + _ = _
      rw [tab_gI hi, ← ea_la o l u i]; omega
    rw [this]

theorem m12_bad {o : T22} {l : List T38} {u : List Int} (hn : l.length ≤ 14) (hu : u.length ≤ 10) (h : ¬ Ok o l u) : m12 o l u = some ([], 1, ()) := by
  unfold m12
  rw [m19_eq o l u (by omega) (by omega), decide_eq_false h]
  rfl

end Go.Proofs.Ytidlfemliaepjaa
