/- Offer: how much is taken. -/
import Derived.Test.YtidlfemliaepjaaT7
namespace Go.Proofs.Ytidlfemliaepjaa
open Go Go.Eng
set_option linter.unusedVariables false
set_option linter.unusedSimpArgs false

theorem gd_sum (o : T22) (l : List T38) (u : List Int) : sumN (gd o.2.2.2.1 l u) l.length = fst1 o l u + snd1 o l u := by
  unfold fst1 snd1
  rw [← sumN_add]
  exact sumN_congr fun i _ => (ea_la o l u i).symm

/-- How the sharing goes. -/
inductive Way (o : T22) (l : List T38) (u : List Int) : Prop where
  | none (h : fst1 o l u + snd1 o l u < o.2.2.2.2.2.2.1) (e : takenS o l u = tab l.length fun _ => 0)
  | early (h : o.2.2.2.2.2.2.1 ≤ fst1 o l u + snd1 o l u) (hm : o.2.2.2.2.2.2.2.1 ≤ fst1 o l u) (sh : Sh (tab l.length (eaL o l u)) (fst1 o l u) o.2.2.2.2.2.2.2.1) (e : takenS o l u = shareS (tab l.length (eaL o l u)) (fst1 o l u) o.2.2.2.2.2.2.2.1)
  | late (h : o.2.2.2.2.2.2.1 ≤ fst1 o l u + snd1 o l u) (hm : fst1 o l u ≤ o.2.2.2.2.2.2.2.1) (hn : o.2.2.2.2.2.2.2.1 < fst1 o l u + snd1 o l u) (sh : Sh (tab l.length (laL o l u)) (snd1 o l u) (o.2.2.2.2.2.2.2.1 - fst1 o l u)) (e : takenS o l u = tab l.length (fun i => gI (shareS (tab l.length (laL o l u)) (snd1 o l u) (o.2.2.2.2.2.2.2.1 - fst1 o l u)) i + eaL o l u i))
  | all (h : o.2.2.2.2.2.2.1 ≤ fst1 o l u + snd1 o l u) (hm : fst1 o l u + snd1 o l u ≤ o.2.2.2.2.2.2.2.1) (e : takenS o l u = tab l.length (gd o.2.2.2.1 l u))

theorem way {o : T22} {l : List T38} {u : List Int} (h : Rt o l u) : Way o l u := by
  have hn := h.n
  have hs := h.sums l.length (Nat.le_refl _)
  have hoff := h.off
  have eF : sumN (eaL o l u) l.length = fst1 o l u := rfl
  have eS : sumN (laL o l u) l.length = snd1 o l u := rfl
  rw [eF, eS] at hs
  by_cases c1 : fst1 o l u + snd1 o l u < o.2.2.2.2.2.2.1
  · exact .none c1 (by unfold takenS; rw [if_pos c1])
  by_cases c2 : o.2.2.2.2.2.2.2.1 < fst1 o l u ∨ (fst1 o l u = o.2.2.2.2.2.2.2.1 ∧ 0 < fst1 o l u)
  · exact .early (by omega) (by omega) (sh_tab (by omega) (fun i hi => by have := h.ea_b hi; omega) (by omega) (by omega) (by rw [eF]; omega)) (by unfold takenS; rw [if_neg c1, if_pos c2])
  by_cases c3 : o.2.2.2.2.2.2.2.1 < fst1 o l u + snd1 o l u
  · exact .late (by omega) (by omega) c3 (sh_tab (by omega) (fun i hi => by have := h.ea_b hi; omega) (by omega) (by omega) (by rw [eS]; omega)) (by unfold takenS; rw [if_neg c1, if_neg c2, if_pos c3])
  · exact .all (by omega) (by omega) (by unfold takenS; rw [if_neg c1, if_neg c2, if_neg c3])

/-- Nothing is taken that a tender is not good for. -/
theorem tk_le {o : T22} {l : List T38} {u : List Int} (h : Rt o l u) {i : Nat} (hi : i < l.length) : 0 ≤ gI (takenS o l u) i ∧ gI (takenS o l u) i ≤ gd o.2.2.2.1 l u i := by
  have hb := h.ea_b hi
  have he := ea_la o l u i
  rcases way h with ⟨_, e⟩ | ⟨_, hm, sh, e⟩ | ⟨_, hm, hn, sh, e⟩ | ⟨_, _, e⟩
  · rw [e, tab_gI hi]; omega
  · rw [e]
    have := share_b sh hm i (by rw [tab_len]; exact hi)
    rw [tab_gI hi] at this
    omega
  · rw [e, tab_gI hi]
    have := share_b sh (by omega) i (by rw [tab_len]; exact hi)
    rw [tab_gI hi] at this
    omega
  · rw [e, tab_gI hi]; omega

theorem tk_sum {o : T22} {l : List T38} {u : List Int} (h : Rt o l u) : sumN (gI (takenS o l u)) l.length = if fst1 o l u + snd1 o l u < o.2.2.2.2.2.2.1 then 0 else min (fst1 o l u + snd1 o l u) o.2.2.2.2.2.2.2.1 := by
  have hs := h.sums l.length (Nat.le_refl _)
  have eS : sumN (laL o l u) l.length = snd1 o l u := rfl
  rw [eS] at hs
  rcases way h with ⟨hl, e⟩ | ⟨hl, hm, sh, e⟩ | ⟨hl, hm, hn, sh, e⟩ | ⟨hl, hm, e⟩
  · rw [e, if_pos hl, sumN_congr (g := fun _ => 0) (fun i hi => tab_gI hi _), sumN_zero]
  · rw [e, if_neg (by omega)]
    have := share_sum sh
    rw [tab_len] at this
    rw [this]; omega
  · rw [e, if_neg (by omega), sumN_congr (fun i hi => tab_gI hi _), sumN_add]
    have := share_sum sh
    rw [tab_len] at this
    rw [this]
    show _ - fst1 o l u + fst1 o l u = _
    omega
  · rw [e, if_neg (by omega), sumN_congr (fun i hi => tab_gI hi _), gd_sum]; omega

/-! Lists of shares. -/

theorem gS_app {a : List T40} {x : T40} {i : Nat} (hi : i < a.length) : gS (a ++ [x]) i = gS a i := by
  unfold gS
  rw [List.getD_eq_getElem?_getD, List.getD_eq_getElem?_getD, List.getElem?_append_left hi]
theorem gS_last (a : List T40) (x : T40) : gS (a ++ [x]) a.length = x := by
  unfold gS
  rw [List.getD_eq_getElem?_getD, List.getElem?_append_right (Nat.le_refl _)]
  simp

def amt (a : List T40) (i : Nat) : Int := (gS a i).2.1

theorem amt_app (a : List T40) (x : T40) : sumN (amt (a ++ [x])) (a ++ [x]).length = sumN (amt a) a.length + x.2.1 := by
  rw [List.length_append]
  show sumN (amt (a ++ [x])) a.length + amt (a ++ [x]) a.length = _
  rw [sumN_congr (g := amt a) (fun i hi => by unfold amt; rw [gS_app hi])]
  unfold amt
  rw [gS_last]

theorem pick_sum {f : Nat → Int} : ∀ n, (∀ s, s < n → 0 ≤ f s) → sumN (amt (pick f n)) (pick f n).length = sumN f n
  | 0, _ => rfl
  | n + 1, h => by
    have ih := pick_sum (f := f) n (fun s hs => h s (by omega))
    have h0 := h n (by omega)
    unfold pick
    simp only [sumN]
    split
    · rw [amt_app, ih]
    · rw [ih]; omega

/-- What a picked share is. -/
theorem pick_at {f : Nat → Int} : ∀ n i, i < (pick f n).length → ∃ s, s < n ∧ gS (pick f n) i = ((s : Int), f s, ()) ∧ 0 < f s
  | 0, i, h => by simp [pick] at h
  | n + 1, i, h => by
    unfold pick at h ⊢
    split at h
    · rename_i c
      rw [if_pos c]
      by_cases q : i < (pick f n).length
      · obtain ⟨s, hs, e, hp⟩ := pick_at n i q
        exact ⟨s, by omega, by rw [gS_app q, e], hp⟩
      · have : i = (pick f n).length := by simp at h; omega
        subst this
        exact ⟨n, by omega, gS_last _ _, c⟩
    · rename_i c
      rw [if_neg c]
      obtain ⟨s, hs, e, hp⟩ := pick_at n i h
      exact ⟨s, by omega, e, hp⟩

theorem pick_inc {f : Nat → Int} : ∀ n i, i + 1 < (pick f n).length → (gS (pick f n) i).1 < (gS (pick f n) (i + 1)).1
  | 0, i, h => by simp [pick] at h
  | n + 1, i, h => by
    unfold pick at h ⊢
    split at h
    · rename_i c
      rw [if_pos c]
      by_cases q : i + 1 < (pick f n).length
      · rw [gS_app q, gS_app (by omega)]
        exact pick_inc n i q
      · have : i + 1 = (pick f n).length := by simp at h; omega
        rw [gS_app (by omega), this, gS_last]
        obtain ⟨s, hs, e, _⟩ := pick_at (f := f) n i (by omega)
        rw [e]
        show (s : Int) < (n : Int)
        omega
    · rename_i c
      rw [if_neg c]
      exact pick_inc n i h

/-- All seats together. -/
theorem cnt_all {o : T22} {l : List T38} {u : List Int} (h : Rt o l u) (w : Nat → Int) : sumN (fun s => cnt l w s l.length) u.length = sumN w l.length := by
  unfold cnt
  rw [sumN_swap]
  exact sumN_congr fun i hi => by
    rw [sumN_one (k := sea l i) (h.sea_lt hi) (fun s _ hne => if_neg (fun q => hne q.symm)), if_pos rfl]

theorem cnt_le {l : List T38} {w v : Nat → Int} (h : ∀ i, i < l.length → w i ≤ v i) (s : Nat) : cnt l w s l.length ≤ cnt l v s l.length := by
  unfold cnt
  exact sumN_le fun i hi => by
    have := h i hi
    split <;> omega

theorem cnt_unit {o : T22} {l : List T38} {u : List Int} (h : Rt o l u) (s : Nat) : cnt l (gI (takenS o l u)) s l.length ≤ gI u s := by
  have h1 := cnt_le (l := l) (w := gI (takenS o l u)) (v := gd o.2.2.2.1 l u) (fun i hi => (tk_le h hi).2) s
  have h2 := h.lf_eq o.2.2.2.1 s l.length (Nat.le_refl _)
  have h3 := h.lf_b o.2.2.2.1 l.length (Nat.le_refl _) s
  unfold cnt at *
  omega

theorem l4_1_eq {R : Type} {o : T22} {l : List T38} {u : List Int} (h : Rt o l u) (k1 : Int → Int → Option R) (k2 : Option R) :
    l4_1 l o (takenS o l u) (tab l.length (gd o.2.2.2.1 l u)) k1 k2 FUEL 0 0 0 = k1 (fst1 o l u + snd1 o l u) (sumN (gI (takenS o l u)) l.length) := by
  have hn := h.n
  rw [← gd_sum]
  refine seq_loop l.length (fun j => (sumN (gd o.2.2.2.1 l u) j, sumN (gI (takenS o l u)) j)) (fun n j s => l4_1 l o (takenS o l u) (tab l.length (gd o.2.2.2.1 l u)) k1 k2 n s.1 s.2 j) (fun s => k1 s.1 s.2) (by omega) (fun n j hj => ?_) (fun n => ?_)
  · show s4_1 _ _ _ _ _ _ _ _ _ _ = _
    unfold s4_1
    have ht := takenS_tk h
    have hle := tk_le h hj
    have hb := h.ea_b hj
    have hgd := h.gd_b o.2.2.2.1 hj
    have htn := h.ten hj
    have hs : ∀ i, i ≤ 14 → i ≤ l.length → 0 ≤ sumN (gd o.2.2.2.1 l u) i ∧ sumN (gd o.2.2.2.1 l u) i ≤ 1000000000 * (i : Int) ∧ 0 ≤ sumN (gI (takenS o l u)) i ∧ sumN (gI (takenS o l u)) i ≤ 1000000000 * (i : Int) := by
      intro i
      induction i with
      | zero => simp [sumN]
      | succ i ih =>
        intro h1 h2
        have := ih (by omega) (by omega)
        have := h.ea_b (i := i) (by omega)
        have := tk_le h (i := i) (by omega)
        simp only [sumN]
        omega
    have hs := hs j (by omega) (by omega)
    have rT := rng (show j < (takenS o l u).length by rw [ht.n]; exact hj)
    have rG := rng (show j < (tab l.length (gd o.2.2.2.1 l u)).length by rw [tab_len]; exact hj)
    have gTk : (takenS o l u)[((j : Int)).toNat]? = some (gI (takenS o l u) j) := by rw [Int.toNat_natCast]; exact gI_get (by rw [ht.n]; exact hj)
    have gG : (tab l.length (gd o.2.2.2.1 l u))[((j : Int)).toNat]? = some (gd o.2.2.2.1 l u j) := by rw [Int.toNat_natCast, gI_get (by rw [tab_len]; exact hj), tab_gI hj]
    rw [bifT (lt1 hj), wrapI (x := (j : Int) + 1) (by omega) (by omega), asrtP (fun _ => rT), gTk]
    simp only [Option.bind_some, decide_eq_false (show ¬ gI (takenS o l u) j < 0 by omega), beq_self_eq_true, cond_true]
    rw [asrtP (fun _ => rT)]
    try simp only [Option.bind_some]
    rw [asrtP (fun _ => rG), gG]
    simp only [Option.bind_some, decide_eq_false (show ¬ gI (takenS o l u) j > gd o.2.2.2.1 l u j by omega), Bool.or_self, beq_self_eq_true, cond_true]
    rw [asrtP (fun _ => rT)]
    simp only [Option.bind_some, gTg hj, cond_true, decide_eq_false (show ¬ gI (takenS o l u) j > (gT l j).2.1 by omega), Bool.or_self, beq_self_eq_true, Bool.true_and]
    have e12 : ((bif (decide ((gT l j).2.2.1 > o.2.2.2.1) == true) then some (gI (takenS o l u) j) else some 0) : Option Int) = some (bif decide ((gT l j).2.2.1 > o.2.2.2.1) then gI (takenS o l u) j else 0) := by
      cases decide ((gT l j).2.2.1 > o.2.2.2.1) <;> rfl
    rw [asrtP (fun _ => rT), e12]
    try simp only [Option.bind_some]
    have ez : (decide ((gT l j).2.2.1 > o.2.2.2.1) && ((bif decide ((gT l j).2.2.1 > o.2.2.2.1) then gI (takenS o l u) j else 0) != 0)) = false := by
      by_cases c : (gT l j).2.2.1 > o.2.2.2.1
      · have : gd o.2.2.2.1 l u j = 0 := if_neg (by omega)
        have : gI (takenS o l u) j = 0 := by omega
        rw [this]; simp
      · rw [decide_eq_false c]; rfl
    rw [ez]
    simp only [Bool.or_self, cond_false]
    rw [asrtP (fun _ => rG), asrtP (fun _ => rT), wrapI (x := sumN (gd o.2.2.2.1 l u) j + _) (by omega) (by omega), wrapI (x := sumN (gI (takenS o l u)) j + _) (by omega) (by omega)]
    rfl
  · show s4_1 _ _ _ _ _ _ _ _ _ _ = _
    unfold s4_1
    rw [bifF (lt0 _)]

theorem l4_2_eq {R : Type} {u : List Int} {f : Nat → Int} (hu : u.length ≤ 10) (hf : ∀ s, s < u.length → 0 ≤ f s ∧ f s ≤ gI u s ∧ gI u s ≤ 1000000000) (k1 : Int → Option R) (k2 : Option R) :
    l4_2 u (pick f u.length) k1 k2 FUEL 0 0 = k1 (sumN f u.length) := by
  rw [← pick_sum u.length (fun s hs => (hf s hs).1)]
  have hpl := pick_len f u.length
  have hs : ∀ i, i ≤ (pick f u.length).length → 0 ≤ sumN (amt (pick f u.length)) i ∧ sumN (amt (pick f u.length)) i ≤ 1000000000 * (i : Int) := by
    intro i
    induction i with
    | zero => simp [sumN]
    | succ i ih =>
      intro h1
      have := ih (by omega)
      obtain ⟨s, hs, e, hp⟩ := pick_at (f := f) u.length i (by omega)
      have := hf s hs
      have e2 : amt (pick f u.length) i = f s := by unfold amt; rw [e]
      simp only [sumN]
      omega
  refine seq_loop (pick f u.length).length (sumN (amt (pick f u.length))) (fun n j s => l4_2 u (pick f u.length) k1 k2 n s j) k1 (by omega) (fun n j hj => ?_) (fun n => ?_)
  · show s4_2 _ _ _ _ _ _ _ = _
    unfold s4_2
    obtain ⟨s, hsu, e, hp⟩ := pick_at (f := f) u.length j hj
    have hsj := hs j (by omega)
    have hfs := hf s hsu
    have gX : (pick f u.length)[((j : Int)).toNat]? = some ((s : Int), f s, ()) := by rw [Int.toNat_natCast, gS_get hj, e]
    rw [bifT (lt1 hj), wrapI (x := (j : Int) + 1) (by omega) (by omega), asrtP (fun _ => rng hj), gX]
    simp only [Option.bind_some, decide_eq_false (show ¬ ((s : Int) < 0) by omega), decide_eq_false (show ¬ ((s : Int) ≥ (u.length : Int)) by omega), Bool.or_self, beq_self_eq_true, Bool.true_and, Bool.false_or]
    have em : amt (pick f u.length) j = f s := by unfold amt; rw [e]
    have fin : (bif decide (f s < 1) || decide (f s > gI u s) then k2 else l4_2 u (pick f u.length) k1 k2 n (IntKind.i64.wrap (sumN (amt (pick f u.length)) j + f s)) ((j : Int) + 1)) = l4_2 u (pick f u.length) k1 k2 n (sumN (amt (pick f u.length)) (j + 1)) ((j : Int) + 1) := by
      rw [decide_eq_false (show ¬ f s < 1 by omega), decide_eq_false (show ¬ f s > gI u s by omega), wrapI (x := _ + f s) (by omega) (by omega), ← em]
      rfl
    have ei : idxG (decide (f s < 1) == false) 0 u (s : Int) = some (gI u s) := by
      rw [decide_eq_false (show ¬ f s < 1 by omega)]
      unfold idxG
      exact gix hsu
    by_cases hj0 : j = 0
    · subst hj0
      have : (decide (((0 : Nat) : Int) > 0)) = false := by decide
      rw [this]
      simp only [Bool.false_and, cond_false, ei, Option.bind_some]
      exact fin
    · obtain ⟨i, rfl⟩ : ∃ i, j = i + 1 := ⟨j - 1, by omega⟩
      have hinc := pick_inc (f := f) u.length i hj
      rw [e] at hinc
      have hinc : (gS (pick f u.length) i).1 < (s : Int) := hinc
      have hw : IntKind.i64.wrap (((i + 1 : Nat) : Int) - 1) = (i : Int) := by rw [wrapI (by omega) (by omega)]; omega
      have : (decide (((i + 1 : Nat) : Int) > 0)) = true := decide_eq_true (by omega)
      rw [this, hw, asrtP (fun _ => rng (by omega)), Int.toNat_natCast, gS_get (by omega)]
      simp only [beq_self_eq_true, cond_true, Option.bind_some, decide_eq_false (show ¬ (gS (pick f u.length) i).1 ≥ (s : Int) by omega), Bool.and_false, cond_false, ei]
      exact fin
  · show s4_2 _ _ _ _ _ _ _ = _
    unfold s4_2
    rw [bifF (lt0 _)]

theorem offerAll (o : T22) (l : List T38) (u : List Int) : m4 o l u = some true := by
  unfold m4
  rw [m8_eq, m9_eq]
  simp only [Option.bind_some]
  by_cases hf : l.length ≤ 14 ∧ u.length ≤ 10
  case neg => rw [decide_eq_false hf]; rfl
  rw [decide_eq_true hf]
  simp only [Bool.not_true, cond_false]
  by_cases h : Ok o l u
  · have hr : Rt o l u := ⟨hf.1, hf.2, h⟩
    have ht := takenS_tk hr
    rw [m12_eq hr, m10_eq hr]
    simp only [Option.bind_some, bne_self_eq_false, cond_false, m16_eq hr]
    rw [bifF (by rw [ht.n, tab_len]; simp), l4_1_eq hr]
    have e2 : l4_2 u (resS o l u (takenS o l u)).1 (fun y21 => some ((true && (sumN (gI (takenS o l u)) l.length == sumN (gI (takenS o l u)) l.length)) && (y21 == sumN (gI (takenS o l u)) l.length))) (some false) FUEL 0 0 = some true := by
      refine Eq.trans (l4_2_eq hf.2 (fun s hs => ⟨(cnt_b (by omega) ht.b s l.length (Nat.le_refl _)).1, cnt_unit hr s, (hr.unit s).2⟩) _ _) ?_
      rw [cnt_all hr]
      simp
    refine (cont_eq (sumN (gI (takenS o l u)) l.length) (fun k => ?_)).trans e2
    rw [tk_sum hr]
    by_cases c : fst1 o l u + snd1 o l u < o.2.2.2.2.2.2.1
    · rw [bifT (decide_eq_true c), if_pos c]
    · rw [bifF (decide_eq_false c), if_neg c]
      congr 1
      rw [← min_eq]
  · rw [m12_bad hf.1 hf.2 h, m10_bad hf.1 hf.2 h]
    rfl

end Go.Proofs.Ytidlfemliaepjaa
