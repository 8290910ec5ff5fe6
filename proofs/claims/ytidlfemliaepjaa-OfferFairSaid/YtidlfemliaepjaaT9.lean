/- Offer: everybody is treated alike. -/
import Derived.Test.YtidlfemliaepjaaT8
namespace Go.Proofs.Ytidlfemliaepjaa
open Go Go.Eng
set_option linter.unusedVariables false
set_option linter.unusedSimpArgs false

def eT (o : T22) (l : List T38) (u : List Int) (i : Nat) : Int := if (gT l i).2.2.1 ≤ o.2.2.1 then gI (takenS o l u) i else 0
def lT (o : T22) (l : List T38) (u : List Int) (i : Nat) : Int := if (gT l i).2.2.1 ≤ o.2.2.1 then 0 else gI (takenS o l u) i

structure Fair (o : T22) (l : List T38) (u : List Int) : Prop where
  e : ∀ i, i < l.length → 0 < fst1 o l u → eT o l u i * fst1 o l u - eaL o l u i * sumN (eT o l u) l.length < fst1 o l u ∧ -fst1 o l u < eT o l u i * fst1 o l u - eaL o l u i * sumN (eT o l u) l.length
  la : ∀ i, i < l.length → 0 < snd1 o l u → lT o l u i * snd1 o l u - laL o l u i * sumN (lT o l u) l.length < snd1 o l u ∧ -snd1 o l u < lT o l u i * snd1 o l u - laL o l u i * sumN (lT o l u) l.length
  first : 0 < sumN (lT o l u) l.length → sumN (eT o l u) l.length = fst1 o l u

theorem fair_same {f g : Nat → Int} {n : Nat} {A : Int} (h : ∀ i, i < n → f i = g i) (hA : sumN g n = A) : ∀ i, i < n → 0 < A → f i * A - g i * sumN f n < A ∧ -A < f i * A - g i * sumN f n := by
  intro i hi hp
  rw [sumN_congr h, hA, h i hi]
  omega
theorem fair_none {f g : Nat → Int} {n : Nat} {A : Int} (h : ∀ i, i < n → f i = 0) : ∀ i, i < n → 0 < A → f i * A - g i * sumN f n < A ∧ -A < f i * A - g i * sumN f n := by
  intro i hi hp
  rw [sumN_none h, h i hi]
  simp
  omega

theorem fair {o : T22} {l : List T38} {u : List Int} (h : Rt o l u) : Fair o l u := by
  have hs := h.sums l.length (Nat.le_refl _)
  have eF : sumN (eaL o l u) l.length = fst1 o l u := rfl
  have eS : sumN (laL o l u) l.length = snd1 o l u := rfl
  rw [eF, eS] at hs
  have eaE : ∀ i, (gT l i).2.2.1 ≤ o.2.2.1 → eaL o l u i = gd o.2.2.2.1 l u i ∧ laL o l u i = 0 := fun i c => ⟨if_pos c, if_pos c⟩
  have eaL' : ∀ i, ¬ (gT l i).2.2.1 ≤ o.2.2.1 → laL o l u i = gd o.2.2.2.1 l u i ∧ eaL o l u i = 0 := fun i c => ⟨if_neg c, if_neg c⟩
  rcases way h with ⟨hl, e⟩ | ⟨hl, hm, sh, e⟩ | ⟨hl, hm, hn, sh, e⟩ | ⟨hl, hm, e⟩
  · have z1 : ∀ i, i < l.length → eT o l u i = 0 := fun i hi => by unfold eT; rw [e, tab_gI hi]; split <;> rfl
    have z2 : ∀ i, i < l.length → lT o l u i = 0 := fun i hi => by unfold lT; rw [e, tab_gI hi]; split <;> rfl
    exact ⟨fair_none z1, fair_none z2, fun hp => by rw [sumN_none z2] at hp; omega⟩
  · have sb := fun i (hi : i < l.length) => share_b sh hm i (by rw [tab_len]; exact hi)
    have z2 : ∀ i, i < l.length → lT o l u i = 0 := fun i hi => by
      unfold lT
      split
      · rfl
      · rename_i c
        have := sb i hi
        rw [tab_gI hi, (eaL' i c).2] at this
        rw [e]; omega
    have z1 : ∀ i, i < l.length → eT o l u i = gI (shareS (tab l.length (eaL o l u)) (fst1 o l u) o.2.2.2.2.2.2.2.1) i := fun i hi => by
      have := z2 i hi
      unfold lT at this
      unfold eT
      rw [← e]
      split
      · rfl
      · rename_i c; rw [if_neg c] at this; exact this.symm
    have s1 : sumN (eT o l u) l.length = o.2.2.2.2.2.2.2.1 := by
      rw [sumN_congr z1]
      have := share_sum sh
      rwa [tab_len] at this
    refine ⟨fun i hi hp => ?_, fair_none z2, fun hp => by rw [sumN_none z2] at hp; omega⟩
    have := sb i hi
    rw [tab_gI hi] at this
    rw [s1, z1 i hi]
    exact this.2.2
  · have sb := fun i (hi : i < l.length) => share_b sh (by omega) i (by rw [tab_len]; exact hi)
    have tk : ∀ i, i < l.length → gI (takenS o l u) i = gI (shareS (tab l.length (laL o l u)) (snd1 o l u) (o.2.2.2.2.2.2.2.1 - fst1 o l u)) i + eaL o l u i := fun i hi => by rw [e, tab_gI hi]
    have z1 : ∀ i, i < l.length → eT o l u i = eaL o l u i := fun i hi => by
      unfold eT
      split
      · rename_i c
        have := sb i hi
        rw [tab_gI hi, (eaE i c).2] at this
        rw [tk i hi]; omega
      · rename_i c; exact (eaL' i c).2.symm
    have z2 : ∀ i, i < l.length → lT o l u i = gI (shareS (tab l.length (laL o l u)) (snd1 o l u) (o.2.2.2.2.2.2.2.1 - fst1 o l u)) i := fun i hi => by
      have hsb := sb i hi
      rw [tab_gI hi] at hsb
      unfold lT
      split
      · rename_i c
        rw [(eaE i c).2] at hsb; omega
      · rename_i c
        rw [tk i hi, (eaL' i c).2, Int.add_zero]
    have s2 : sumN (lT o l u) l.length = o.2.2.2.2.2.2.2.1 - fst1 o l u := by
      rw [sumN_congr z2]
      have := share_sum sh
      rwa [tab_len] at this
    refine ⟨fair_same z1 eF, fun i hi hp => ?_, fun _ => by rw [sumN_congr z1, eF]⟩
    have := sb i hi
    rw [tab_gI hi] at this
    rw [s2, z2 i hi]
    exact this.2.2
  · have tk : ∀ i, i < l.length → gI (takenS o l u) i = gd o.2.2.2.1 l u i := fun i hi => by rw [e, tab_gI hi]
    have z1 : ∀ i, i < l.length → eT o l u i = eaL o l u i := fun i hi => by
      unfold eT
      split
      · rename_i c; rw [tk i hi, (eaE i c).1]
      · rename_i c; exact (eaL' i c).2.symm
    have z2 : ∀ i, i < l.length → lT o l u i = laL o l u i := fun i hi => by
      unfold lT
      split
      · rename_i c; exact (eaE i c).2.symm
      · rename_i c; rw [tk i hi, (eaL' i c).1]
    exact ⟨fair_same z1 eF, fair_same z2 eS, fun _ => by rw [sumN_congr z1, eF]⟩

theorem eT_b {o : T22} {l : List T38} {u : List Int} (h : Rt o l u) {i : Nat} (hi : i < l.length) : 0 ≤ eT o l u i ∧ eT o l u i ≤ 1000000000 ∧ 0 ≤ lT o l u i ∧ lT o l u i ≤ 1000000000 := by
  have := h.ea_b hi
  have := tk_le h hi
  unfold eT lT
  split <;> omega

/-- All units together bound what is good. -/
theorem gd_all {o : T22} {l : List T38} {u : List Int} (h : Rt o l u) : sumN (gd o.2.2.2.1 l u) l.length ≤ 1000000000 := by
  rw [← cnt_all h]
  have h1 : sumN (fun s => cnt l (gd o.2.2.2.1 l u) s l.length) u.length ≤ sumN (gI u) u.length := sumN_le fun s _ => by
    have h2 := h.lf_eq o.2.2.2.1 s l.length (Nat.le_refl _)
    have h3 := h.lf_b o.2.2.2.1 l.length (Nat.le_refl _) s
    unfold cnt
    omega
  have h2 := okU_sum (u := u) (j := u.length) h.ok.2.1
  omega

theorem l5_1_eq {R : Type} {o : T22} {l : List T38} {u : List Int} (h : Rt o l u) (k : T40 → T40 → Option R) :
    l5_1 l o (takenS o l u) (tab l.length (gd o.2.2.2.1 l u)) k FUEL 0 (0, 0, ()) (0, 0, ()) = k (fst1 o l u, snd1 o l u, ()) (sumN (eT o l u) l.length, sumN (lT o l u) l.length, ()) := by
  have hn := h.n
  have ht := takenS_tk h
  refine seq_loop l.length (fun j => (((sumN (eaL o l u) j, sumN (laL o l u) j, ()) : T40), ((sumN (eT o l u) j, sumN (lT o l u) j, ()) : T40))) (fun n j s => l5_1 l o (takenS o l u) (tab l.length (gd o.2.2.2.1 l u)) k n j s.1 s.2) (fun s => k s.1 s.2) (by omega) (fun n j hj => ?_) (fun n => ?_)
  · show s5_1 _ _ _ _ _ _ _ _ _ = _
    unfold s5_1
    have hb := h.ea_b hj
    have hle := tk_le h hj
    have hs := h.sums j (by omega)
    have hsT : ∀ i, i ≤ l.length → 0 ≤ sumN (eT o l u) i ∧ sumN (eT o l u) i ≤ 1000000000 * (i : Int) ∧ 0 ≤ sumN (lT o l u) i ∧ sumN (lT o l u) i ≤ 1000000000 * (i : Int) := by
      intro i
      induction i with
      | zero => simp [sumN]
      | succ i ih =>
        intro h2
        have := ih (by omega)
        have := h.ea_b (i := i) (by omega)
        have := tk_le h (i := i) (by omega)
        have := eT_b h (i := i) (by omega)
        simp only [sumN]
        omega
    have hsT := hsT j (by omega)
    have rT := rng (show j < (takenS o l u).length by rw [ht.n]; exact hj)
    have rG := rng (show j < (tab l.length (gd o.2.2.2.1 l u)).length by rw [tab_len]; exact hj)
    have gTk : (takenS o l u)[((j : Int)).toNat]? = some (gI (takenS o l u) j) := by rw [Int.toNat_natCast]; exact gI_get (by rw [ht.n]; exact hj)
    have gG : (tab l.length (gd o.2.2.2.1 l u))[((j : Int)).toNat]? = some (gd o.2.2.2.1 l u j) := by rw [Int.toNat_natCast, gI_get (by rw [tab_len]; exact hj), tab_gI hj]
    rw [bifT (lt1 hj), wrapI (x := (j : Int) + 1) (by omega) (by omega)]
    refine cont_eq (((sumN (eaL o l u) (j + 1), sumN (laL o l u) (j + 1), ()) : T40), ((sumN (eT o l u) (j + 1), sumN (lT o l u) (j + 1), ()) : T40)) (fun kk => ?_)
    simp only [sumN]
    by_cases c : (gT l j).2.2.1 > o.2.2.1
    · have e1 : eaL o l u j = 0 := if_neg (by omega)
      have e2 : laL o l u j = gd o.2.2.2.1 l u j := if_neg (by omega)
      have e3 : eT o l u j = 0 := if_neg (by omega)
      have e4 : lT o l u j = gI (takenS o l u) j := if_neg (by omega)
      refine (cont_eq (1 : Int) (fun k6 => by rw [gTx hj]; simp only [Option.bind_some]; rw [bifT (decide_eq_true c)])).trans ?_
      simp only [show decide ((1 : Int) = 0) = false from rfl, show decide ((1 : Int) = 1) = true from rfl, cond_true, cond_false]
      rw [asrtP (fun _ => rG), gG]
      simp only [Option.bind_some]
      rw [asrtP (fun _ => rT), gTk]
      simp only [Option.bind_some]
      rw [e1, e2, e3, e4, wrapI (x := sumN (laL o l u) j + _) (by omega) (by omega), wrapI (x := sumN (lT o l u) j + _) (by omega) (by omega), Int.add_zero, Int.add_zero]
      rfl
    · have e1 : eaL o l u j = gd o.2.2.2.1 l u j := if_pos (by omega)
      have e2 : laL o l u j = 0 := if_pos (by omega)
      have e3 : eT o l u j = gI (takenS o l u) j := if_pos (by omega)
      have e4 : lT o l u j = 0 := if_pos (by omega)
      refine (cont_eq (0 : Int) (fun k6 => by rw [gTx hj]; simp only [Option.bind_some]; rw [bifF (decide_eq_false c)])).trans ?_
      simp only [show decide ((0 : Int) = 0) = true from rfl, cond_true, cond_false]
      rw [asrtP (fun _ => rG), gG]
      simp only [Option.bind_some]
      rw [asrtP (fun _ => rT), gTk]
      simp only [Option.bind_some]
      rw [e1, e2, e3, e4, wrapI (x := sumN (eaL o l u) j + _) (by omega) (by omega), wrapI (x := sumN (eT o l u) j + _) (by omega) (by omega), Int.add_zero, Int.add_zero]
      rfl
  · show s5_1 _ _ _ _ _ _ _ _ _ = _
    unfold s5_1
    rw [bifF (lt0 _)]

theorem away_eq {A S g x : Int} (hA : 0 ≤ A ∧ A ≤ 1000000000) (hS : 0 ≤ S ∧ S ≤ 1000000000) (hg : 0 ≤ g ∧ g ≤ 1000000000) (hx : 0 ≤ x ∧ x ≤ 1000000000) (h : 0 < A → x * A - g * S < A ∧ -A < x * A - g * S) :
    ((decide (A > 0)) && ((decide ((IntKind.i64.wrap ((IntKind.i64.wrap (x * A)) - (IntKind.i64.wrap (g * S)))) ≤ (IntKind.i64.wrap (0 - A)))) || (decide ((IntKind.i64.wrap ((IntKind.i64.wrap (x * A)) - (IntKind.i64.wrap (g * S)))) ≥ A)))) = false := by
  have p1 : 0 ≤ x * A ∧ x * A ≤ 1000000000 * 1000000000 := ⟨Int.mul_nonneg hx.1 hA.1, Int.mul_le_mul hx.2 hA.2 hA.1 (by omega)⟩
  have p2 : 0 ≤ g * S ∧ g * S ≤ 1000000000 * 1000000000 := ⟨Int.mul_nonneg hg.1 hS.1, Int.mul_le_mul hg.2 hS.2 hS.1 (by omega)⟩
  rw [wrapI (x := x * A) (by omega) (by omega), wrapI (x := g * S) (by omega) (by omega), wrapI (x := x * A - g * S) (by omega) (by omega), wrapI (x := 0 - A) (by omega) (by omega)]
  by_cases c : A > 0
  · have := h c
    rw [decide_eq_false (show ¬ x * A - g * S ≤ 0 - A by omega), decide_eq_false (show ¬ x * A - g * S ≥ A by omega)]
    simp
  · rw [decide_eq_false c]; rfl

theorem l5_2_eq {R : Type} {o : T22} {l : List T38} {u : List Int} (h : Rt o l u) (k1 k2 : Option R) :
    l5_2 l o (takenS o l u) (tab l.length (gd o.2.2.2.1 l u)) (fst1 o l u, snd1 o l u, ()) (sumN (eT o l u) l.length, sumN (lT o l u) l.length, ()) k1 k2 FUEL 0 = k1 := by
  have hn := h.n
  have ht := takenS_tk h
  have hf := fair h
  have hall := gd_all h
  have hs := h.sums l.length (Nat.le_refl _)
  have eF : sumN (eaL o l u) l.length = fst1 o l u := rfl
  have eS : sumN (laL o l u) l.length = snd1 o l u := rfl
  rw [eF, eS] at hs
  rw [gd_sum] at hall
  have s1 : 0 ≤ sumN (eT o l u) l.length ∧ sumN (eT o l u) l.length ≤ fst1 o l u := ⟨sumN_nonneg fun i hi => by have := tk_le h hi; unfold eT; split <;> omega, sumN_le fun i hi => by have := tk_le h hi; unfold eT eaL; split <;> omega⟩
  have s2 : 0 ≤ sumN (lT o l u) l.length ∧ sumN (lT o l u) l.length ≤ snd1 o l u := ⟨sumN_nonneg fun i hi => by have := tk_le h hi; unfold lT; split <;> omega, sumN_le fun i hi => by have := tk_le h hi; unfold lT laL; split <;> omega⟩
  refine seq_loop l.length (fun _ => ()) (fun n j (_ : Unit) => l5_2 l o (takenS o l u) (tab l.length (gd o.2.2.2.1 l u)) (fst1 o l u, snd1 o l u, ()) (sumN (eT o l u) l.length, sumN (lT o l u) l.length, ()) k1 k2 n j) (fun _ => k1) (by omega) (fun n j hj => ?_) (fun n => ?_)
  · show s5_2 _ _ _ _ _ _ _ _ _ _ = _
    unfold s5_2
    have hb := h.ea_b hj
    have hle := tk_le h hj
    have rT := rng (show j < (takenS o l u).length by rw [ht.n]; exact hj)
    have rG := rng (show j < (tab l.length (gd o.2.2.2.1 l u)).length by rw [tab_len]; exact hj)
    have gTk : (takenS o l u)[((j : Int)).toNat]? = some (gI (takenS o l u) j) := by rw [Int.toNat_natCast]; exact gI_get (by rw [ht.n]; exact hj)
    have gG : (tab l.length (gd o.2.2.2.1 l u))[((j : Int)).toNat]? = some (gd o.2.2.2.1 l u j) := by rw [Int.toNat_natCast, gI_get (by rw [tab_len]; exact hj), tab_gI hj]
    rw [bifT (lt1 hj), wrapI (x := (j : Int) + 1) (by omega) (by omega)]
    refine cont_eq () (fun k25 => ?_)
    by_cases c : (gT l j).2.2.1 > o.2.2.1
    · have e2 : laL o l u j = gd o.2.2.2.1 l u j := if_neg (by omega)
      have e4 : lT o l u j = gI (takenS o l u) j := if_neg (by omega)
      have hfl := hf.la j hj
      rw [e2, e4] at hfl
      refine (cont_eq (1 : Int) (fun k6 => by rw [gTx hj]; simp only [Option.bind_some]; rw [bifT (decide_eq_true c)])).trans ?_
      simp only [show decide ((1 : Int) = 0) = false from rfl, show decide ((1 : Int) = 1) = true from rfl, cond_true, cond_false]
      rw [asrtP (fun _ => rT), gTk]
      simp only [Option.bind_some]
      rw [asrtP (fun _ => rG), gG]
      simp only [Option.bind_some]
      rw [away_eq (by omega) (by omega) (by omega) (by omega) hfl]
      rfl
    · have e1 : eaL o l u j = gd o.2.2.2.1 l u j := if_pos (by omega)
      have e3 : eT o l u j = gI (takenS o l u) j := if_pos (by omega)
      have hfe := hf.e j hj
      rw [e1, e3] at hfe
      refine (cont_eq (0 : Int) (fun k6 => by rw [gTx hj]; simp only [Option.bind_some]; rw [bifF (decide_eq_false c)])).trans ?_
      simp only [show decide ((0 : Int) = 0) = true from rfl, cond_true, cond_false]
      rw [asrtP (fun _ => rT), gTk]
      simp only [Option.bind_some]
      rw [asrtP (fun _ => rG), gG]
      simp only [Option.bind_some]
      rw [away_eq (by omega) (by omega) (by omega) (by omega) hfe]
      rfl
  · show s5_2 _ _ _ _ _ _ _ _ _ _ = _
    unfold s5_2
    rw [bifF (lt0 _)]

theorem offerFair (o : T22) (l : List T38) (u : List Int) : m5 o l u = some true := by
  unfold m5
  rw [m8_eq, m9_eq]
  simp only [Option.bind_some]
  by_cases hf : l.length ≤ 14 ∧ u.length ≤ 10
  case neg => rw [decide_eq_false hf]; rfl
  rw [decide_eq_true hf]
  simp only [Bool.not_true, cond_false]
  by_cases h : Ok o l u
  · have hr : Rt o l u := ⟨hf.1, hf.2, h⟩
    have ht := takenS_tk hr
    rw [m12_eq hr]
    simp only [Option.bind_some, bne_self_eq_false, cond_false, m16_eq hr]
    rw [bifF (by rw [ht.n, tab_len]; simp), l5_1_eq hr]
    have hfi := (fair hr).first
    rw [bifF (by
      by_cases c : 0 < sumN (lT o l u) l.length
      · rw [hfi c]; simp
      · rw [decide_eq_false c]; rfl), l5_2_eq hr]
  · rw [m12_bad hf.1 hf.2 h]
    rfl

end Go.Proofs.Ytidlfemliaepjaa
