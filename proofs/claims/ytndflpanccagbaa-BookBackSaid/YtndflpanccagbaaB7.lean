/- Seats: the laws of moves. -/
import Derived.Test.YtndflpanccagbaaB6
namespace Go.Proofs.Ytndflpanccagbaa
open Go Go.Eng
set_option linter.unusedVariables false
set_option linter.unusedSimpArgs false

theorem sum_mv {u : List Int} {f t : Nat} {n : Int} (hf : f < u.length) (ht : t < u.length) {L : Nat} (hL : u.length = L) : sumN (gI (mvU u f t n)) L = sumN (gI u) L := by
  rw [sumN_congr (fun i _ => mvU_get hf ht i), sumN_add, sumN_sub]
  rw [sumN_one (f := fun i => if i = f then n else 0) (k := f) (by omega) (fun i _ hne => if_neg hne), sumN_one (f := fun i => if i = t then n else 0) (k := t) (by omega) (fun i _ hne => if_neg hne), if_pos rfl, if_pos rfl]
  omega

theorem valid_mv {S : List T35} {u : List Int} (hv : Valid S u) {f t : Nat} {n : Int} (hf : f < S.length) (ht : t < S.length) (lf : LeafP S (f : Int)) (lt : LeafP S (t : Int)) (h1 : 1 ≤ n) (h2 : n ≤ gI u f) : Valid S (mvU u f t n) := by
  have hul := hv.2.1
  have hs := sum_mv (u := u) (f := f) (t := t) (n := n) (by omega) (by omega) hul
  have hnn : ∀ i, i < S.length → 0 ≤ gI (mvU u f t n) i := by
    intro i hi
    rw [mvU_get (by omega) (by omega)]
    have := (hv.nn hi).1
    by_cases e : i = f
    · subst e; simp; split <;> omega
    · simp [e]; split <;> omega
  refine ⟨hv.1, by rw [mvU_len]; exact hul, fun i hi => ⟨hnn i hi, ?_, ?_⟩, by rw [hs]; exact hv.2.2.2⟩
  · have := sumN_part (f := gI (mvU u f t n)) (n := S.length) hi hnn
    have := hv.2.2.2
    omega
  · intro hpos
    rw [mvU_get (by omega) (by omega)] at hpos
    by_cases e1 : i = f
    · subst e1; exact lf
    · by_cases e2 : i = t
      · subst e2; exact lt
      · simp only [if_neg e1, if_neg e2] at hpos
        exact (hv.2.2.1 i hi).2.2 (by omega)

theorem has_mv {S : List T35} {u : List Int} (hul : u.length = S.length) {f t : Nat} {n : Int} (hf : f < S.length) (ht : t < S.length) (j : Nat) :
    has S (mvU u f t n) j = has S u j - (if below S f j = true then n else 0) + (if below S t j = true then n else 0) := by
  unfold has
  have e : ∀ i, (if below S i j = true then gI (mvU u f t n) i else 0) = (if below S i j = true then gI u i else 0) - (if i = f then (if below S f j = true then n else 0) else 0) + (if i = t then (if below S t j = true then n else 0) else 0) := by
    intro i
    rw [mvU_get (by omega) (by omega)]
    by_cases e1 : i = f
    · by_cases e2 : i = t
      · subst e1; subst e2; simp <;> (split <;> omega)
      · subst e1; simp [e2] <;> (split <;> omega)
    · by_cases e2 : i = t
      · subst e2; simp [e1]; split <;> omega
      · simp [e1, e2]
  rw [sumN_congr (fun i _ => e i), sumN_add, sumN_sub]
  rw [sumN_one (f := fun i => if i = f then (if below S f j = true then n else 0) else 0) (k := f) hf (fun i _ hne => if_neg hne), sumN_one (f := fun i => if i = t then (if below S t j = true then n else 0) else 0) (k := t) ht (fun i _ hne => if_neg hne), if_pos rfl, if_pos rfl]

theorem moveS_ok {S : List T35} {u : List Int} (hv : Valid S u) {f t : Nat} {n : Int} (hf : f < S.length) (ht : t < S.length) (lf : LeafP S (f : Int)) (lt : LeafP S (t : Int)) (h1 : 1 ≤ n) (h2 : n ≤ gI u f) : moveS S u f t n = (mvU u f t n, 0, ()) := by
  unfold moveS
  have i1 : In S (f : Int) ∧ LeafP S (f : Int) := ⟨by constructor <;> omega, lf⟩
  have i2 : In S (t : Int) ∧ LeafP S (t : Int) := ⟨by constructor <;> omega, lt⟩
  have ep : ((f : Int)).toNat = f := by omega
  have eq : ((t : Int)).toNat = t := by omega
  rw [if_neg (by simp [hv]; omega), if_neg (by simp [i1, i2]), ep, eq, if_neg (by omega)]

theorem moveS_few {S : List T35} {u : List Int} (hv : Valid S u) {f t : Nat} {n : Int} (hf : f < S.length) (ht : t < S.length) (lf : LeafP S (f : Int)) (lt : LeafP S (t : Int)) (h1 : 1 ≤ n) (h2 : gI u f < n) : moveS S u f t n = ([], 22, ()) := by
  unfold moveS
  have i1 : In S (f : Int) ∧ LeafP S (f : Int) := ⟨by constructor <;> omega, lf⟩
  have i2 : In S (t : Int) ∧ LeafP S (t : Int) := ⟨by constructor <;> omega, lt⟩
  have ep : ((f : Int)).toNat = f := by omega
  have eq : ((t : Int)).toNat = t := by omega
  rw [if_neg (by simp [hv]; omega), if_neg (by simp [i1, i2]), ep, if_pos h2]

/-- Where a move is done. -/
theorem moveS_is {S : List T35} {u : List Int} {f t n : Int} (h : (moveS S u f t n).2.1 = 0) : Valid S u ∧ 1 ≤ n ∧ ∃ p q : Nat, f = p ∧ t = q ∧ p < S.length ∧ q < S.length ∧ LeafP S (p : Int) ∧ LeafP S (q : Int) ∧ n ≤ gI u p := by
  unfold moveS at h
  split at h
  · simp at h
  · rename_i c1
    split at h
    · simp at h
    · rename_i c2
      split at h
      · simp at h
      · rename_i c3
        have hv : Valid S u := Classical.byContradiction fun x => c1 (.inl x)
        have hf : In S f ∧ LeafP S f := Classical.byContradiction fun x => c2 (.inl x)
        have ht : In S t ∧ LeafP S t := Classical.byContradiction fun x => c2 (.inr x)
        have hn : ¬ n < 1 := fun x => c1 (.inr x)
        obtain ⟨p, rfl⟩ : ∃ p : Nat, f = p := ⟨f.toNat, by have := hf.1.1; omega⟩
        obtain ⟨q, rfl⟩ : ∃ q : Nat, t = q := ⟨t.toNat, by have := ht.1.1; omega⟩
        have ep : ((p : Int)).toNat = p := by omega
        rw [ep] at c3
        exact ⟨hv, by omega, p, q, rfl, rfl, by have := hf.1.2; omega, by have := ht.1.2; omega, hf.2, ht.2, by omega⟩

theorem l5_eq {R : Type} (S : List T35) (u : List Int) (hv : Valid S u) (hL : S.length ≤ 30) (f t : Nat) (n : Int) (hf : f < S.length) (ht : t < S.length) (lf : LeafP S (f : Int)) (lt : LeafP S (t : Int)) (h1 : 1 ≤ n) (h2 : n ≤ gI u f) (k1 k2 : Option R) : ∀ (m j : Nat), j ≤ S.length → S.length - j < m →
    l5_1 S u f t n (mvU u f t n) k1 k2 m j = k1
  | 0, j, _, h => by omega
  | m + 1, j, hj, hn => by
    have hul := hv.2.1
    unfold l5_1 s5_1
    by_cases c : j = S.length
    · subst c
      rw [bifF (decide_eq_false (by omega))]
    · have hlt : j < S.length := by omega
      have hv2 := valid_mv hv hf ht lf lt h1 h2
      have hin : In S (j : Int) := by constructor <;> omega
      have e1 : heldS S u (j : Int) = has S u j := by unfold heldS; rw [if_pos ⟨hv, hin⟩]; rfl
      have e2 : heldS S (mvU u f t n) (j : Int) = has S (mvU u f t n) j := by unfold heldS; rw [if_pos ⟨hv2, hin⟩]; rfl
      have hb := has_b hv j
      have hnf := hv.nn hf
      rw [bifT (decide_eq_true (by omega)), m21_eq, e1]
      simp only [Option.bind_some]
      rw [cont_eq (has S u j - (if below S f j = true then n else 0)) (by
        intro k
        rw [m24_eq S hv.1 f j hf]
        simp only [Option.bind_some]
        cases below S f j with
        | true => simp only [cond_true, if_true]; rw [wrapI (by omega) (by omega)]
        | false => simp)]
      rw [cont_eq (has S u j - (if below S f j = true then n else 0) + (if below S t j = true then n else 0)) (by
        intro k
        rw [m24_eq S hv.1 t j ht]
        simp only [Option.bind_some]
        cases below S t j with
        | true => simp only [cond_true, if_true]; rw [wrapI (by split <;> omega) (by split <;> omega)]
        | false => simp)]
      rw [m21_eq, e2, has_mv hul hf ht]
      simp only [Option.bind_some, bne_same, cond_false]
      rw [wrapI (x := (j : Int) + 1) (by omega) (by omega)]
      exact l5_eq S u hv hL f t n hf ht lf lt h1 h2 k1 k2 m (j + 1) (by omega) (by omega)

theorem moves (S : List T35) (u : List Int) (f t n : Int) : m5 S u f t n = some true := by
  unfold m5
  rw [small, m9_eq]
  simp only [Option.bind_some]
  by_cases h : Few S u
  · rw [decide_eq_true h]
    have hL : S.length ≤ 20000 := by have := h.1; omega
    rw [m23_eq S u hL]
    by_cases hv : Valid S u
    · rw [decide_eq_true hv]
      simp only [Bool.not_true, beq_self_eq_true, cond_true, Option.bind_some, Bool.or_self, Bool.false_or]
      by_cases hn : n < 1
      · rw [decide_eq_true hn]; rfl
      · rw [decide_eq_false hn]
        have lf : ∀ i, leafS S i = decide (In S i ∧ LeafP S i) := by
          intro i; unfold leafS; rw [decide_eq_decide]; exact ⟨fun h => h.2, fun h => ⟨hv.1, h⟩⟩
        simp only [cond_false, m10_eq, m19_eq S (show S.length ≤ 4294967296 by omega), lf, Option.bind_some]
        by_cases hf : In S f ∧ LeafP S f
        · rw [decide_eq_true hf]
          simp only [Bool.not_true, beq_self_eq_true, cond_true, Option.bind_some, Bool.or_self, Bool.false_or]
          by_cases ht : In S t ∧ LeafP S t
          · rw [decide_eq_true ht]
            simp only [Bool.not_true, cond_false]
            obtain ⟨p, rfl⟩ : ∃ p : Nat, f = p := ⟨f.toNat, by have := hf.1.1; omega⟩
            obtain ⟨q, rfl⟩ : ∃ q : Nat, t = q := ⟨t.toNat, by have := ht.1.1; omega⟩
            have hp : p < S.length := by have := hf.1.2; omega
            have hq : q < S.length := by have := ht.1.2; omega
            have hul := hv.2.1
            rw [idx_nat, gI_get (by omega)]
            simp only [Option.bind_some]
            by_cases hlt : gI u p < n
            · rw [bifT (decide_eq_true hlt), moveS_few hv hp hq hf.2 ht.2 (by omega) hlt]
              rfl
            · rw [bifF (decide_eq_false hlt), moveS_ok hv hp hq hf.2 ht.2 (by omega) (by omega)]
              simp only [bne_same, beq_self_eq_true, cond_true]
              rw [m23_eq S _ hL, decide_eq_true (valid_mv hv hp hq hf.2 ht.2 (by omega) (by omega))]
              simp only [Option.bind_some, Bool.not_true, Bool.or_self, cond_false]
              have := l5_eq S u hv h.1 p q n hp hq hf.2 ht.2 (by omega) (by omega) (some true) (some false) FUEL 0 (by omega) (fuel_lt (by omega))
              simpa using this
          · have e : moveS S u f t n = ([], 4, ()) := by
              unfold moveS; rw [if_neg (by simp [hv, hn]), if_pos (.inr ht)]
            rw [decide_eq_false ht, e]
            rfl
        · have e : moveS S u f t n = ([], 4, ()) := by
            unfold moveS; rw [if_neg (by simp [hv, hn]), if_pos (.inl hf)]
          rw [decide_eq_false hf, e]
          rfl
    · rw [decide_eq_false hv]
      rfl
  · rw [decide_eq_false h]
    rfl

theorem mv_ext {u : List Int} {a b : List Int} (ha : a.length = u.length) (hb : b.length = u.length) (h : ∀ i, i < u.length → gI a i = gI b i) : a = b :=
  ext_gI (by omega) (fun i hi => h i (by omega))

theorem back (S : List T35) (u : List Int) (f t o n m : Int) : m6 S u f t o n m = some true := by
  unfold m6
  rw [small, m9_eq]
  simp only [Option.bind_some]
  by_cases h : Few S u
  case neg => rw [decide_eq_false h]; rfl
  rw [decide_eq_true h]
  have hL : S.length ≤ 20000 := by have := h.1; omega
  have hu40 := h.2
  rw [m23_eq S u hL]
  by_cases hv : Valid S u
  case neg => rw [decide_eq_false hv]; rfl
  rw [decide_eq_true hv]
  have hul := hv.2.1
  simp only [Bool.not_true, beq_self_eq_true, cond_true, Option.bind_some, Bool.or_self, Bool.false_or]
  by_cases hc : 1 ≤ n ∧ 1 ≤ m ∧ n ≤ 1000000000 ∧ m ≤ 1000000000
  case neg => rw [bifT (by simp; omega)]
  rw [bifF (by simp; omega), wrapI (x := n + m) (by omega) (by omega)]
  simp only [m10_eq, Option.bind_some]
  have len : ∀ u f t n, (moveS S u f t n).1.length ≤ u.length := moveS_len S
  -- the move back
  rw [cont_eq () (by
    intro k
    by_cases he : (moveS S u f t n).2.1 = 0
    · obtain ⟨_, n1, p, q, rfl, rfl, hp, hq, lp, lq, hle⟩ := moveS_is he
      rw [moveS_ok hv hp hq lp lq n1 hle]
      have hv2 := valid_mv hv hp hq lp lq n1 hle
      have hg : n ≤ gI (mvU u p q n) q := by
        rw [mvU_get (by omega) (by omega)]
        have := hv.nn hq
        by_cases e : q = p
        · subst e; simp; omega
        · simp [e]; omega
      rw [moveS_ok hv2 hq hp lq lp n1 hg]
      have hback : mvU (mvU u p q n) q p n = u := by
        refine mv_ext (u := u) (by rw [mvU_len, mvU_len]) rfl (fun i hi => ?_)
        have hl2 := mvU_len u p q n
        rw [mvU_get (by omega) (by omega), mvU_get (by omega) (by omega)]
        omega
      rw [hback, m12_eq _ _ (by show u.length ≤ _; omega)]
      simp
    · rw [bifF (beq_eq_false_iff_ne.2 he)])]
  -- two moves
  rw [cont_eq () (by
    intro k
    by_cases he : (moveS S u f t (n + m)).2.1 = 0 ∧ f ≠ t
    · obtain ⟨he, hne⟩ := he
      obtain ⟨_, n1, p, q, rfl, rfl, hp, hq, lp, lq, hle⟩ := moveS_is he
      have hpq : p ≠ q := by omega
      rw [moveS_ok hv hp hq lp lq n1 hle, moveS_ok hv hp hq lp lq (n := n) (by omega) (by omega)]
      have hv2 := valid_mv hv hp hq lp lq (n := n) (by omega) (by omega)
      have hg : m ≤ gI (mvU u p q n) p := by
        rw [mvU_get (by omega) (by omega)]
        simp [hpq]; omega
      rw [moveS_ok hv2 hp hq lp lq hc.2.1 hg]
      have hb : mvU (mvU u p q n) p q m = mvU u p q (n + m) := by
        refine mv_ext (u := u) (by rw [mvU_len, mvU_len]) (mvU_len _ _ _ _) (fun i hi => ?_)
        have hl2 := mvU_len u p q n
        rw [mvU_get (by omega) (by omega), mvU_get (by omega) (by omega), mvU_get (by omega) (by omega)]
        repeat' split
        all_goals omega
      rw [hb, m12_eq _ _ (by rw [mvU_len]; omega)]
      simp [bne_ne hne]
    · rw [bifF]
      by_cases h1 : (moveS S u f t (n + m)).2.1 = 0
      · have : f = t := Classical.byContradiction fun x => he ⟨h1, x⟩
        subst this; simp
      · simp [h1])]
  -- two that change places
  rw [cont_eq () (by
    intro k
    by_cases he : (moveS S u f t n).2.1 = 0 ∧ (moveS S u f o m).2.1 = 0
    · obtain ⟨he, hg⟩ := he
      obtain ⟨_, n1, p, q, rfl, rfl, hp, hq, lp, lq, hle⟩ := moveS_is he
      obtain ⟨_, m1, p', r, e', rfl, _, hr, _, lr, hle2⟩ := moveS_is hg
      have : p = p' := by omega
      subst this
      rw [moveS_ok hv hp hq lp lq n1 hle, moveS_ok hv hp hr lp lr m1 hle2]
      simp only [beq_self_eq_true, Bool.and_self, cond_true]
      have hv2 := valid_mv hv hp hq lp lq n1 hle
      have hv3 := valid_mv hv hp hr lp lr m1 hle2
      have g2 : gI (mvU u p q n) p = gI u p - n + (if p = q then n else 0) := by rw [mvU_get (by omega) (by omega), if_pos rfl]
      have g3 : gI (mvU u p r m) p = gI u p - m + (if p = r then m else 0) := by rw [mvU_get (by omega) (by omega), if_pos rfl]
      have comm : mvU (mvU u p q n) p r m = mvU (mvU u p r m) p q n := by
        have hl2 := mvU_len u p q n
        have hl3 := mvU_len u p r m
        refine mv_ext (u := u) (by rw [mvU_len, mvU_len]) (by rw [mvU_len, mvU_len]) (fun i hi => ?_)
        rw [mvU_get (by omega) (by omega), mvU_get (by omega) (by omega), mvU_get (by omega) (by omega), mvU_get (by omega) (by omega)]
        omega
      have hlen : (mvU (mvU u p q n) p r m).length ≤ 4294967296 := by rw [mvU_len, mvU_len]; omega
      by_cases h2 : m ≤ gI (mvU u p q n) p
      · rw [moveS_ok hv2 hp hr lp lr m1 h2]
        by_cases h3 : n ≤ gI (mvU u p r m) p
        · rw [moveS_ok hv3 hp hq lp lq n1 h3, comm, m12_eq _ _ (by rw [← comm]; exact hlen)]
          simp
        · rw [moveS_few hv3 hp hq lp lq n1 (by omega)]
          by_cases c1 : p = q
          · subst c1; simp
          · by_cases c2 : p = r
            · subst c2; simp
            · simp [c1] at g2; simp [c2] at g3; omega
      · rw [moveS_few hv2 hp hr lp lr m1 (by omega)]
        by_cases h3 : n ≤ gI (mvU u p r m) p
        · rw [moveS_ok hv3 hp hq lp lq n1 h3]
          by_cases c1 : p = q
          · subst c1; simp
          · by_cases c2 : p = r
            · subst c2; simp
            · simp [c1] at g2; simp [c2] at g3; omega
        · rw [moveS_few hv3 hp hq lp lq n1 (by omega)]
          simp
    · rw [bifF]
      rw [Bool.eq_false_iff]
      intro x
      simp only [Bool.and_eq_true, beq_iff_eq] at x
      exact he x)]

end Go.Proofs.Ytndflpanccagbaa
