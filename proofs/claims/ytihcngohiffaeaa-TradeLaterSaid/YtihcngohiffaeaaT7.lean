/- TradeLater: the plain law. -/
import Derived.Test.YtihcngohiffaeaaT6
namespace Go.Proofs.Ytihcngohiffaeaa
open Go Go.Eng
set_option linter.unusedVariables false
set_option linter.unusedSimpArgs false

/-- A trade put in. -/
def ins (k : Nat) (t : T25) (l : List T25) : List T25 := l.take k ++ t :: l.drop k

theorem ins_len (k : Nat) (t : T25) (l : List T25) (hk : k ≤ l.length) : (ins k t l).length = l.length + 1 := by
  unfold ins
  rw [List.length_append, List.length_take, List.length_cons, List.length_drop]
  omega

theorem ins_get (k : Nat) (t : T25) (l : List T25) (hk : k ≤ l.length) (i : Nat) : (ins k t l)[i]? = if i < k then l[i]? else if i = k then some t else l[i - 1]? := by
  unfold ins
  rw [List.getElem?_append, List.length_take, Nat.min_eq_left hk]
  split
  · rw [List.getElem?_take, if_pos (by assumption)]
  · rename_i h
    split
    · rename_i h2
      subst h2
      simp
    · rename_i h2
      obtain ⟨m, hm⟩ : ∃ m, i - k = m + 1 := ⟨i - k - 1, by omega⟩
      rw [hm, List.getElem?_cons_succ, List.getElem?_drop]
      congr 1
      omega

theorem ext_get {a b : List T25} (h : ∀ i : Nat, a[i]? = b[i]?) : a = b := List.ext_getElem? h

theorem step_ins {now : Int} {k : Nat} {t : T25} {l : List T25} (hk : k ≤ l.length) {i : Nat} (hi : i < l.length) (x : T25) :
    stepL now (ins k t l) (if i < k then i else i + 1) x = ins k t (stepL now l i x) ∧ k ≤ (stepL now l i x).length := by
  have hl2 : k ≤ (stepL now l i x).length := by
    unfold stepL
    rw [List.length_append, List.length_set]; omega
  refine ⟨?_, hl2⟩
  have hil := ins_len k t l hk
  apply ext_get
  intro j
  have gL : (stepL now l i x)[j]? = if j < l.length then (if i = j then some (setD now x) else l[j]?) else (if x.1 = 1 then [backT now x] else [])[j - l.length]? := by
    unfold stepL
    rw [List.getElem?_append, List.length_set, List.getElem?_set]
    split
    · split <;> rfl
    · rfl
  have gLm : (stepL now l i x)[j - 1]? = if j - 1 < l.length then (if i = j - 1 then some (setD now x) else l[j - 1]?) else (if x.1 = 1 then [backT now x] else [])[j - 1 - l.length]? := by
    unfold stepL
    rw [List.getElem?_append, List.length_set, List.getElem?_set]
    split
    · split <;> rfl
    · rfl
  rw [ins_get k t _ hl2, gL, gLm]
  unfold stepL
  rw [List.getElem?_append, List.length_set, hil, List.getElem?_set, hil, ins_get k t l hk]
  by_cases h1 : j < l.length + 1
  · rw [if_pos h1]
    by_cases hik : i < k
    · rw [if_pos hik]
      by_cases hij : i = j
      · subst hij
        rw [if_pos rfl, if_pos (by omega), if_pos hik, if_pos hi, if_pos rfl]
      · rw [if_neg hij]
        by_cases hjk : j < k
        · rw [if_pos hjk, if_pos hjk, if_pos (by omega), if_neg hij]
        · rw [if_neg hjk, if_neg hjk]
          by_cases hjk2 : j = k
          · rw [if_pos hjk2, if_pos hjk2]
          · rw [if_neg hjk2, if_neg hjk2, if_pos (by omega), if_neg (by omega)]
    · rw [if_neg hik]
      by_cases hij : i + 1 = j
      · subst hij
        rw [if_pos rfl, if_pos (by omega), if_neg (by omega), if_neg (by omega), if_pos (by omega), if_pos (by omega)]
      · rw [if_neg hij]
        by_cases hjk : j < k
        · rw [if_pos hjk, if_pos hjk, if_pos (by omega), if_neg (by omega)]
        · rw [if_neg hjk, if_neg hjk]
          by_cases hjk2 : j = k
          · rw [if_pos hjk2, if_pos hjk2]
          · rw [if_neg hjk2, if_neg hjk2, if_pos (by omega), if_neg (by omega)]
  · rw [if_neg h1, if_neg (show ¬ j < k by omega), if_neg (show ¬ j = k by omega), if_neg (show ¬ j - 1 < l.length by omega)]
    congr 1
    omega

theorem fst1_ins {u : List Int} {now : Int} {k : Nat} {t : T25} {l : List T25} (hk : k ≤ l.length) (ht : ¬ Can u now t) : fst1 u now (ins k t l) = (fst1 u now l).map fun i => if i < k then i else i + 1 := by
  have hil := ins_len k t l hk
  have getI : ∀ i (hi : i < (ins k t l).length), (ins k t l)[i]? = some (ins k t l)[i] := fun i hi => List.getElem?_eq_getElem hi
  rcases fst1_spec (u := u) (now := now) (l := l) with ⟨h1, h2⟩ | ⟨i, hi, h1, hc, hb⟩
  · rw [h1]
    refine fst1_none fun x hx => ?_
    unfold ins at hx
    rcases List.mem_append.1 hx with hx | hx
    · exact h2 x (List.mem_of_mem_take hx)
    · rcases List.mem_cons.1 hx with rfl | hx
      · exact ht
      · exact h2 x (List.mem_of_mem_drop hx)
  · rw [h1]
    simp only [Option.map_some]
    have hlt : (if i < k then i else i + 1) < (ins k t l).length := by split <;> omega
    have hg : (ins k t l)[if i < k then i else i + 1] = l[i] := by
      by_cases h : i < k
      · have e := getI i (by omega)
        rw [ins_get k t l hk, if_pos h, List.getElem?_eq_getElem hi] at e
        simp only [if_pos h]
        exact (Option.some.inj e).symm
      · have e := getI (i + 1) (by omega)
        rw [ins_get k t l hk, if_neg (by omega), if_neg (by omega)] at e
        simp only [Nat.add_sub_cancel] at e
        rw [List.getElem?_eq_getElem hi] at e
        simp only [if_neg h]
        exact (Option.some.inj e).symm
    refine fst1_some hlt (by rw [hg]; exact hc) fun j hj => ?_
    have hjl : j < (ins k t l).length := by omega
    have := getI j hjl
    rw [ins_get k t l hk] at this
    by_cases hjk : j < k
    · rw [if_pos hjk, List.getElem?_eq_getElem (by omega)] at this
      rw [← Option.some.inj this]
      refine hb j ?_
      split at hj <;> omega
    · rw [if_neg hjk] at this
      by_cases hjk2 : j = k
      · rw [if_pos hjk2] at this
        rw [← Option.some.inj this]
        exact ht
      · rw [if_neg hjk2] at this
        have hj1 : j - 1 < i := by split at hj <;> omega
        rw [List.getElem?_eq_getElem (show j - 1 < l.length by omega)] at this
        rw [← Option.some.inj this]
        exact hb (j - 1) hj1

/-- A trade that is due later stays as it is, and changes nothing. -/
theorem settle_ins {now : Int} {t : T25} (ht : now < t.2.2.2.2.2.1) (k : Nat) : ∀ (n : Nat) (u : List Int) (l : List T25), k ≤ l.length →
    settle now n u (ins k t l) = ((settle now n u l).1, ins k t (settle now n u l).2) ∧ k ≤ (settle now n u l).2.length
  | 0, u, l, hk => ⟨rfl, hk⟩
  | n + 1, u, l, hk => by
    have hnc : ¬ Can u now t := fun h => by have := h.2.1; omega
    have hf := fst1_ins hk hnc
    rcases fst1_spec (u := u) (now := now) (l := l) with ⟨h1, h2⟩ | ⟨i, hi, h1, hc, hb⟩
    · rw [settle_none h2]
      rw [h1] at hf
      simp only [settle, hf, Option.map_none]
      exact ⟨trivial, hk⟩
    · rw [settle_some hi hc hb]
      rw [h1] at hf
      simp only [Option.map_some] at hf
      have hg : (ins k t l).getD (if i < k then i else i + 1) (0, 0, 0, 0, 0, 0, 0, 0, ()) = l[i] := by
        rw [List.getD_eq_getElem?_getD, ins_get k t l hk]
        by_cases h : i < k
        · rw [if_pos h, if_pos h, List.getElem?_eq_getElem hi]; rfl
        · rw [if_neg h, if_neg (by omega), if_neg (by omega)]
          simp only [Nat.add_sub_cancel]
          rw [List.getElem?_eq_getElem hi]; rfl
      obtain ⟨e1, e2⟩ := step_ins (now := now) (t := t) hk hi l[i]
      simp only [settle, hf, hg]
      rw [e1]
      exact settle_ins ht k n _ _ e2

theorem ins_mem {k : Nat} {t x : T25} {l : List T25} (h : x ∈ ins k t l) : x = t ∨ x ∈ l := by
  unfold ins at h
  rcases List.mem_append.1 h with h | h
  · exact .inr (List.mem_of_mem_take h)
  · rcases List.mem_cons.1 h with h | h
    · exact .inl h
    · exact .inr (List.mem_of_mem_drop h)

theorem mu_ins (k : Nat) (t : T25) (l : List T25) : mu (ins k t l) = mu l + wt t := by
  have h : mu (l.take k) + mu (l.drop k) = mu l := by rw [← mu_app, List.take_append_drop]
  unfold ins
  rw [mu_app]
  have : mu (t :: l.drop k) = wt t + mu (l.drop k) := rfl
  omega

theorem subl_take {α : Type} (l : List α) (k : Nat) : subl l 0 (k : Int) = l.take k := by
  simp [subl]

theorem subl_drop {α : Type} (l : List α) (k : Nat) : subl l (k : Int) (l.length : Int) = l.drop k := by
  simp [subl]

theorem drop_ins (k : Nat) (t : T25) (l : List T25) (hk : k ≤ l.length) : (ins k t l).take k ++ (ins k t l).drop (k + 1) = l := by
  have h1 : (l.take k).length = k := by rw [List.length_take]; omega
  unfold ins
  rw [List.take_append_of_le_length (by omega), List.take_of_length_le (by omega), List.drop_append, List.drop_of_length_le (by omega), h1]
  simp

theorem tradeLater (S : List T60) (u : List Int) (l : List T25) (d : Int) (t : T25) (at' : Int) (ha0 : 0 ≤ at') (ha1 : at' ≤ 255) : m3 S u l d t at' = some true := by
  unfold m3
  rw [small7, few8]
  simp only [Option.bind_some]
  by_cases hfew : (S.length ≤ 10 ∧ u.length ≤ 10 ∧ l.length ≤ 12) ∧ l.length ≤ 11
  case neg =>
    rw [bifT]
    simp only [Bool.or_eq_true, Bool.not_eq_true', decide_eq_false_iff_not, decide_eq_true_eq]
    omega
  obtain ⟨hf, h11⟩ := hfew
  rw [decide_eq_true hf, decide_eq_false (show ¬ (l.length : Int) > 11 by omega)]
  simp only [Bool.not_true, Bool.or_self, cond_false, m9_eq, Option.bind_some]
  by_cases hok : RightT S l ∧ Valid S u ∧ Day d
  case neg =>
    have : settleS S u l d = ([], [], 1, ()) := by unfold settleS; rw [if_neg hok]
    rw [this]
    rfl
  obtain ⟨hr, hv, hd⟩ := hok
  have hmu := mu_le l
  have hlen := settle_len (now := d) (mu l) u l
  have e1 := settleS_ok hr hv hd (by omega : (settle d (mu l) u l).2.length ≤ 10000)
  rw [e1]
  simp only [bne_same, Bool.false_or]
  by_cases hdue : t.2.2.2.2.2.1 ≤ d
  · rw [decide_eq_true hdue]; rfl
  rw [decide_eq_false hdue]
  simp only [beq_self_eq_true, cond_true, m10_eq, Option.bind_some, Bool.false_or]
  by_cases hrt : RightT S [t]
  case neg => rw [decide_eq_false hrt]; rfl
  rw [decide_eq_true hrt]
  simp only [Bool.not_true, cond_false]
  rw [wrapI (x := at') (by omega) (by omega), wrapI (x := (l.length : Int) + 1) (by omega) (by omega), tmod_pos _ ha0]
  have hk0 : 0 ≤ at' % ((l.length : Int) + 1) := Int.emod_nonneg _ (by omega)
  have hk1 : at' % ((l.length : Int) + 1) < (l.length : Int) + 1 := Int.emod_lt_of_pos _ (by omega)
  obtain ⟨k, hk⟩ := Int.eq_ofNat_of_zero_le hk0
  rw [hk] at hk1 ⊢
  have hkl : k ≤ l.length := by omega
  rw [asrtP (fun _ => bne_ne (by omega))]
  rw [subl_take, subl_drop]
  have htk : (l.take k).length = k := by rw [List.length_take]; omega
  rw [asrtP (fun _ => by simp only [bounds, Bool.and_eq_true, decide_eq_true_eq]; omega), asrtP (fun _ => limL (by omega)), asrtP (fun _ => limL (by simp only [List.length_singleton]; omega)),
    asrtP (fun _ => by simp only [bounds, Bool.and_eq_true, decide_eq_true_eq]; omega), asrtP (fun _ => limL (by simp only [List.length_append, List.length_singleton, List.length_drop]; omega))]
  have hins : (l.take k ++ [t]) ++ l.drop k = ins k t l := by unfold ins; simp
  rw [hins]
  have hr2 : RightT S (ins k t l) := ⟨hr.1, by rw [ins_len k t l hkl]; omega, fun x hx => by
    rcases ins_mem hx with rfl | hx
    · exact hrt.2.2 _ (by simp)
    · exact hr.2.2 x hx⟩
  obtain ⟨s1, s2⟩ := settle_ins (now := d) (t := t) (by omega) k (mu (ins k t l)) u l hkl
  have hfix := settle_fix hd.1 (mu (ins k t l)) u l (by rw [mu_ins]; omega)
  rw [hfix] at s1 s2
  have hlen2 : (settle d (mu (ins k t l)) u (ins k t l)).2.length ≤ 10000 := by
    rw [s1]
    simp only
    rw [ins_len k t _ s2]
    omega
  have e2 := settleS_ok hr2 hv hd hlen2
  rw [s1] at e2
  rw [e2]
  simp only [Option.bind_some, bne_same, Bool.false_or]
  generalize hM : settle d (mu l) u l = r at *
  obtain ⟨v, M⟩ := r
  simp only at *
  have hil := ins_len k t M s2
  rw [hil, wrapI (x := (M.length : Int) + 1) (by omega) (by omega)]
  rw [bifF (by rw [show (((M.length + 1 : Nat) : Int)) = (M.length : Int) + 1 by omega]; exact bne_same _)]
  have ew : IntKind.i64.wrap ((k : Int) + 1) = ((k + 1 : Nat) : Int) := by rw [wrapI (by omega) (by omega)]; omega
  rw [ew]
  have hsd : ∀ c : Nat, subl (ins k t M) (c : Int) ((M.length + 1 : Nat) : Int) = (ins k t M).drop c := fun c => by rw [← hil]; exact subl_drop _ c
  rw [subl_take, hsd]
  have htk2 : ((ins k t M).take k).length = k := by rw [List.length_take]; omega
  rw [asrtP (fun _ => by simp only [bounds, Bool.and_eq_true, decide_eq_true_eq]; omega), asrtP (fun _ => limL (by omega)),
    asrtP (fun _ => by simp only [bounds, Bool.and_eq_true, decide_eq_true_eq]; omega), asrtP (fun _ => limL (by simp only [List.length_drop]; omega))]
  have hvl : v.length = u.length := by have := settle_len1 (now := d) (mu l) u l; rw [hM] at this; exact this
  have hul := hv.2.1
  rw [m11_eq _ _ (by omega), decide_eq_true rfl, drop_ins k t M s2]
  have hgk : idx (ins k t M) (k : Int) = some t := by
    rw [idx_nat, ins_get k t M s2, if_neg (Nat.lt_irrefl k), if_pos rfl]
  simp only [Option.bind_some, Bool.and_self, beq_self_eq_true, idxG, cond_true, hgk, Bool.and_true]
  rw [m12_eq _ _ (by omega), decide_eq_true rfl]
  rfl

end Go.Proofs.Ytihcngohiffaeaa
