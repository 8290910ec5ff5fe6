/- TradeMoves: the plain law. -/
import Derived.Test.YtihcngohiffaeaaT6
namespace Go.Proofs.Ytihcngohiffaeaa
open Go Go.Eng
set_option linter.unusedVariables false
set_option linter.unusedSimpArgs false

/-- Has a trade settled now? -/
def nw (l0 : List T25) (now : Int) (i : Nat) (t : T25) : Bool := decide (t.2.2.2.2.2.2.1 = now) && (match l0[i]? with
  | some t0 => decide (t0.2.2.2.2.2.2.1 = -1)
  | none => true)

/-- What a trade brings to a seat and those below it. -/
def br (S : List T60) (s : Nat) (t : T25) : Int := (if below S t.2.2.1.toNat s = true then t.2.2.2.1 else 0) - (if below S t.2.1.toNat s = true then t.2.2.2.1 else 0)

def cg (S : List T60) (l0 : List T25) (now : Int) (s : Nat) (l : List T25) (i : Nat) : Int := match l[i]? with
  | some t => if nw l0 now i t = true then br S s t else 0
  | none => 0

theorem br_b {S : List T60} {s : Nat} {t : T25} (h1 : 1 ≤ t.2.2.2.1) (h2 : t.2.2.2.1 ≤ 1000000000) : -1000000000 ≤ br S s t ∧ br S s t ≤ 1000000000 := by
  unfold br
  split <;> split <;> omega

theorem cg_b {S : List T60} {l0 l : List T25} {now : Int} {s : Nat} (h : ∀ t ∈ l, OneP S t) (i : Nat) : -1000000000 ≤ cg S l0 now s l i ∧ cg S l0 now s l i ≤ 1000000000 := by
  unfold cg
  split
  · rename_i t ht
    have ho := h t (List.mem_of_getElem? ht)
    split
    · exact br_b ho.2.2.1.2.1 ho.2.2.1.2.2
    · omega
  · omega

theorem sum_b {f : Nat → Int} {B : Int} (h : ∀ i, -B ≤ f i ∧ f i ≤ B) (hB : 0 ≤ B) : ∀ n : Nat, -(n * B) ≤ sumN f n ∧ sumN f n ≤ n * B
  | 0 => by simp [sumN]
  | n + 1 => by
    have := sum_b h hB n
    have h1 := h n
    simp only [sumN]
    have e : ((n + 1 : Nat) : Int) * B = n * B + B := by
      rw [Int.natCast_add, Int.add_mul]; simp
    omega

theorem cg_sum {S : List T60} {l0 l : List T25} {now : Int} {s : Nat} (h : ∀ t ∈ l, OneP S t) (hl : l.length ≤ 10000) (j : Nat) (hj : j ≤ l.length) :
    -10000000000000 ≤ sumN (cg S l0 now s l) j ∧ sumN (cg S l0 now s l) j ≤ 10000000000000 := by
  have := sum_b (cg_b (l0 := l0) (now := now) (s := s) h) (by omega) j
  omega

theorem l6_1_eq {R : Type} {S : List T60} (hr : Right S) {l0 l : List T25} {now : Int} (hone : ∀ t ∈ l, OneP S t) (hl : l.length ≤ 10000) (s : Nat) (hs : s < S.length) (k : Int → Option R) : ∀ (d n j : Nat), j + d = l.length → d < n →
    l6_1 S l0 now l s k n (sumN (cg S l0 now s l) j) j = k (sumN (cg S l0 now s l) l.length) := by
  intro d
  induction d with
  | zero =>
    intro n j hj hn
    obtain ⟨n, rfl⟩ : ∃ m, n = m + 1 := ⟨n - 1, by omega⟩
    have : j = l.length := by omega
    subst this
    show s6_1 S l0 now l s (l6_1 S l0 now l s k n) k _ _ = _
    unfold s6_1
    rw [bifF (decide_eq_false (by omega))]
  | succ d ih =>
    intro n j hj hn
    obtain ⟨n, rfl⟩ : ∃ m, n = m + 1 := ⟨n - 1, by omega⟩
    have hlt : j < l.length := by omega
    have ho := hone l[j] (List.getElem_mem hlt)
    obtain ⟨⟨⟨f0, f1⟩, _⟩, ⟨⟨g0, g1⟩, _⟩, ⟨_, u1, u2⟩, _⟩ := ho
    obtain ⟨p1, p2⟩ := cg_sum (l0 := l0) (now := now) (s := s) hone hl j (by omega)
    have hS : sumN (cg S l0 now s l) (j + 1) = sumN (cg S l0 now s l) j + cg S l0 now s l j := rfl
    have hcg : cg S l0 now s l j = if nw l0 now j l[j] = true then br S s l[j] else 0 := by
      unfold cg
      rw [List.getElem?_eq_getElem hlt]
    rw [← ih n (j + 1) (by omega) (by omega)]
    show s6_1 S l0 now l s (l6_1 S l0 now l s k n) k _ _ = _
    unfold s6_1
    rw [bifT (decide_eq_true (by omega))]
    have enx : IntKind.i64.wrap ((j : Int) + 1) = ((j + 1 : Nat) : Int) := by rw [wrapI (by omega) (by omega)]; rfl
    have hself : ∀ i : Nat, i < S.length → below S i i = true := fun i hi => by
      rw [below_eq (hr.up' hi)]
      simp
    have mT : m20 S l[j].2.2.1 s = some (below S l[j].2.2.1.toNat s) := by
      have := m20_eq S hr l[j].2.2.1.toNat s (by omega)
      rwa [Int.toNat_of_nonneg g0] at this
    have mF : m20 S l[j].2.1 s = some (below S l[j].2.1.toNat s) := by
      have := m20_eq S hr l[j].2.1.toNat s (by omega)
      rwa [Int.toNat_of_nonneg f0] at this
    have oT : (below S l[j].2.2.1.toNat s || (l[j].2.2.1 == (s : Int))) = below S l[j].2.2.1.toNat s := by
      cases hb : below S l[j].2.2.1.toNat s with
      | true => rfl
      | false =>
        have : l[j].2.2.1 ≠ s := fun e => by
          rw [e, Int.toNat_natCast, hself s hs] at hb; cases hb
        simpa using this
    have oF : (below S l[j].2.1.toNat s || (l[j].2.1 == (s : Int))) = below S l[j].2.1.toNat s := by
      cases hb : below S l[j].2.1.toNat s with
      | true => rfl
      | false =>
        have : l[j].2.1 ≠ s := fun e => by
          rw [e, Int.toNat_natCast, hself s hs] at hb; cases hb
        simpa using this
    have gx : ∀ b : Bool, ∃ x, idxG b (0, 0, 0, 0, 0, 0, 0, 0, ()) l (j : Int) = some x ∧ (b = true → x = l[j]) := by
      intro b
      cases b with
      | false => exact ⟨_, rfl, fun h => by cases h⟩
      | true => exact ⟨l[j], by simp only [idxG, cond_true, idx_nat]; exact List.getElem?_eq_getElem hlt, fun _ => rfl⟩
    simp only [cont, idx_nat, List.getElem?_eq_getElem hlt, Option.bind_some, mT, mF]
    -- has it settled now?
    have hnw : ∃ x7, idxG (((l[j].2.2.2.2.2.2.1 != now) == false) && ((decide ((j : Int) < (List.length l0 : Int))) == true)) (0, 0, 0, 0, 0, 0, 0, 0, ()) l0 (j : Int) = some x7 ∧
        ((l[j].2.2.2.2.2.2.1 != now) || ((decide ((j : Int) < (List.length l0 : Int))) && (x7.2.2.2.2.2.2.1 != (-1)))) = !(nw l0 now j l[j]) := by
      unfold nw
      by_cases h1 : l[j].2.2.2.2.2.2.1 = now
      case neg =>
        have e1 : (l[j].2.2.2.2.2.2.1 != now) = true := by simpa using h1
        rw [e1, decide_eq_false h1]
        exact ⟨_, rfl, rfl⟩
      have e1 : (l[j].2.2.2.2.2.2.1 != now) = false := by simpa using h1
      rw [e1, decide_eq_true h1]
      by_cases h2 : j < l0.length
      · rw [decide_eq_true (show (j : Int) < (List.length l0 : Int) by omega), List.getElem?_eq_getElem h2]
        refine ⟨l0[j], by simp only [beq_self_eq_true, Bool.and_self, idxG, cond_true, idx_nat]; exact List.getElem?_eq_getElem h2, ?_⟩
        simp only [Bool.false_or, Bool.true_and]
        by_cases h3 : l0[j].2.2.2.2.2.2.1 = -1
        · rw [decide_eq_true h3, h3]; rfl
        · rw [decide_eq_false h3, bne_ne h3]; rfl
      · rw [decide_eq_false (show ¬ (j : Int) < (List.length l0 : Int) by omega), List.getElem?_eq_none (show l0.length ≤ j by omega)]
        exact ⟨_, rfl, rfl⟩
    obtain ⟨x7, e7, e7'⟩ := hnw
    rw [e7]
    simp only [Option.bind_some, e7']
    cases hn' : nw l0 now j l[j] with
    | false =>
      rw [hn'] at hcg
      rw [hS, hcg]
      simp only [Bool.not_false, cond_true, enx, Bool.false_eq_true, if_false, Int.add_zero]
    | true =>
      rw [hn'] at hcg
      simp only [if_true] at hcg
      rw [hS, hcg]
      simp only [Bool.not_true, cond_false]
      obtain ⟨x10, g10, g10'⟩ := gx (below S l[j].2.2.1.toNat s == false)
      obtain ⟨x15, g15, g15'⟩ := gx (below S l[j].2.1.toNat s == false)
      rw [g10]
      simp only [Option.bind_some, g15]
      have o10 : (below S l[j].2.2.1.toNat s || (x10.2.2.1 == (s : Int))) = below S l[j].2.2.1.toNat s := by
        cases hb : below S l[j].2.2.1.toNat s with
        | true => rfl
        | false =>
          rw [hb] at g10' oT
          rw [g10' rfl]; exact oT
      have o15 : (below S l[j].2.1.toNat s || (x15.2.1 == (s : Int))) = below S l[j].2.1.toNat s := by
        cases hb : below S l[j].2.1.toNat s with
        | true => rfl
        | false =>
          rw [hb] at g15' oF
          rw [g15' rfl]; exact oF
      rw [o10, o15]
      unfold br
      cases below S l[j].2.2.1.toNat s <;> cases below S l[j].2.1.toNat s
      · simp only [cond_false, enx, Bool.false_eq_true, if_false, Int.sub_zero, Int.add_zero]
      · simp only [cond_false, cond_true, enx, Bool.false_eq_true, if_false, if_true]
        rw [wrapI (by omega) (by omega)]
        congr 1; omega
      · simp only [cond_false, cond_true, enx, Bool.false_eq_true, if_false, if_true]
        rw [wrapI (by omega) (by omega)]
        congr 1; omega
      · simp only [cond_true, enx, if_true]
        rw [wrapI (x := sumN (cg S l0 now s l) j + l[j].2.2.2.1) (by omega) (by omega), wrapI (by omega) (by omega)]
        congr 1; omega

/-! ### What settling changes -/

structure Mv (S : List T60) (l0 : List T25) (now : Int) (u0 : List Int) (u : List Int) (l : List T25) : Prop where
  st : St1 S u l
  len : l0.length ≤ l.length
  open' : ∀ (i : Nat) (t t0 : T25), l[i]? = some t → t.2.2.2.2.2.2.1 = -1 → l0[i]? = some t0 → t0.2.2.2.2.2.2.1 = -1
  has : ∀ s, s < S.length → has S u s = has S u0 s + sumN (cg S l0 now s l) l.length
  sum : sumN (gI u) S.length = sumN (gI u0) S.length

theorem Mv.step {S : List T60} {l0 : List T25} {now : Int} {u0 u : List Int} {l : List T25} (h : Mv S l0 now u0 u l) (hn : Day now) {i : Nat} (hi : i < l.length) (hc : Can u now l[i]) : Mv S l0 now u0 (stepU u l[i]) (stepL now l i l[i]) := by
  have ht := h.st.one l[i] (List.getElem_mem hi)
  obtain ⟨⟨⟨f0, f1⟩, lf⟩, ⟨⟨g0, g1⟩, lg⟩, ⟨hne, u1, u2⟩, hd, hk⟩ := id ht
  have hul := h.st.val.2.1
  have hget : ∀ j, (stepL now l i l[i])[j]? = if j < l.length then (if i = j then some (setD now l[i]) else l[j]?) else (if l[i].1 = 1 then [backT now l[i]] else [])[j - l.length]? := by
    intro j
    unfold stepL
    rw [List.getElem?_append, List.length_set, List.getElem?_set]
    split
    · split <;> rfl
    · rfl
  have hll : l.length ≤ (stepL now l i l[i]).length ∧ (stepL now l i l[i]).length ≤ l.length + 1 := by
    unfold stepL
    rw [List.length_append, List.length_set]
    split <;> simp
  have hn0 := hn.1
  refine ⟨h.st.step hn hi hc, by have := h.len; omega, ?_, ?_, ?_⟩
  · intro j t t0 hj hdn h0
    rw [hget j] at hj
    have hjl : j < l0.length := (List.getElem?_eq_some_iff.1 h0).1
    have := h.len
    rw [if_pos (by omega)] at hj
    split at hj
    · have := Option.some.inj hj
      subst this
      simp only [setD] at hdn
      omega
    · exact h.open' j t t0 hj hdn h0
  · intro s hs
    have hnew : nw l0 now i (setD now l[i]) = true := by
      unfold nw
      rw [decide_eq_true (show (setD now l[i]).2.2.2.2.2.2.1 = now from rfl)]
      cases h0 : l0[i]? with
      | none => rfl
      | some t0 =>
        have := h.open' i l[i] t0 (List.getElem?_eq_getElem hi) hc.1 h0
        simp only [this, decide_true, Bool.and_self]
    have hold : cg S l0 now s l i = 0 := by
      unfold cg
      rw [List.getElem?_eq_getElem hi]
      simp only
      rw [if_neg]
      unfold nw
      rw [decide_eq_false (by rw [hc.1]; omega)]
      simp
    have hcgi : cg S l0 now s (stepL now l i l[i]) i = br S s l[i] := by
      unfold cg
      rw [hget i, if_pos hi, if_pos rfl]
      simp only [hnew, if_true]
      rfl
    have hcgj : ∀ j, j < l.length → cg S l0 now s (stepL now l i l[i]) j = cg S l0 now s l j + (if j = i then br S s l[i] else 0) := by
      intro j hj
      by_cases hji : j = i
      · subst hji
        rw [hcgi, hold, if_pos rfl]; omega
      · rw [if_neg hji, Int.add_zero]
        unfold cg
        rw [hget j, if_pos hj, if_neg (fun e => hji e.symm)]
    have hsum : sumN (cg S l0 now s (stepL now l i l[i])) l.length = sumN (cg S l0 now s l) l.length + br S s l[i] := by
      rw [sumN_congr (n := l.length) hcgj, sumN_add, sumN_one (f := fun j => if j = i then br S s l[i] else 0) hi (fun j _ hj => if_neg hj), if_pos rfl]
    have hlast : sumN (cg S l0 now s (stepL now l i l[i])) (stepL now l i l[i]).length = sumN (cg S l0 now s (stepL now l i l[i])) l.length := by
      rcases (show (stepL now l i l[i]).length = l.length ∨ (stepL now l i l[i]).length = l.length + 1 by omega) with e | e
      · rw [e]
      · rw [e]
        show sumN _ l.length + cg S l0 now s (stepL now l i l[i]) l.length = _
        have : cg S l0 now s (stepL now l i l[i]) l.length = 0 := by
          unfold cg
          rw [hget l.length, if_neg (Nat.lt_irrefl _), Nat.sub_self]
          split
          · rename_i t ht'
            split at ht'
            · have := Option.some.inj ht'
              subst this
              rw [if_neg]
              unfold nw
              rw [decide_eq_false (by simp only [backT]; omega)]
              simp
            · cases ht'
          · rfl
        rw [this]; omega
    rw [hlast, hsum]
    unfold stepU
    rw [has_mv hul (by omega) (by omega) s, h.has s hs]
    unfold br
    omega
  · unfold stepU
    rw [sum_mv (by omega) (by omega) hul]
    exact h.sum

theorem settle_mv {S : List T60} {l0 : List T25} {now : Int} (hn : Day now) {u0 : List Int} : ∀ (n : Nat) (u : List Int) (l : List T25), Mv S l0 now u0 u l → Mv S l0 now u0 (settle now n u l).1 (settle now n u l).2
  | 0, u, l, h => h
  | n + 1, u, l, h => by
    rcases fst1_spec (u := u) (now := now) (l := l) with ⟨_, h2⟩ | ⟨i, hi, _, hc, hb⟩
    · rw [settle_none h2]; exact h
    · rw [settle_some hi hc hb]
      exact settle_mv hn n _ _ (h.step hn hi hc)

/-- In the end nothing can settle. -/
theorem settle_nf {now : Int} (hn : 0 ≤ now) : ∀ (n : Nat) (u : List Int) (l : List T25), mu l ≤ n → ∀ t ∈ (settle now n u l).2, ¬ Can (settle now n u l).1 now t
  | 0, u, l, h => by
    show ∀ t ∈ l, ¬ Can u now t
    intro t ht hc
    obtain ⟨i, hi, rfl⟩ := List.getElem_of_mem ht
    have h1 := wt_le_mu hi
    have h2 := wt_pos hc.1
    omega
  | n + 1, u, l, h => by
    rcases fst1_spec (u := u) (now := now) (l := l) with ⟨_, h2⟩ | ⟨i, hi, _, hc, hb⟩
    · rw [settle_none h2]; exact h2
    · have hm := mu_step (now := now) hi hc.1 hn
      rw [settle_some hi hc hb]
      exact settle_nf hn n _ _ (by omega)

theorem mv_zero {S : List T60} {u : List Int} {l : List T25} (h : St1 S u l) {now : Int} (hn : 0 ≤ now) : Mv S l now u u l := by
  refine ⟨h, Nat.le_refl _, fun i t t0 h1 h2 h3 => ?_, fun s hs => ?_, rfl⟩
  · rw [h1] at h3
    cases h3
    exact h2
  · have : sumN (cg S l now s l) l.length = 0 := sumN_none fun i hi => by
      unfold cg
      rw [List.getElem?_eq_getElem hi]
      simp only
      rw [if_neg]
      unfold nw
      rw [List.getElem?_eq_getElem hi]
      simp only [Bool.and_eq_true, decide_eq_true_eq]
      omega
    omega

theorem l6_2_eq {R : Type} {S : List T60} (hS : S.length ≤ 10) {l0 l : List T25} {now : Int} {u0 u : List Int} (hv : Valid S u0) (h : Mv S l0 now u0 u l) (hl : l.length ≤ 10000) (k1 : Int → Int → Option R) (k2 : Option R) : ∀ (d n j : Nat), j + d = S.length → d < n →
    l6_2 S u0 l0 now u l k1 k2 n (sumN (gI u0) j) (sumN (gI u) j) j = k1 (sumN (gI u0) S.length) (sumN (gI u) S.length) := by
  intro d
  have hul := h.st.val.2.1
  have hul0 := hv.2.1
  induction d with
  | zero =>
    intro n j hj hn
    obtain ⟨n, rfl⟩ : ∃ m, n = m + 1 := ⟨n - 1, by omega⟩
    have : j = S.length := by omega
    subst this
    show s6_2 S u0 l0 now u l (l6_2 S u0 l0 now u l k1 k2 n) k1 k2 _ _ _ = _
    unfold s6_2
    rw [bifF (decide_eq_false (by omega))]
  | succ d ih =>
    intro n j hj hn
    obtain ⟨n, rfl⟩ : ∃ m, n = m + 1 := ⟨n - 1, by omega⟩
    have hlt : j < S.length := by omega
    rw [← ih n (j + 1) (by omega) (by omega)]
    show s6_2 S u0 l0 now u l (l6_2 S u0 l0 now u l k1 k2 n) k1 k2 _ _ _ = _
    unfold s6_2
    rw [bifT (decide_eq_true (by omega)), idx_nat, idx_nat, gI_get (show j < u0.length by omega), gI_get (show j < u.length by omega)]
    simp only [Option.bind_some]
    have := l6_1_eq (l0 := l0) (now := now) h.st.val.1 h.st.one hl j hlt (fun y18 =>
        (m21 S u j).bind fun r19 =>
        (m21 S u0 j).bind fun r20 =>
        bif ((IntKind.i64.wrap (r19 - r20)) != y18) then
          k2
        else
          l6_2 S u0 l0 now u l k1 k2 n (IntKind.i64.wrap (sumN (gI u0) j + gI u0 j)) (IntKind.i64.wrap (sumN (gI u) j + gI u j)) (IntKind.i64.wrap ((j : Int) + 1))) l.length FUEL 0 (by omega) (fuel_lt (by omega))
    refine Eq.trans this ?_
    have i1 : In S (j : Int) := ⟨by omega, by omega⟩
    have e1 : heldS S u (j : Int) = has S u j := by unfold heldS; rw [if_pos ⟨h.st.val, i1⟩, Int.toNat_natCast]
    have e2 : heldS S u0 (j : Int) = has S u0 j := by unfold heldS; rw [if_pos ⟨hv, i1⟩, Int.toNat_natCast]
    simp only [m21_eq, Option.bind_some, e1, e2]
    have b1 := has_b h.st.val j
    have b2 := has_b hv j
    have hh := h.has j hlt
    rw [wrapI (x := has S u j - has S u0 j) (by omega) (by omega), bifF (by rw [show has S u j - has S u0 j = sumN (cg S l0 now j l) l.length by omega]; exact bne_same _)]
    have n1 := hv.nn hlt
    have n2 := h.st.val.nn hlt
    have q1 : ∀ {w : List Int}, Valid S w → 0 ≤ sumN (gI w) j ∧ sumN (gI w) j ≤ 10000000000 := by
      intro w hw
      have hle : sumN (gI w) j ≤ sumN (fun _ => 1000000000) j := sumN_le fun i hi => (hw.nn (show i < S.length by omega)).2
      have hc : ∀ m : Nat, sumN (fun _ => 1000000000) m = m * 1000000000 := by
        intro m
        induction m with
        | zero => rfl
        | succ m ih => simp only [sumN, ih]; omega
      rw [hc] at hle
      exact ⟨sumN_nonneg fun i hi => (hw.nn (show i < S.length by omega)).1, by omega⟩
    obtain ⟨q1a, q1b⟩ := q1 hv
    obtain ⟨q2a, q2b⟩ := q1 h.st.val
    rw [wrapI (x := sumN (gI u0) j + gI u0 j) (by omega) (by omega), wrapI (x := sumN (gI u) j + gI u j) (by omega) (by omega), wrapI (x := (j : Int) + 1) (by omega) (by omega)]
    rfl

theorem l6_3_eq {R : Type} {S : List T60} {l : List T25} {now : Int} {u : List Int} (h : St1 S u l) (hnf : ∀ t ∈ l, ¬ Can u now t) (o : List Int) (ho : ∀ x ∈ o, ∃ (i : Nat) (hi : i < l.length), x = i ∧ l[i].2.2.2.2.2.2.1 = -1 ∧ l[i].2.2.2.2.2.1 ≤ now) (hol : o.length ≤ 100000) (k1 k2 : Option R) : ∀ (d n j : Nat), j + d = o.length → d < n →
    l6_3 now u l o k1 k2 n j = k1 := by
  intro d
  have hul := h.val.2.1
  induction d with
  | zero =>
    intro n j hj hn
    obtain ⟨n, rfl⟩ : ∃ m, n = m + 1 := ⟨n - 1, by omega⟩
    show s6_3 now u l o (l6_3 now u l o k1 k2 n) k1 k2 _ = _
    unfold s6_3
    rw [bifF (decide_eq_false (by omega))]
  | succ d ih =>
    intro n j hj hn
    obtain ⟨n, rfl⟩ : ∃ m, n = m + 1 := ⟨n - 1, by omega⟩
    have hlt : j < o.length := by omega
    obtain ⟨i, hi, hx, hd, hdue⟩ := ho o[j] (List.getElem_mem hlt)
    have ht := h.one l[i] (List.getElem_mem hi)
    obtain ⟨⟨⟨f0, f1⟩, _⟩, _⟩ := ht
    have hfl : l[i].2.1.toNat < u.length := by omega
    show s6_3 now u l o (l6_3 now u l o k1 k2 n) k1 k2 _ = _
    unfold s6_3
    rw [bifT (decide_eq_true (by omega)), idx_nat, List.getElem?_eq_getElem hlt, hx]
    simp only [Option.bind_some]
    rw [decide_eq_false (show ¬ (i : Int) < 0 by omega)]
    simp only [beq_self_eq_true, idxG, cond_true, idx_nat, List.getElem?_eq_getElem hlt, hx, Option.bind_some, Bool.false_or]
    rw [bifF (decide_eq_false (by omega)), List.getElem?_eq_getElem hi]
    simp only [Option.bind_some]
    rw [decide_eq_false (show ¬ l[i].2.1 < 0 by omega), decide_eq_false (show ¬ l[i].2.1 ≥ (List.length u : Int) by omega)]
    simp only [Bool.or_self, beq_self_eq_true, cond_true, Bool.false_or]
    rw [idx_pos f0, gI_get hfl]
    simp only [Option.bind_some]
    have hlow : gI u l[i].2.1.toNat < l[i].2.2.2.1 := by
      by_cases q : gI u l[i].2.1.toNat < l[i].2.2.2.1
      · exact q
      · exact absurd ⟨hd, hdue, by omega⟩ (hnf l[i] (List.getElem_mem hi))
    rw [decide_eq_false (show ¬ gI u l[i].2.1.toNat ≥ l[i].2.2.2.1 by omega), hd, decide_eq_false (show ¬ l[i].2.2.2.2.2.1 > now by omega)]
    simp only [bne_same, Bool.or_self, cond_false]
    rw [wrapI (x := (j : Int) + 1) (by omega) (by omega)]
    exact ih n (j + 1) (by omega) (by omega)

theorem tradeMoves (S : List T60) (u : List Int) (l : List T25) (d : Int) : m6 S u l d = some true := by
  unfold m6
  rw [small7, few8]
  simp only [Option.bind_some]
  by_cases hf : S.length ≤ 10 ∧ u.length ≤ 10 ∧ l.length ≤ 12
  case neg => rw [decide_eq_false hf]; rfl
  rw [decide_eq_true hf]
  have hS : S.length ≤ 20000 := by omega
  simp only [Bool.not_true, cond_false, m9_eq, Option.bind_some]
  by_cases hok : RightT S l ∧ Valid S u ∧ Day d
  case neg =>
    have : settleS S u l d = ([], [], 1, ()) := by unfold settleS; rw [if_neg hok]
    rw [this]
    rfl
  obtain ⟨hr, hv, hd⟩ := hok
  have hmu := mu_le l
  have hlen := settle_len (now := d) (mu l) u l
  have e1 := settleS_ok hr hv hd (by omega : (settle d (mu l) u l).2.length ≤ 10000)
  rw [e1]
  have hmv := settle_mv hd (mu l) u l (mv_zero ⟨hv, hr.2.2⟩ hd.1)
  have hnf := settle_nf hd.1 (mu l) u l (Nat.le_refl _)
  generalize hM : settle d (mu l) u l = r at *
  obtain ⟨v, M⟩ := r
  simp only at *
  have hvl := hmv.st.val.2.1
  have hll := hmv.len
  simp only [bne_same, cond_false]
  rw [bifF (by
    rw [decide_eq_false (show ¬ (List.length M : Int) < (List.length l : Int) by omega), hvl]
    simp)]
  have h2 := l6_2_eq (by omega) hv hmv (by omega) (fun y21 y22 =>
            (m17 M d).bind fun r23 =>
            l6_3 d v M r23 (
                (bif ((true && (y21 == y22)) == true) then (m19 S v) else some false).bind fun r29 =>
                (bif (((true && (y21 == y22)) && r29) == true) then (m10 S M) else some false).bind fun r30 =>
                some (((true && (y21 == y22)) && r29) && r30)) (
                some false) FUEL 0) (some false) S.length FUEL 0 (by omega) (fuel_lt (by omega))
  refine Eq.trans h2 ?_
  rw [m17_eq M (by omega)]
  simp only [Option.bind_some]
  have h3 := l6_3_eq hmv.st hnf (opN M d M.length) (fun x hx => by
    obtain ⟨i, hi, _, r⟩ := opN_mem hx
    exact ⟨i, hi, r⟩) (by have := opN_len M d M.length; omega) (
                (bif ((true && (sumN (gI u) S.length == sumN (gI v) S.length)) == true) then (m19 S v) else some false).bind fun r29 =>
                (bif (((true && (sumN (gI u) S.length == sumN (gI v) S.length)) && r29) == true) then (m10 S M) else some false).bind fun r30 =>
                some (((true && (sumN (gI u) S.length == sumN (gI v) S.length)) && r29) && r30)) (some false) (opN M d M.length).length FUEL 0 (by omega) (fuel_lt (by have := opN_len M d M.length; omega))
  refine Eq.trans h3 ?_
  rw [hmv.sum, m19_eq S v hS, decide_eq_true hmv.st.val, m10_eq, decide_eq_true (show RightT S M from ⟨hr.1, by omega, hmv.st.one⟩)]
  simp

end Go.Proofs.Ytihcngohiffaeaa
