/- Entitle: EntitleSettles. -/
import Derived.Test.YtjoehgmdkeigiaaT9
namespace Go.Proofs.Ytjoehgmdkeigiaa
open Go Go.Eng
set_option linter.unusedVariables false
set_option linter.unusedSimpArgs false

theorem sum_set {f : T45 → Int} : ∀ {l : List T45} {i : Nat} (hi : i < l.length) (x : T45), ((l.set i x).map f).sum + f l[i] = (l.map f).sum + f x
  | [], i, hi, x => by simp at hi
  | t :: l, 0, hi, x => by simp; omega
  | t :: l, i + 1, hi, x => by
    have := sum_set (f := f) (l := l) (i := i) (by simpa using hi) x
    simp only [List.set_cons_succ, List.map_cons, List.sum_cons, List.getElem_cons_succ]
    omega

theorem step_one {S : List T36} {u : List Int} {t : T45} {now : Int} (hul : u.length = S.length) (h : OneP S t) (hn : Day now) (hc : Can u now t) (s : Nat) :
    gI (stepU u t) s + (ds now s (setD now t) + ((if t.1 = 1 then [backT now t] else []).map (ds now s)).sum) = gI u s + ds now s t := by
  obtain ⟨⟨⟨a0, a1⟩, _⟩, ⟨⟨b0, b1⟩, _⟩, ⟨hne, u1, u2⟩, ⟨d1, d2, d3, d4⟩, hk⟩ := h
  obtain ⟨c1, c2, c3⟩ := hc
  obtain ⟨n0, n1⟩ := hn
  unfold stepU
  rw [mvU_get (by omega) (by omega)]
  have e1 : (s = t.2.1.toNat) ↔ (t.2.1 = (s : Int)) := by omega
  have e2 : (s = t.2.2.1.toNat) ↔ (t.2.2.1 = (s : Int)) := by omega
  simp only [e1, e2]
  rcases hk with ⟨k0, kb⟩ | ⟨k1, kd, kb⟩
  · rw [if_neg (show ¬ t.1 = 1 by omega)]
    have p1 : psd now t = - t.2.2.2.1 := by unfold psd; rw [if_pos ⟨k0, c2, by omega⟩]
    have p2 : psd now (setD now t) = 0 := by
      unfold psd setD
      simp only []
      rw [if_neg (by omega), if_neg (by omega)]
    unfold ds
    rw [p1, p2]
    simp only [setD, List.map_nil, List.sum_nil]
    split <;> split <;> omega
  · rw [if_pos k1]
    have p1 : psd now t = 0 := by unfold psd; rw [if_neg (by omega), if_neg (by omega)]
    have hd : ∀ (z : Int) (x : T45), psd now x = z → ds now s x = (if x.2.1 = (s : Int) then z else 0) - (if x.2.2.1 = (s : Int) then z else 0) := by
      intro z x hz; unfold ds; rw [hz]
    rw [hd 0 t p1]
    simp only [List.map_cons, List.map_nil, List.sum_cons, List.sum_nil]
    by_cases hb : now < t.2.2.2.2.2.2.2.1
    · have p2 : psd now (setD now t) = t.2.2.2.1 := by
        unfold psd setD
        simp only []
        rw [if_neg (by omega), if_pos ⟨k1, by omega, hb⟩]
      have p3 : psd now (backT now t) = 0 := by
        unfold psd backT
        simp only []
        rw [if_neg (by omega), if_neg (by omega)]
      rw [hd _ _ p2, hd _ _ p3]
      simp only [setD, backT]
      split <;> split <;> omega
    · have p2 : psd now (setD now t) = 0 := by
        unfold psd setD
        simp only []
        rw [if_neg (by omega), if_neg (by omega)]
      have p3 : psd now (backT now t) = - t.2.2.2.1 := by
        unfold psd backT
        simp only []
        rw [if_pos ⟨trivial, by omega, by omega⟩]
      rw [hd _ _ p2, hd _ _ p3]
      simp only [setD, backT]
      split <;> split <;> omega

theorem pay_step {S : List T36} {u : List Int} {l : List T45} {now : Int} (h : St1 S u l) (hn : Day now) {i : Nat} (hi : i < l.length) (hc : Can u now l[i]) (s : Nat) :
    gI (payS now (stepU u l[i]) (stepL now l i l[i])) s = gI (payS now u l) s := by
  have h2 := h.step hn hi hc
  rw [payS_get now s h2.val.2.1 h2.one, payS_get now s h.val.2.1 h.one]
  have e := step_one h.val.2.1 (h.one l[i] (List.getElem_mem hi)) hn hc s
  have e2 := sum_set (f := ds now s) hi (setD now l[i])
  unfold stepL
  rw [List.map_append, List.sum_append]
  omega

theorem pay_settle {S : List T36} {now : Int} (hn : Day now) (s : Nat) : ∀ (n : Nat) (u : List Int) (l : List T45), St1 S u l → gI (payS now (settle now n u l).1 (settle now n u l).2) s = gI (payS now u l) s
  | 0, u, l, h => rfl
  | n + 1, u, l, h => by
    rcases fst1_spec (u := u) (now := now) (l := l) with ⟨_, h2⟩ | ⟨i, hi, _, hc, hb⟩
    · rw [settle_none h2]
    · rw [settle_some hi hc hb, pay_settle hn s n _ _ (h.step hn hi hc), pay_step h hn hi hc]

/-- No trade is late and no loan runs. -/
def Plain (d : Int) (l : List T45) : Prop := ∀ t ∈ l, psd d t = 0

theorem l7_1_eq {R : Type} {S : List T36} {l : List T45} (ho : ∀ t ∈ l, OneP S t) (hl : l.length ≤ 12) (d : Int) (k : Bool → Option R) : ∀ (m n j : Nat) (b : Bool), j + m = l.length → m < n → (b = true ↔ Plain d (l.take j)) →
    ∃ y, l7_1 l d k n b j = k y ∧ (y = true ↔ Plain d l) := by
  intro m
  induction m with
  | zero =>
    intro n j b hj hn hb
    obtain ⟨n, rfl⟩ : ∃ m, n = m + 1 := ⟨n - 1, by omega⟩
    unfold l7_1 s7_1
    rw [bifF (decide_eq_false (by omega))]
    refine ⟨b, rfl, ?_⟩
    rwa [List.take_of_length_le (by omega)] at hb
  | succ m ih =>
    intro n j b hj hn hb
    obtain ⟨n, rfl⟩ : ∃ m, n = m + 1 := ⟨n - 1, by omega⟩
    have hlt : j < l.length := by omega
    have h1 := ho l[j] (List.getElem_mem hlt)
    have hu := h1.2.2.1
    have ig : ∀ g : Bool, idxG g (0, 0, 0, 0, 0, 0, 0, 0, ()) l (j : Int) = some (bif g then l[j] else (0, 0, 0, 0, 0, 0, 0, 0, ())) := by
      intro g
      unfold idxG
      rw [idx_nat, List.getElem?_eq_getElem hlt]
      cases g <;> rfl
    unfold l7_1 s7_1
    rw [bifT (decide_eq_true (by omega))]
    simp only [ig, Option.bind_some]
    rw [wrapI (x := (j : Int) + 1) (by omega) (by omega)]
    have hpl : Plain d (l.take (j + 1)) ↔ Plain d (l.take j) ∧ psd d l[j] = 0 := by
      unfold Plain
      rw [List.take_succ_eq_append_getElem hlt]
      constructor
      · intro h; exact ⟨fun t ht => h t (List.mem_append_left _ ht), h _ (List.mem_append_right _ (by simp))⟩
      · rintro ⟨h, h2⟩ t ht
        rcases List.mem_append.1 ht with ht | ht
        · exact h t ht
        · rw [List.mem_singleton.1 ht]; exact h2
    have hps : psd d l[j] = 0 ↔ ¬ (l[j].1 = 0 ∧ l[j].2.2.2.2.2.1 ≤ d ∧ ¬ (0 ≤ l[j].2.2.2.2.2.2.1 ∧ l[j].2.2.2.2.2.2.1 ≤ d)) ∧ ¬ (l[j].1 = 1 ∧ (0 ≤ l[j].2.2.2.2.2.2.1 ∧ l[j].2.2.2.2.2.2.1 ≤ d) ∧ d < l[j].2.2.2.2.2.2.2.1) := by
      unfold psd
      split
      · rename_i hh; constructor
        · intro; omega
        · intro h; exact absurd hh h.1
      · rename_i hh; split
        · rename_i h2; constructor
          · intro; omega
          · intro h; exact absurd h2 h.2
        · rename_i h2; exact ⟨fun _ => ⟨hh, h2⟩, fun _ => rfl⟩
    cases b with
    | false =>
      simp only [show ((false : Bool) == true) = false from rfl, cond_false, Bool.false_and, Option.bind_some]
      exact ih n (j + 1) false (by omega) (by omega) ⟨fun h => (by cases h), fun h => absurd (hb.2 (hpl.1 h).1) (by simp)⟩
    | true =>
      simp only [beq_self_eq_true, cond_true, m23_eq h1, Option.bind_some, Bool.true_and]
      have hb' := hb.1 rfl
      by_cases c1 : l[j].1 = 0 ∧ l[j].2.2.2.2.2.1 ≤ d ∧ ¬ (0 ≤ l[j].2.2.2.2.2.2.1 ∧ l[j].2.2.2.2.2.2.1 ≤ d)
      · rw [decide_eq_true c1]
        simp only [Bool.not_true, show ((false : Bool) == true) = false from rfl, cond_false, Bool.false_and, Option.bind_some]
        exact ih n (j + 1) false (by omega) (by omega) ⟨fun h => (by cases h), fun h => absurd c1 (hps.1 (hpl.1 h).2).1⟩
      · rw [decide_eq_false c1]
        simp only [Bool.not_false, beq_self_eq_true, cond_true, m24_eq, Option.bind_some, Bool.true_and]
        refine ih n (j + 1) _ (by omega) (by omega) ?_
        rw [hpl, hps]
        simp only [Bool.not_eq_true', decide_eq_false_iff_not]
        exact ⟨fun h => ⟨hb', c1, h⟩, fun h => h.2.2⟩

theorem l7_2_eq {R : Type} {S : List T36} {u : List Int} (hv : Valid S u) (k1 : Int → Option R) (k2 : Option R) : ∀ (m n j : Nat), j + m = S.length → m < n →
    l7_2 u (sh (gI u) S.length) k1 k2 n ((sh (gI u) j).length : Int) j = k1 ((sh (gI u) S.length).length : Int) := by
  intro m
  have hL := hv.1.1
  have hul := hv.2.1
  induction m with
  | zero =>
    intro n j hj hn
    obtain ⟨n, rfl⟩ : ∃ m, n = m + 1 := ⟨n - 1, by omega⟩
    unfold l7_2 s7_2
    rw [bifF (decide_eq_false (by omega)), show j = S.length by omega]
  | succ m ih =>
    intro n j hj hn
    obtain ⟨n, rfl⟩ : ∃ m, n = m + 1 := ⟨n - 1, by omega⟩
    have hlt : j < S.length := by omega
    have hs := sh_len (gI u) j
    have e := ih n (j + 1) (by omega) (by omega)
    rw [sh_succ] at e
    unfold l7_2 s7_2
    rw [bifT (decide_eq_true (by omega)), idx_nat, gI_get (by omega)]
    simp only [cont, Option.bind_some]
    rw [wrapI (x := (j : Int) + 1) (by omega) (by omega)]
    by_cases h : gI u j = 0
    · rw [if_pos h] at e
      rw [bifT (by rw [h]; rfl)]
      exact e
    · obtain ⟨q1, q2⟩ := sh_at hlt h
      rw [if_neg h] at e
      rw [bifF (beq_eq_false_iff_ne.2 h), bifF (decide_eq_false (by omega)), idx_nat, q2]
      simp only [Option.bind_some, m20, beq_self_eq_true, Bool.and_self, Bool.not_true, cond_false]
      rw [wrapI (by omega) (by omega)]
      rw [List.length_append, List.length_singleton, Int.natCast_add] at e
      exact e

theorem entitleSettles (S : List T36) (u : List Int) (l : List T45) (d : Int) : m7 S u l d = some true := by
  unfold m7
  rw [small8, few8]
  simp only [Option.bind_some]
  by_cases h : S.length ≤ 10 ∧ u.length ≤ 10 ∧ l.length ≤ 12
  case neg => rw [decide_eq_false h]; rfl
  rw [decide_eq_true h]
  simp only [Bool.not_true, cond_false, m11_eq, m22_eq, Option.bind_some]
  by_cases hv : Valid S u ∧ RightT S l ∧ Day d
  · have e0 : paidS S u l d = (sh (gI (payS d u l)) S.length, 0, ()) := if_pos hv
    obtain ⟨hv, hr, hd⟩ := hv
    have hmu := mu_le l
    have hlen := settle_len (now := d) (mu l) u l
    have e1 := settleS_ok hr hv hd (by omega)
    have hst : St1 S u l := ⟨hv, hr.2.2⟩
    have hst2 := settle_st hd (mu l) u l hst
    have hr2 : RightT S (settle d (mu l) u l).2 := ⟨hr.1, by omega, hst2.one⟩
    have e2 : paidS S (settle d (mu l) u l).1 (settle d (mu l) u l).2 d = (sh (gI (payS d u l)) S.length, 0, ()) := by
      unfold paidS
      rw [if_pos ⟨hst2.val, hr2, hd⟩, sh_congr (fun i hi => pay_settle hd i (mu l) u l hst)]
    have hlen2 := sh_len (gI (payS d u l)) S.length
    rw [e1, e0]
    simp only [bne_same, Bool.or_self, cond_false, e2, Option.bind_some, beq_self_eq_true, cond_true, Bool.false_or]
    rw [m15_eq _ _ (by omega)]
    simp only [decide_true, Option.bind_some, Bool.not_true, cond_false]
    obtain ⟨y, q1, q2⟩ := l7_1_eq hr.2.2 h.2.2 d (fun y11 => bif (!y11) then some true else l7_2 u (sh (gI (payS d u l)) S.length) (fun y17 => some (true && (y17 == (List.length (sh (gI (payS d u l)) S.length) : Int)))) (some false) FUEL 0 0) l.length FUEL 0 true (by omega) (fuel_lt (by omega)) ⟨fun _ => fun t ht => by simp at ht, fun _ => rfl⟩
    refine Eq.trans q1 ?_
    cases y with
    | false => rfl
    | true =>
      have hp := q2.1 rfl
      have e3 : sh (gI (payS d u l)) S.length = sh (gI u) S.length := sh_congr (fun i hi => by
        rw [payS_get d i hv.2.1 hr.2.2]
        have h2 : ∀ t ∈ l, ds d i t = 0 := fun t ht => by unfold ds; rw [hp t ht]; simp
        have := sum_b (B := 0) (f := ds d i) (l := l) (fun t ht => by rw [h2 t ht]; omega)
        omega)
      rw [e3]
      simp only [Bool.not_true, cond_false]
      refine Eq.trans (l7_2_eq hv _ _ S.length FUEL 0 (by omega) (fuel_lt (by omega))) ?_
      simp
  · have e0 : paidS S u l d = ([], 1, ()) := if_neg hv
    have e1 : settleS S u l d = ([], [], 1, ()) := if_neg (fun x => hv ⟨x.2.1, x.1, x.2.2⟩)
    rw [e0, e1]
    rfl

end Go.Proofs.Ytjoehgmdkeigiaa
