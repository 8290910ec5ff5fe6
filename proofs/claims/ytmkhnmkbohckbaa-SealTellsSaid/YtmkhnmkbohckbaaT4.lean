/- Seal: looking for entries; SealTells. -/
import Derived.Test.YtmkhnmkbohckbaaT3
namespace Go.Proofs.Ytmkhnmkbohckbaa
open Go Go.Eng
set_option linter.unusedVariables false
set_option linter.unusedSimpArgs false

theorem l5_1_eq {R : Type} (e : T31) (o : List T31) (hL : o.length ≤ 10000) (k1 : Option R) (k2 : Int → Option R) : ∀ (m n j : Nat), j + m = o.length → m < n → (∀ i (hi : i < o.length), i < j → o[i] ≠ e) →
    l5_1 e.1 e.2.1 o k1 k2 n j = (match pos o e with | none => k1 | some i => k2 (i : Int)) := by
  intro m
  induction m with
  | zero =>
    intro n j hj hn hb
    obtain ⟨n, rfl⟩ : ∃ m, n = m + 1 := ⟨n - 1, by omega⟩
    unfold l5_1 s5_1
    rw [bifF (decide_eq_false (by omega))]
    rw [pos_none.2 (fun hm => by
      obtain ⟨i, hi, he⟩ := List.getElem_of_mem hm
      exact hb i hi (by omega) he)]
  | succ m ih =>
    intro n j hj hn hb
    obtain ⟨n, rfl⟩ : ∃ m, n = m + 1 := ⟨n - 1, by omega⟩
    have hlt : j < o.length := by omega
    unfold l5_1 s5_1
    rw [bifT (decide_eq_true (by omega)), asrtP (fun _ => by simp only [Bool.and_eq_true, decide_eq_true_eq]; omega), Int.toNat_natCast, List.getElem?_eq_getElem hlt]
    simp only [Option.bind_some]
    rw [asrtP (fun _ => by simp only [Bool.and_eq_true, decide_eq_true_eq]; omega), wrapI (x := (j : Int) + 1) (by omega) (by omega)]
    by_cases h1 : o[j].1 = e.1
    · rw [beq_iff_eq.2 h1]
      simp only [beq_self_eq_true, cond_true, Option.bind_some, Bool.true_and]
      by_cases h2 : o[j].2.1 = e.2.1
      · rw [bifT (beq_iff_eq.2 h2)]
        have he : o[j] = e := Prod.ext h1 (Prod.ext h2 rfl)
        have hp : pos o e = some j := by
          unfold pos
          rw [List.findIdx?_eq_some_iff_getElem]
          exact ⟨hlt, by simp [he], fun i hi => by simp; exact fun h => hb i (by omega) hi h.symm⟩
        rw [hp]
      · rw [bifF (beq_eq_false_iff_ne.2 h2)]
        exact ih n (j + 1) (by omega) (by omega) (fun i hi hij => by
          by_cases c : i = j
          · subst c; exact fun h => h2 (by rw [h])
          · exact hb i hi (by omega))
    · rw [beq_eq_false_iff_ne.2 h1]
      simp only [show ((false : Bool) == true) = false from rfl, cond_false, Option.bind_some, Bool.false_and]
      exact ih n (j + 1) (by omega) (by omega) (fun i hi hij => by
        by_cases c : i = j
        · subst c; exact fun h => h1 (by rw [h])
        · exact hb i hi (by omega))

theorem l5_1_fi {R : Type} (e : T31) (o : List T31) (hL : o.length ≤ 10000) (k1 : Option R) (k2 : Int → Option R) : l5_1 e.1 e.2.1 o k1 k2 FUEL 0 = (match pos o e with | none => k1 | some i => k2 (i : Int)) :=
  l5_1_eq e o hL k1 k2 o.length FUEL 0 (by omega) (fuel_lt (by omega)) (fun i _ h => absurd h (Nat.not_lt_zero _))

theorem l5_2_eq {R : Type} (e : T31) (o : List T31) (hL : o.length ≤ 10000) (k1 : Option R) (k2 : Int → Option R) : ∀ (m n j : Nat), j + m = o.length → m < n → (∀ i (hi : i < o.length), i < j → o[i] ≠ e) →
    l5_2 e.1 e.2.1 o k1 k2 n j = (match pos o e with | none => k1 | some i => k2 (i : Int)) := by
  intro m
  induction m with
  | zero =>
    intro n j hj hn hb
    obtain ⟨n, rfl⟩ : ∃ m, n = m + 1 := ⟨n - 1, by omega⟩
    unfold l5_2 s5_2
    rw [bifF (decide_eq_false (by omega))]
    rw [pos_none.2 (fun hm => by
      obtain ⟨i, hi, he⟩ := List.getElem_of_mem hm
      exact hb i hi (by omega) he)]
  | succ m ih =>
    intro n j hj hn hb
    obtain ⟨n, rfl⟩ : ∃ m, n = m + 1 := ⟨n - 1, by omega⟩
    have hlt : j < o.length := by omega
    unfold l5_2 s5_2
    rw [bifT (decide_eq_true (by omega)), asrtP (fun _ => by simp only [Bool.and_eq_true, decide_eq_true_eq]; omega), Int.toNat_natCast, List.getElem?_eq_getElem hlt]
    simp only [Option.bind_some]
    rw [asrtP (fun _ => by simp only [Bool.and_eq_true, decide_eq_true_eq]; omega), wrapI (x := (j : Int) + 1) (by omega) (by omega)]
    by_cases h1 : o[j].1 = e.1
    · rw [beq_iff_eq.2 h1]
      simp only [beq_self_eq_true, cond_true, Option.bind_some, Bool.true_and]
      by_cases h2 : o[j].2.1 = e.2.1
      · rw [bifT (beq_iff_eq.2 h2)]
        have he : o[j] = e := Prod.ext h1 (Prod.ext h2 rfl)
        have hp : pos o e = some j := by
          unfold pos
          rw [List.findIdx?_eq_some_iff_getElem]
          exact ⟨hlt, by simp [he], fun i hi => by simp; exact fun h => hb i (by omega) hi h.symm⟩
        rw [hp]
      · rw [bifF (beq_eq_false_iff_ne.2 h2)]
        exact ih n (j + 1) (by omega) (by omega) (fun i hi hij => by
          by_cases c : i = j
          · subst c; exact fun h => h2 (by rw [h])
          · exact hb i hi (by omega))
    · rw [beq_eq_false_iff_ne.2 h1]
      simp only [show ((false : Bool) == true) = false from rfl, cond_false, Option.bind_some, Bool.false_and]
      exact ih n (j + 1) (by omega) (by omega) (fun i hi hij => by
        by_cases c : i = j
        · subst c; exact fun h => h1 (by rw [h])
        · exact hb i hi (by omega))

theorem l5_2_fi {R : Type} (e : T31) (o : List T31) (hL : o.length ≤ 10000) (k1 : Option R) (k2 : Int → Option R) : l5_2 e.1 e.2.1 o k1 k2 FUEL 0 = (match pos o e with | none => k1 | some i => k2 (i : Int)) :=
  l5_2_eq e o hL k1 k2 o.length FUEL 0 (by omega) (fuel_lt (by omega)) (fun i _ h => absurd h (Nat.not_lt_zero _))

theorem l5_5_eq {R : Type} (e : T31) (o : List T31) (hL : o.length ≤ 10000) (k1 : Option R) (k2 : Int → Option R) : ∀ (m n j : Nat), j + m = o.length → m < n → (∀ i (hi : i < o.length), i < j → o[i] ≠ e) →
    l5_5 e.1 e.2.1 o k1 k2 n j = (match pos o e with | none => k1 | some i => k2 (i : Int)) := by
  intro m
  induction m with
  | zero =>
    intro n j hj hn hb
    obtain ⟨n, rfl⟩ : ∃ m, n = m + 1 := ⟨n - 1, by omega⟩
    unfold l5_5 s5_5
    rw [bifF (decide_eq_false (by omega))]
    rw [pos_none.2 (fun hm => by
      obtain ⟨i, hi, he⟩ := List.getElem_of_mem hm
      exact hb i hi (by omega) he)]
  | succ m ih =>
    intro n j hj hn hb
    obtain ⟨n, rfl⟩ : ∃ m, n = m + 1 := ⟨n - 1, by omega⟩
    have hlt : j < o.length := by omega
    unfold l5_5 s5_5
    rw [bifT (decide_eq_true (by omega)), asrtP (fun _ => by simp only [Bool.and_eq_true, decide_eq_true_eq]; omega), Int.toNat_natCast, List.getElem?_eq_getElem hlt]
    simp only [Option.bind_some]
    rw [asrtP (fun _ => by simp only [Bool.and_eq_true, decide_eq_true_eq]; omega), wrapI (x := (j : Int) + 1) (by omega) (by omega)]
    by_cases h1 : o[j].1 = e.1
    · rw [beq_iff_eq.2 h1]
      simp only [beq_self_eq_true, cond_true, Option.bind_some, Bool.true_and]
      by_cases h2 : o[j].2.1 = e.2.1
      · rw [bifT (beq_iff_eq.2 h2)]
        have he : o[j] = e := Prod.ext h1 (Prod.ext h2 rfl)
        have hp : pos o e = some j := by
          unfold pos
          rw [List.findIdx?_eq_some_iff_getElem]
          exact ⟨hlt, by simp [he], fun i hi => by simp; exact fun h => hb i (by omega) hi h.symm⟩
        rw [hp]
      · rw [bifF (beq_eq_false_iff_ne.2 h2)]
        exact ih n (j + 1) (by omega) (by omega) (fun i hi hij => by
          by_cases c : i = j
          · subst c; exact fun h => h2 (by rw [h])
          · exact hb i hi (by omega))
    · rw [beq_eq_false_iff_ne.2 h1]
      simp only [show ((false : Bool) == true) = false from rfl, cond_false, Option.bind_some, Bool.false_and]
      exact ih n (j + 1) (by omega) (by omega) (fun i hi hij => by
        by_cases c : i = j
        · subst c; exact fun h => h1 (by rw [h])
        · exact hb i hi (by omega))

theorem l5_5_fi {R : Type} (e : T31) (o : List T31) (hL : o.length ≤ 10000) (k1 : Option R) (k2 : Int → Option R) : l5_5 e.1 e.2.1 o k1 k2 FUEL 0 = (match pos o e with | none => k1 | some i => k2 (i : Int)) :=
  l5_5_eq e o hL k1 k2 o.length FUEL 0 (by omega) (fuel_lt (by omega)) (fun i _ h => absurd h (Nat.not_lt_zero _))

theorem l5_7_eq {R : Type} (e : T31) (o : List T31) (hL : o.length ≤ 10000) (k1 : Option R) (k2 : Int → Option R) : ∀ (m n j : Nat), j + m = o.length → m < n → (∀ i (hi : i < o.length), i < j → o[i] ≠ e) →
    l5_7 e.1 e.2.1 o k1 k2 n j = (match pos o e with | none => k1 | some i => k2 (i : Int)) := by
  intro m
  induction m with
  | zero =>
    intro n j hj hn hb
    obtain ⟨n, rfl⟩ : ∃ m, n = m + 1 := ⟨n - 1, by omega⟩
    unfold l5_7 s5_7
    rw [bifF (decide_eq_false (by omega))]
    rw [pos_none.2 (fun hm => by
      obtain ⟨i, hi, he⟩ := List.getElem_of_mem hm
      exact hb i hi (by omega) he)]
  | succ m ih =>
    intro n j hj hn hb
    obtain ⟨n, rfl⟩ : ∃ m, n = m + 1 := ⟨n - 1, by omega⟩
    have hlt : j < o.length := by omega
    unfold l5_7 s5_7
    rw [bifT (decide_eq_true (by omega)), asrtP (fun _ => by simp only [Bool.and_eq_true, decide_eq_true_eq]; omega), Int.toNat_natCast, List.getElem?_eq_getElem hlt]
    simp only [Option.bind_some]
    rw [asrtP (fun _ => by simp only [Bool.and_eq_true, decide_eq_true_eq]; omega), wrapI (x := (j : Int) + 1) (by omega) (by omega)]
    by_cases h1 : o[j].1 = e.1
    · rw [beq_iff_eq.2 h1]
      simp only [beq_self_eq_true, cond_true, Option.bind_some, Bool.true_and]
      by_cases h2 : o[j].2.1 = e.2.1
      · rw [bifT (beq_iff_eq.2 h2)]
        have he : o[j] = e := Prod.ext h1 (Prod.ext h2 rfl)
        have hp : pos o e = some j := by
          unfold pos
          rw [List.findIdx?_eq_some_iff_getElem]
          exact ⟨hlt, by simp [he], fun i hi => by simp; exact fun h => hb i (by omega) hi h.symm⟩
        rw [hp]
      · rw [bifF (beq_eq_false_iff_ne.2 h2)]
        exact ih n (j + 1) (by omega) (by omega) (fun i hi hij => by
          by_cases c : i = j
          · subst c; exact fun h => h2 (by rw [h])
          · exact hb i hi (by omega))
    · rw [beq_eq_false_iff_ne.2 h1]
      simp only [show ((false : Bool) == true) = false from rfl, cond_false, Option.bind_some, Bool.false_and]
      exact ih n (j + 1) (by omega) (by omega) (fun i hi hij => by
        by_cases c : i = j
        · subst c; exact fun h => h1 (by rw [h])
        · exact hb i hi (by omega))

theorem l5_7_fi {R : Type} (e : T31) (o : List T31) (hL : o.length ≤ 10000) (k1 : Option R) (k2 : Int → Option R) : l5_7 e.1 e.2.1 o k1 k2 FUEL 0 = (match pos o e with | none => k1 | some i => k2 (i : Int)) :=
  l5_7_eq e o hL k1 k2 o.length FUEL 0 (by omega) (fuel_lt (by omega)) (fun i _ h => absurd h (Nat.not_lt_zero _))

/-- What the reference says of a signature. -/
def rv (L : List T31) (s : T23) : Bool := ((decide (s.2.2.1 ≥ 0)) && (decide (s.2.2.1 < (List.length L : Int)))) && decide (L[s.2.2.1.toNat]? = some (s.1, s.2.1, ()))

theorem rv_chain {R : Type} (L : List T31) (s : T23) (K : Bool → Option R) :
    asrt (((decide (s.2.2.1 ≥ 0)) && (decide (s.2.2.1 < (List.length L : Int)))) == true) (decide (0 ≤ s.2.2.1) && decide (s.2.2.1 < (List.length L : Int))) (
      ((bif (((decide (s.2.2.1 ≥ 0)) && (decide (s.2.2.1 < (List.length L : Int)))) == true) then (L)[(s.2.2.1 : Int).toNat]? else some (0, ([] : (List UInt8)), ()))).bind fun x8 =>
      asrt ((((decide (s.2.2.1 ≥ 0)) && (decide (s.2.2.1 < (List.length L : Int)))) && (x8.1 == s.1)) == true) (decide (0 ≤ s.2.2.1) && decide (s.2.2.1 < (List.length L : Int))) (
        ((bif ((((decide (s.2.2.1 ≥ 0)) && (decide (s.2.2.1 < (List.length L : Int)))) && (x8.1 == s.1)) == true) then (L)[(s.2.2.1 : Int).toNat]? else some (0, ([] : (List UInt8)), ()))).bind fun x9 =>
        K ((((decide (s.2.2.1 ≥ 0)) && (decide (s.2.2.1 < (List.length L : Int)))) && (x8.1 == s.1)) && (x9.2.1 == s.2.1)))) = K (rv L s) := by
  unfold rv
  by_cases h : s.2.2.1 ≥ 0 ∧ s.2.2.1 < (List.length L : Int)
  · obtain ⟨h1, h2⟩ := h
    have hlt : s.2.2.1.toNat < L.length := by omega
    rw [decide_eq_true h1, decide_eq_true h2, List.getElem?_eq_getElem hlt]
    simp only [Bool.and_self, asrtT, beq_self_eq_true, cond_true, Option.bind_some, Bool.true_and]
    by_cases h3 : L[s.2.2.1.toNat].1 = s.1
    · rw [beq_iff_eq.2 h3]
      simp only [beq_self_eq_true, cond_true, Option.bind_some, Bool.true_and]
      congr 1
      rw [Bool.eq_iff_iff]
      simp only [beq_iff_eq, decide_eq_true_eq, Option.some.injEq]
      constructor
      · intro h4; exact Prod.ext h3 (Prod.ext h4 rfl)
      · intro h4; rw [h4]
    · rw [beq_eq_false_iff_ne.2 h3]
      simp only [show ((false : Bool) == true) = false from rfl, cond_false, Option.bind_some, Bool.false_and]
      congr 1
      rw [eq_comm, decide_eq_false_iff_not, Option.some.injEq]
      intro h4
      exact h3 (by rw [h4])
  · have hf : (decide (s.2.2.1 ≥ 0) && decide (s.2.2.1 < (List.length L : Int))) = false := by
      rw [← Bool.decide_and]; exact decide_eq_false h
    rw [hf]
    simp only [show ((false : Bool) == true) = false from rfl, asrtF, cond_false, Option.bind_some, Bool.false_and]

theorem rv_hol {L : List T31} (hn : L.Nodup) (s : T23) : hol L s = rv L s := by
  unfold hol rv
  rw [Bool.eq_iff_iff]
  simp only [Bool.and_eq_true, decide_eq_true_eq]
  cases h : pos L (s.1, s.2.1, ()) with
  | none =>
    simp only [Bool.false_eq_true, false_iff]
    rintro ⟨_, h2⟩
    exact pos_none.1 h (List.mem_of_getElem? h2)
  | some n =>
    obtain ⟨hn1, hn2⟩ := pos_get h
    simp only [beq_iff_eq]
    constructor
    · intro e
      refine ⟨⟨by omega, by omega⟩, ?_⟩
      rw [← e, Int.toNat_natCast, List.getElem?_eq_getElem hn1, hn2]
    · rintro ⟨⟨h1, h2⟩, h3⟩
      have hlt : s.2.2.1.toNat < L.length := by omega
      rw [List.getElem?_eq_getElem hlt, Option.some.injEq, ← hn2] at h3
      have := (List.getElem_inj hn).1 h3
      omega

theorem nodup_app {L : List T31} (hn : L.Nodup) {e : T31} (h : pos L e = none) : (L ++ [e]).Nodup := by
  rw [List.nodup_append]
  refine ⟨hn, by simp, fun a ha b hb => ?_⟩
  rw [List.mem_singleton.1 hb]
  exact fun e' => pos_none.1 h (e' ▸ ha)

/-- Both rings, side by side. -/
theorem l5_3_eq {R : Type} (l : List T31) (hl : l.length ≤ 40) (s : T23) (k1 : List T31 → List (T31 × Int) → List T31 → Option R) (k2 : Option R) : ∀ (m n j : Nat) (o : List T31), j + m = l.length → m < n → o.length ≤ j → o.Nodup →
    ∃ q, q.length ≤ 40 ∧ l5_3 l s k1 k2 n j o (zi 0 o) o = k1 q (zi 0 q) q := by
  intro m
  induction m with
  | zero =>
    intro n j o hj hn h3 hd
    obtain ⟨n, rfl⟩ : ∃ m, n = m + 1 := ⟨n - 1, by omega⟩
    unfold l5_3 s5_3
    rw [bifF (decide_eq_false (by omega))]
    exact ⟨o, by omega, rfl⟩
  | succ m ih =>
    intro n j o hj hn h3 hd
    obtain ⟨n, rfl⟩ : ∃ m, n = m + 1 := ⟨n - 1, by omega⟩
    have hlt : j < l.length := by omega
    unfold l5_3 s5_3
    rw [bifT (decide_eq_true (by omega)), idx_nat, List.getElem?_eq_getElem hlt, wrapI (x := (j : Int) + 1) (by omega) (by omega)]
    simp only [Option.bind_some, m21_eq]
    by_cases hk : KeyP l[j].1
    · obtain ⟨k0, k1'⟩ := hk
      rw [decide_eq_true (show KeyP l[j].1 from ⟨k0, k1'⟩), decide_eq_false (show ¬ l[j].1 < 0 by omega), decide_eq_false (show ¬ l[j].1 ≥ 200 by omega)]
      simp only [Bool.not_true, cond_false, Bool.or_self]
      have em : mapAt G31 (.int .i64) (l[j].1, l[j].2.1, ()) (zi 0 o) = (pos o l[j]).map fun i => ((0 + i : Nat) : Int) := mapAt_zi _ o 0
      rw [em]
      cases hp : pos o l[j] with
      | none =>
        obtain ⟨q, r1, r2⟩ := ih n (j + 1) (o ++ [l[j]]) (by omega) (by omega) (by simp; omega) (nodup_app hd hp)
        refine ⟨q, r1, ?_⟩
        rw [← r2]
        simp only [Option.map_none, Option.isSome_none, Option.isNone_none, Bool.not_false, cond_true]
        rw [asrtP (fun _ => lim (by simp; omega)), asrtT, l5_2_fi l[j] o (by omega), hp]
        simp only
        rw [asrtP (fun _ => lim (by simp; omega))]
        have ez : (zi 0 o ++ [((l[j].1, l[j].2.1, ()), (List.length o : Int))]) = zi 0 (o ++ [l[j]]) := by
          rw [zi_app, Nat.zero_add]
        simp only [ez, beq_self_eq_true, Bool.and_self, Bool.not_true, cond_true, Bool.false_or]
        refine Eq.trans (rv_chain (o ++ [(l[j].1, l[j].2.1, ())]) s (fun b => bif (!(((Option.isSome (mapAt G31 (.int .i64) (s.1, s.2.1, ()) (zi 0 (o ++ [l[j]])))) && ((Option.getD (mapAt G31 (.int .i64) (s.1, s.2.1, ()) (zi 0 (o ++ [l[j]]))) 0) == s.2.2.1)) == b)) then k2
          else l5_3 l s k1 k2 n ((j : Int) + 1) (o ++ [(l[j].1, l[j].2.1, ())]) (zi 0 (o ++ [l[j]])) (o ++ [(l[j].1, l[j].2.1, ())]))) ?_
        rw [hol_eq]
        have e : hol (o ++ [l[j]]) s = rv (o ++ [(l[j].1, l[j].2.1, ())]) s := rv_hol (nodup_app hd hp) s
        rw [e]
        simp only [beq_self_eq_true, Bool.not_true, cond_false]
        rfl
      | some i =>
        obtain ⟨q, r1, r2⟩ := ih n (j + 1) o (by omega) (by omega) (by omega) hd
        refine ⟨q, r1, ?_⟩
        rw [← r2]
        simp only [Option.map_some, Option.isSome_some, Bool.not_true, cond_false, Option.getD_some, Nat.zero_add]
        rw [l5_1_fi l[j] o (by omega), hp]
        simp only
        rw [decide_eq_false (show ¬ (i : Int) < 0 by omega)]
        simp only [beq_self_eq_true, Bool.and_self, Bool.not_true, cond_true, cond_false, Bool.false_or]
        refine Eq.trans (rv_chain o s (fun b => bif (!(((Option.isSome (mapAt G31 (.int .i64) (s.1, s.2.1, ()) (zi 0 o))) && ((Option.getD (mapAt G31 (.int .i64) (s.1, s.2.1, ()) (zi 0 o)) 0) == s.2.2.1)) == b)) then k2
          else l5_3 l s k1 k2 n ((j : Int) + 1) o (zi 0 o) o)) ?_
        rw [hol_eq, rv_hol hd]
        simp only [beq_self_eq_true, Bool.not_true, cond_false]
        rfl
    · obtain ⟨q, r1, r2⟩ := ih n (j + 1) o (by omega) (by omega) (by omega) hd
      refine ⟨q, r1, ?_⟩
      rw [← r2, decide_eq_false hk]
      have hc : (decide (l[j].1 < 0) || decide (l[j].1 ≥ 200)) = true := by
        unfold KeyP at hk
        rw [← Bool.decide_or]; exact decide_eq_true (by omega)
      rw [hc]
      simp only [Bool.not_false, cond_true]
      refine Eq.trans (rv_chain o s (fun b => bif (!(((Option.isSome (mapAt G31 (.int .i64) (s.1, s.2.1, ()) (zi 0 o))) && ((Option.getD (mapAt G31 (.int .i64) (s.1, s.2.1, ()) (zi 0 o)) 0) == s.2.2.1)) == b)) then k2
        else l5_3 l s k1 k2 n ((j : Int) + 1) o (zi 0 o) o)) ?_
      rw [hol_eq, rv_hol hd]
      simp only [beq_self_eq_true, Bool.not_true, cond_false]
      rfl

/-! Opening. -/

/-- The entries that opening lays. -/
def ded : List T31 → List T31 → List T31
  | acc, [] => acc
  | acc, e :: l => ded (if e ∈ acc then acc else acc ++ [e]) l

theorem ded_nodup : ∀ (l acc : List T31), (acc ++ l).Nodup → ded acc l = acc ++ l
  | [], acc, _ => by simp [ded]
  | e :: l, acc, h => by
    have h2 : e ∉ acc := by
      rw [List.nodup_append] at h
      exact fun hm => h.2.2 e hm e (by simp) rfl
    simp only [ded]
    rw [if_neg h2, ded_nodup l (acc ++ [e]) (by simpa using h)]
    simp

theorem ded_len : ∀ (l acc : List T31), (ded acc l).length ≤ acc.length + l.length
  | [], acc => by simp [ded]
  | e :: l, acc => by
    simp only [ded]
    split
    · have := ded_len l acc; simp; omega
    · have := ded_len l (acc ++ [e]); simp at this ⊢; omega

theorem ded_short : ∀ (l acc : List T31), acc.Nodup → ¬ (acc ++ l).Nodup → (ded acc l).length < acc.length + l.length
  | [], acc, ha, h => absurd (by simpa using ha) h
  | e :: l, acc, ha, h => by
    simp only [ded]
    by_cases hm : e ∈ acc
    · rw [if_pos hm]
      have := ded_len l acc
      simp; omega
    · rw [if_neg hm]
      have := ded_short l (acc ++ [e]) (nodup_app ha (pos_none.2 hm)) (by simpa using h)
      simp at this ⊢; omega

theorem ded_snoc (e : T31) : ∀ (l acc : List T31), ded acc (l ++ [e]) = if e ∈ ded acc l then ded acc l else ded acc l ++ [e]
  | [], acc => rfl
  | x :: l, acc => ded_snoc e l _

theorem l5_4_eq {R : Type} (l : List T31) (hl : l.length ≤ 40) (k1 : List T31 → List (T31 × Int) → Option R) (k2 : Option R) : ∀ (m n j : Nat), j + m = l.length → m < n → (∀ e ∈ l.take j, KeyP e.1) →
    ((∀ e ∈ l, KeyP e.1) ∧ l5_4 l (List.length l : Int) k1 k2 n j (ded [] (l.take j)) (zi 0 (ded [] (l.take j))) = k1 (ded [] l) (zi 0 (ded [] l))) ∨
    (¬ (∀ e ∈ l, KeyP e.1) ∧ l5_4 l (List.length l : Int) k1 k2 n j (ded [] (l.take j)) (zi 0 (ded [] (l.take j))) = k2) := by
  intro m
  induction m with
  | zero =>
    intro n j hj hn hb
    obtain ⟨n, rfl⟩ : ∃ m, n = m + 1 := ⟨n - 1, by omega⟩
    unfold l5_4 s5_4
    rw [bifF (decide_eq_false (by omega))]
    rw [List.take_of_length_le (by omega)] at hb ⊢
    exact .inl ⟨hb, rfl⟩
  | succ m ih =>
    intro n j hj hn hb
    obtain ⟨n, rfl⟩ : ∃ m, n = m + 1 := ⟨n - 1, by omega⟩
    have hlt : j < l.length := by omega
    have hd := ded_len (l.take j) []
    rw [List.length_take, List.length_nil] at hd
    unfold l5_4 s5_4
    rw [bifT (decide_eq_true (by omega)), idx_nat, List.getElem?_eq_getElem hlt, wrapI (x := (j : Int) + 1) (by omega) (by omega)]
    simp only [Option.bind_some, m21_eq]
    by_cases hk : KeyP l[j].1
    · rw [decide_eq_true hk]
      simp only [Bool.not_true, cond_false]
      have e := ih n (j + 1) (by omega) (by omega) (by
        rw [List.take_succ_eq_append_getElem hlt]
        intro e he
        rcases List.mem_append.1 he with q | q
        · exact hb e q
        · rw [List.mem_singleton.1 q]; exact hk)
      rw [List.take_succ_eq_append_getElem hlt, ded_snoc] at e
      have em : mapAt G31 (.int .i64) (l[j].1, l[j].2.1, ()) (zi 0 (ded [] (l.take j))) = (pos (ded [] (l.take j)) l[j]).map fun i => ((0 + i : Nat) : Int) := mapAt_zi _ _ 0
      rw [em]
      cases hp : pos (ded [] (l.take j)) l[j] with
      | none =>
        rw [if_neg (pos_none.1 hp)] at e
        simp only [Option.map_none, Option.isSome_none, Option.isNone_none, Bool.not_false, cond_true]
        rw [asrtP (fun _ => lim (by simp; omega)), asrtT]
        have ez : (zi 0 (ded [] (l.take j)) ++ [((l[j].1, l[j].2.1, ()), (List.length (ded [] (l.take j)) : Int))]) = zi 0 (ded [] (l.take j) ++ [l[j]]) := by
          rw [zi_app, Nat.zero_add]
        rw [ez]
        exact e
      | some i =>
        rw [if_pos (pos_mem.1 ⟨i, hp⟩)] at e
        simp only [Option.map_some, Option.isSome_some, Bool.not_true, cond_false]
        exact e
    · rw [decide_eq_false hk]
      exact .inr ⟨fun h => hk (h _ (List.getElem_mem hlt)), rfl⟩

theorem nodup_take {l : List T31} {j : Nat} (h : j < l.length) : (l.take (j + 1)).Nodup ↔ (l.take j).Nodup ∧ l[j] ∉ l.take j := by
  rw [List.take_succ_eq_append_getElem h, List.nodup_append]
  constructor
  · rintro ⟨h1, _, h3⟩
    exact ⟨h1, fun hm => h3 _ hm l[j] (by simp) rfl⟩
  · rintro ⟨h1, h2⟩
    exact ⟨h1, by simp, fun a ha b hb => by rw [List.mem_singleton.1 hb]; exact fun e => h2 (e ▸ ha)⟩

def bad (l : List T31) : Int := if l.Nodup then 0 else 5


theorem l5_6_eq {R : Type} (l : List T31) (hl : l.length ≤ 40) (k1 : Int → List T31 → Option R) (k2 : Option R) : ∀ (m n j : Nat), j + m = l.length → m < n → (∀ e ∈ l.take j, KeyP e.1) →
    l5_6 l k1 k2 n (bad (l.take j)) j (l.take j) = if ∀ e ∈ l, KeyP e.1 then k1 (bad l) l else k2 := by
  intro m
  induction m with
  | zero =>
    intro n j hj hn hb
    obtain ⟨n, rfl⟩ : ∃ m, n = m + 1 := ⟨n - 1, by omega⟩
    unfold l5_6 s5_6
    rw [bifF (decide_eq_false (by omega))]
    rw [List.take_of_length_le (by omega)] at hb ⊢
    rw [if_pos hb]
  | succ m ih =>
    intro n j hj hn hb
    obtain ⟨n, rfl⟩ : ∃ m, n = m + 1 := ⟨n - 1, by omega⟩
    have hlt : j < l.length := by omega
    have hlen : (l.take j).length ≤ 40 := by rw [List.length_take]; omega
    unfold l5_6 s5_6
    rw [bifT (decide_eq_true (by omega)), idx_nat, List.getElem?_eq_getElem hlt, wrapI (x := (j : Int) + 1) (by omega) (by omega)]
    simp only [cont, Option.bind_some, ig31 hlt]
    by_cases hk : KeyP l[j].1
    · have hk' := hk
      unfold KeyP at hk'
      rw [decide_eq_false (show ¬ l[j].1 < 0 by omega)]
      simp only [beq_self_eq_true, cond_true, Bool.false_or]
      rw [bifF (decide_eq_false (by omega)), l5_5_fi l[j] (l.take j) (by omega)]
      have e := ih n (j + 1) (by omega) (by omega) (by
        rw [List.take_succ_eq_append_getElem hlt]
        intro e he
        rcases List.mem_append.1 he with q | q
        · exact hb e q
        · rw [List.mem_singleton.1 q]; exact hk)
      have hnd := nodup_take hlt
      unfold bad at e ⊢
      cases hp : pos (l.take j) l[j] with
      | none =>
        simp only [show decide ((-1 : Int) ≥ 0) = false from rfl, cond_false]
        rw [asrtP (fun _ => lim (by simp; omega)), ← List.take_succ_eq_append_getElem hlt]
        by_cases c : (l.take j).Nodup
        · rw [if_pos (hnd.2 ⟨c, pos_none.1 hp⟩)] at e
          rw [if_pos c]; exact e
        · rw [if_neg (fun h => c (hnd.1 h).1)] at e
          rw [if_neg c]; exact e
      | some i =>
        simp only
        rw [bifT (decide_eq_true (by omega)), asrtP (fun _ => lim (by simp; omega)), ← List.take_succ_eq_append_getElem hlt]
        rw [if_neg (fun h => (hnd.1 h).2 (pos_mem.1 ⟨i, hp⟩))] at e
        exact e
    · rw [if_neg (fun h => hk (h _ (List.getElem_mem hlt)))]
      have hc : (decide (l[j].1 < 0) || decide (((bif (decide (l[j].1 < 0) == false) then l[j] else ((0, [], ()) : T31)) : T31).1 ≥ 200)) = true := by
        unfold KeyP at hk
        by_cases h0 : l[j].1 < 0
        · rw [decide_eq_true h0]; rfl
        · rw [decide_eq_false h0]
          simp only [beq_self_eq_true, cond_true, Bool.false_or]
          exact decide_eq_true (by omega)
      rw [hc]
      rfl

theorem l5_8_eq {R : Type} (l : List T31) (hl : l.length ≤ 40) (k1 : Int → List T31 → Option R) (k2 : Option R) : ∀ (m n j : Nat), j + m = l.length → m < n → (∀ e ∈ l.take j, KeyP e.1) →
    l5_8 l k1 k2 n (bad (l.take j)) j (l.take j) = if ∀ e ∈ l, KeyP e.1 then k1 (bad l) l else k2 := by
  intro m
  induction m with
  | zero =>
    intro n j hj hn hb
    obtain ⟨n, rfl⟩ : ∃ m, n = m + 1 := ⟨n - 1, by omega⟩
    unfold l5_8 s5_8
    rw [bifF (decide_eq_false (by omega))]
    rw [List.take_of_length_le (by omega)] at hb ⊢
    rw [if_pos hb]
  | succ m ih =>
    intro n j hj hn hb
    obtain ⟨n, rfl⟩ : ∃ m, n = m + 1 := ⟨n - 1, by omega⟩
    have hlt : j < l.length := by omega
    have hlen : (l.take j).length ≤ 40 := by rw [List.length_take]; omega
    unfold l5_8 s5_8
    rw [bifT (decide_eq_true (by omega)), idx_nat, List.getElem?_eq_getElem hlt, wrapI (x := (j : Int) + 1) (by omega) (by omega)]
    simp only [cont, Option.bind_some, ig31 hlt]
    by_cases hk : KeyP l[j].1
    · have hk' := hk
      unfold KeyP at hk'
      rw [decide_eq_false (show ¬ l[j].1 < 0 by omega)]
      simp only [beq_self_eq_true, cond_true, Bool.false_or]
      rw [bifF (decide_eq_false (by omega)), l5_7_fi l[j] (l.take j) (by omega)]
      have e := ih n (j + 1) (by omega) (by omega) (by
        rw [List.take_succ_eq_append_getElem hlt]
        intro e he
        rcases List.mem_append.1 he with q | q
        · exact hb e q
        · rw [List.mem_singleton.1 q]; exact hk)
      have hnd := nodup_take hlt
      unfold bad at e ⊢
      cases hp : pos (l.take j) l[j] with
      | none =>
        simp only [show decide ((-1 : Int) ≥ 0) = false from rfl, cond_false]
        rw [asrtP (fun _ => lim (by simp; omega)), ← List.take_succ_eq_append_getElem hlt]
        by_cases c : (l.take j).Nodup
        · rw [if_pos (hnd.2 ⟨c, pos_none.1 hp⟩)] at e
          rw [if_pos c]; exact e
        · rw [if_neg (fun h => c (hnd.1 h).1)] at e
          rw [if_neg c]; exact e
      | some i =>
        simp only
        rw [bifT (decide_eq_true (by omega)), asrtP (fun _ => lim (by simp; omega)), ← List.take_succ_eq_append_getElem hlt]
        rw [if_neg (fun h => (hnd.1 h).2 (pos_mem.1 ⟨i, hp⟩))] at e
        exact e
    · rw [if_neg (fun h => hk (h _ (List.getElem_mem hlt)))]
      have hc : (decide (l[j].1 < 0) || decide (((bif (decide (l[j].1 < 0) == false) then l[j] else ((0, [], ()) : T31)) : T31).1 ≥ 200)) = true := by
        unfold KeyP at hk
        by_cases h0 : l[j].1 < 0
        · rw [decide_eq_true h0]; rfl
        · rw [decide_eq_false h0]
          simp only [beq_self_eq_true, cond_true, Bool.false_or]
          exact decide_eq_true (by omega)
      rw [hc]
      rfl

theorem sealTells (l : List T31) (s : T23) : m5 l s = some true := by
  unfold m5
  rw [small7]
  simp only [Option.bind_some]
  obtain ⟨b, eb, hb⟩ := m9_eq l
  rw [eb]
  simp only [Option.bind_some]
  cases b with
  | false => rfl
  | true =>
    have hl := hb rfl
    simp only [Bool.not_true, cond_false, beq_self_eq_true, cond_true, Bool.true_and, Option.bind_some, Bool.or_false]
    have fin : ∀ q : List T31, q.length ≤ 40 → ((cloneM q).bind fun r108 => asrt true (decide (List.length (α := T31) q ≤ LIM)) ((m12 r108 q).bind fun r109 => some r109)) = some true := by
      intro q hq
      rw [cloneM_eq (by omega)]
      simp only [Option.bind_some]
      rw [asrtP (fun _ => lim (by omega)), m12_eq _ _ (by omega)]
      simp
    obtain ⟨q, q1, q2⟩ := l5_3_eq l hl s _ (some false) l.length FUEL 0 [] (by omega) (fuel_lt (by omega)) (by simp) (by simp)
    refine Eq.trans q2 ?_
    have hne : (5 : Int) ≠ 0 := by omega
    rcases l5_4_eq l hl _ _ l.length FUEL 0 (by omega) (fuel_lt (by omega)) (by simp) with ⟨hk, e4⟩ | ⟨hk, e4⟩
    · refine Eq.trans e4 ?_
      by_cases hd : l.Nodup
      · have e1 : ded [] l = l := by have := ded_nodup l [] (by simpa using hd); simpa using this
        have e2 : bad l = 0 := if_pos hd
        rw [e1, bifF (decide_eq_false (by omega))]
        refine Eq.trans (l5_8_eq l hl _ _ l.length FUEL 0 (by omega) (fuel_lt (by omega)) (by simp)) ?_
        rw [if_pos hk, e2]
        simp only [bne_same, cond_false, beq_self_eq_true, Bool.not_true, cond_true]
        rw [cloneM_eq (by omega)]
        simp only [Option.bind_some]
        rw [asrtP (fun _ => lim (by omega)), m12_eq _ _ (by omega)]
        simp only [decide_true, Option.bind_some, Bool.not_true, beq_self_eq_true, cond_true, Bool.false_or]
        refine Eq.trans (rv_chain l s (fun b => bif (!(((Option.isSome (mapAt G31 (.int .i64) (s.1, s.2.1, ()) (zi 0 l))) && ((Option.getD (mapAt G31 (.int .i64) (s.1, s.2.1, ()) (zi 0 l)) 0) == s.2.2.1)) == b)) then some false
          else ((cloneM q).bind fun r108 => asrt true (decide (List.length (α := T31) q ≤ LIM)) ((m12 r108 q).bind fun r109 => some r109)))) ?_
        rw [hol_eq, rv_hol hd]
        simp only [beq_self_eq_true, Bool.not_true, cond_false]
        exact fin q q1
      · have e1 := ded_short l [] (by simp) (by simpa using hd)
        have e2 : bad l = 5 := if_neg hd
        rw [List.length_nil, Nat.zero_add] at e1
        rw [bifT (decide_eq_true (by omega))]
        refine Eq.trans (l5_8_eq l hl _ _ l.length FUEL 0 (by omega) (fuel_lt (by omega)) (by simp)) ?_
        rw [if_pos hk, e2]
        simp only [bne_ne hne, cond_true, bne_same, Bool.or_self, cond_false]
        exact fin q q1
    · refine Eq.trans e4 ?_
      refine Eq.trans (l5_6_eq l hl _ _ l.length FUEL 0 (by omega) (fuel_lt (by omega)) (by simp)) ?_
      rw [if_neg hk]
      exact fin q q1

end Go.Proofs.Ytmkhnmkbohckbaa
