/- Seal: SealMarks. -/
import Derived.Test.YtmkhnmkbohckbaaT2
namespace Go.Proofs.Ytmkhnmkbohckbaa
open Go Go.Eng
set_option linter.unusedVariables false
set_option linter.unusedSimpArgs false

theorem pos_mem {l : List T31} {e : T31} : (∃ n, pos l e = some n) ↔ e ∈ l := by
  cases h : pos l e with
  | some n =>
    refine ⟨fun _ => ?_, fun _ => ⟨n, rfl⟩⟩
    obtain ⟨hn, h2⟩ := pos_get h
    rw [← h2]; exact List.getElem_mem hn
  | none =>
    refine ⟨fun ⟨n, hn⟩ => (by cases hn), fun hm => absurd hm (pos_none.1 h)⟩

theorem l12_eq {R : Type} (a b : List T31) (hl : a.length = b.length) (hL : a.length ≤ 100000) (k1 k2 : Option R) : ∀ (m n j : Nat), j + m = a.length → m < n → a.take j = b.take j →
    l12_1 a b k1 k2 n j = if a = b then k1 else k2 := by
  intro m
  induction m with
  | zero =>
    intro n j hj hn ht
    obtain ⟨n, rfl⟩ : ∃ m, n = m + 1 := ⟨n - 1, by omega⟩
    unfold l12_1 s12_1
    rw [bifF (decide_eq_false (by omega)), if_pos]
    rwa [List.take_of_length_le (by omega), List.take_of_length_le (by omega)] at ht
  | succ m ih =>
    intro n j hj hn ht
    obtain ⟨n, rfl⟩ : ∃ m, n = m + 1 := ⟨n - 1, by omega⟩
    have h1 : j < a.length := by omega
    have h2 : j < b.length := by omega
    unfold l12_1 s12_1
    rw [bifT (decide_eq_true (by omega)), idx_nat, List.getElem?_eq_getElem h1, idx_nat, List.getElem?_eq_getElem h2]
    simp only [Option.bind_some]
    rw [eq31]
    by_cases e : a[j] = b[j]
    · rw [decide_eq_true e, wrapI (x := (j : Int) + 1) (by omega) (by omega)]
      simp only [Bool.not_true, cond_false]
      exact ih n (j + 1) (by omega) (by omega) (by rw [List.take_succ_eq_append_getElem h1, List.take_succ_eq_append_getElem h2, ht, e])
    · rw [decide_eq_false e, if_neg (fun h => e (by subst h; rfl))]
      rfl

theorem m12_eq (a b : List T31) (hL : a.length ≤ 100000) : m12 a b = some (decide (a = b)) := by
  unfold m12
  by_cases hl : a.length = b.length
  · rw [bifF (by rw [hl]; exact bne_same _)]
    refine Eq.trans (l12_eq a b hl hL (some true) (some false) a.length FUEL 0 (by omega) (fuel_lt (by omega)) rfl) ?_
    by_cases h : a = b
    · rw [if_pos h, decide_eq_true h]
    · rw [if_neg h, decide_eq_false h]
  · rw [bifT (bne_ne (by omega)), decide_eq_false (fun h => hl (by rw [h]))]

theorem ig31 {l : List T31} {j : Nat} (h : j < l.length) (g : Bool) : idxG g (0, ([] : List UInt8), ()) l (j : Int) = some (bif g then l[j] else (0, [], ())) := by
  unfold idxG
  rw [idx_nat, List.getElem?_eq_getElem h]
  cases g <;> rfl

theorem l4_1_eq {R : Type} {l o1 : List T31} {i : Nat} (hi : i < l.length) (hL : o1.length ≤ 10000) (k : Bool → Option R) : ∀ (m n j : Nat) (b : Bool), j + m = o1.length → m < n → (b = true ↔ l[i] ∈ o1.take j) →
    ∃ y, l4_1 l (i : Int) o1 k n b j = k y ∧ (y = true ↔ l[i] ∈ o1) := by
  intro m
  induction m with
  | zero =>
    intro n j b hj hn hb
    obtain ⟨n, rfl⟩ : ∃ m, n = m + 1 := ⟨n - 1, by omega⟩
    unfold l4_1 s4_1
    rw [bifF (decide_eq_false (by omega))]
    refine ⟨b, rfl, ?_⟩
    rwa [List.take_of_length_le (by omega)] at hb
  | succ m ih =>
    intro n j b hj hn hb
    obtain ⟨n, rfl⟩ : ∃ m, n = m + 1 := ⟨n - 1, by omega⟩
    have hlt : j < o1.length := by omega
    unfold l4_1 s4_1
    rw [bifT (decide_eq_true (by omega)), wrapI (x := (j : Int) + 1) (by omega) (by omega)]
    have ht : l[i] ∈ o1.take (j + 1) ↔ l[i] ∈ o1.take j ∨ l[i] = o1[j] := by
      rw [List.take_succ_eq_append_getElem hlt, List.mem_append, List.mem_singleton]
    simp only [ig31 hi]
    cases b with
    | true =>
      simp only [show ((true : Bool) == false) = false from rfl, asrtF, cond_false, Option.bind_some, Bool.true_or]
      exact ih n (j + 1) true (by omega) (by omega) ⟨fun _ => ht.2 (.inl (hb.1 rfl)), fun _ => rfl⟩
    | false =>
      simp only [beq_self_eq_true, cond_true, Bool.false_or]
      rw [asrtP (fun _ => by simp only [Bool.and_eq_true, decide_eq_true_eq]; omega), Int.toNat_natCast, List.getElem?_eq_getElem hlt]
      simp only [Option.bind_some]
      rw [eq31]
      refine ih n (j + 1) _ (by omega) (by omega) ?_
      rw [ht, decide_eq_true_iff]
      constructor
      · exact fun h => .inr h.symm
      · rintro (h | h)
        · have := hb.2 h; cases this
        · exact h.symm

/-- What a pair's signature is. -/
def Sig (o3 : List T31) (e : T31) (x : T23) : Prop := (KeyP e.1 → ∃ n, pos o3 e = some n ∧ x = (e.1, e.2.1, (n : Int), ())) ∧ (¬ KeyP e.1 → x = (0, [], 0, ()))

theorem Sig.more {o3 : List T31} {e : T31} {x : T23} (h : Sig o3 e x) (f : T31) : Sig (o3 ++ [f]) e x := ⟨fun hk => by
  obtain ⟨n, h1, h2⟩ := h.1 hk
  exact ⟨n, by rw [pos_app, h1], h2⟩, h.2⟩

/-- What is known while pairs are signed, of each. -/
structure Mks (l : List T31) (o2 : List T23) (o3 : List T31) (j : Nat) : Prop where
  l2 : o2.length = j
  l3 : o3.length ≤ j
  sig : ∀ i (h1 : i < l.length) (h2 : i < o2.length), Sig o3 l[i] o2[i]

theorem Mks.add {l : List T31} {o2 : List T23} {o3 : List T31} {j : Nat} (h : Mks l o2 o3 j) {x : T23} {o3' : List T31} (hx : ∀ hj : j < l.length, Sig o3' l[j] x) (ho : ∀ e y, Sig o3 e y → Sig o3' e y) (hl : o3'.length ≤ j + 1) : Mks l (o2 ++ [x]) o3' (j + 1) where
  l2 := by simp; exact h.l2
  l3 := hl
  sig := fun i h1 h2 => by
    have e := h.l2
    simp only [List.length_append, List.length_singleton] at h2
    by_cases c : i < o2.length
    · rw [List.getElem_append_left c]
      exact ho _ _ (h.sig i h1 c)
    · have hij : i = j := by omega
      subst hij
      rw [List.getElem_append_right (by omega)]
      simp only [List.getElem_singleton]
      exact hx h1

theorem l4_2_eq {R : Type} (l : List T31) (hl : l.length ≤ 40) (k1 : List T31 → List T23 → List T31 → List (T31 × Int) → Option R) (k2 : Option R) : ∀ (m n j : Nat) (o2 : List T23) (o3 : List T31), j + m = l.length → m < n → Mks l o2 o3 j →
    ∃ p q, Mks l p q l.length ∧ l4_2 l k1 k2 n j o3 o2 o3 (zi 0 o3) = k1 q p q (zi 0 q) := by
  intro m
  induction m with
  | zero =>
    intro n j o2 o3 hj hn hM
    obtain ⟨n, rfl⟩ : ∃ m, n = m + 1 := ⟨n - 1, by omega⟩
    unfold l4_2 s4_2
    rw [bifF (decide_eq_false (by omega))]
    exact ⟨o2, o3, by rwa [show l.length = j by omega], rfl⟩
  | succ m ih =>
    intro n j o2 o3 hj hn hM
    obtain ⟨n, rfl⟩ : ∃ m, n = m + 1 := ⟨n - 1, by omega⟩
    have hlt : j < l.length := by omega
    have h2 := hM.l2
    have h3 := hM.l3
    unfold l4_2 s4_2
    rw [bifT (decide_eq_true (by omega)), idx_nat, List.getElem?_eq_getElem hlt, wrapI (x := (j : Int) + 1) (by omega) (by omega)]
    simp only [cont, Option.bind_some, m21_eq, ig31 hlt]
    by_cases hk : KeyP l[j].1
    · obtain ⟨k0, k1'⟩ := hk
      have hkp : KeyP l[j].1 := ⟨k0, k1'⟩
      rw [decide_eq_true hkp, decide_eq_false (show ¬ l[j].1 < 0 by omega)]
      simp only [Bool.not_true, beq_self_eq_true, cond_true, cond_false, Bool.false_or]
      rw [decide_eq_false (show ¬ l[j].1 ≥ 200 by omega)]
      simp only [cond_false]
      have em : mapAt G31 (.int .i64) (l[j].1, l[j].2.1, ()) (zi 0 o3) = (pos o3 l[j]).map fun i => ((0 + i : Nat) : Int) := mapAt_zi _ o3 0
      rw [em]
      cases hp : pos o3 l[j] with
      | none =>
        have hM2 : Mks l (o2 ++ [(l[j].1, l[j].2.1, (o3.length : Int), ())]) (o3 ++ [l[j]]) (j + 1) := hM.add (fun _ => ⟨fun _ => ⟨o3.length, by rw [pos_app, hp]; simp, rfl⟩, fun h => absurd hkp h⟩) (fun e y h => h.more _) (by simp; exact h3)
        obtain ⟨p, q, r1, r2⟩ := ih n (j + 1) _ _ (by omega) (by omega) hM2
        refine ⟨p, q, r1, ?_⟩
        rw [← r2]
        simp only [Option.map_none, Option.isSome_none, Option.isNone_none, Bool.not_false, cond_true]
        rw [asrtP (fun _ => lim (by simp; omega)), asrtT, asrtP (fun _ => lim (by simp; omega))]
        have ez : (zi 0 o3 ++ [((l[j].1, l[j].2.1, ()), (List.length o3 : Int))]) = zi 0 (o3 ++ [l[j]]) := by
          rw [zi_app, Nat.zero_add]
        simp only [ez]
        obtain ⟨y, q1, q2⟩ := l4_1_eq (o1 := o3) hlt (by omega) (fun y17 =>
          bif (!y17) then
            asrt true (decide (List.length (α := T31) o3 + List.length (α := T31) [l[j]] ≤ LIM)) (
              bif ((decide ((o3.length : Int) < 0)) || (decide ((o3.length : Int) ≥ (List.length (o3 ++ [l[j]]) : Int)))) then k2
              else asrt true (decide (0 ≤ (o3.length : Int)) && decide ((o3.length : Int) < (List.length (o3 ++ [l[j]]) : Int))) (
                (((o3 ++ [l[j]]))[((o3.length : Int) : Int).toNat]?).bind fun x20 =>
                bif ((!((x20.1 == l[j].1) && ((x20.2.1 == l[j].2.1) && true))) || ((!y17) && ((o3.length : Int) != (IntKind.i64.wrap ((List.length (o3 ++ [l[j]]) : Int) - 1))))) then k2
                else l4_2 l k1 k2 n ((j : Int) + 1) (o3 ++ [l[j]]) (o2 ++ [(l[j].1, l[j].2.1, (o3.length : Int), ())]) (o3 ++ [(l[j].1, l[j].2.1, ())]) (zi 0 (o3 ++ [l[j]]))))
          else
              bif ((decide ((o3.length : Int) < 0)) || (decide ((o3.length : Int) ≥ (List.length o3 : Int)))) then k2
              else asrt true (decide (0 ≤ (o3.length : Int)) && decide ((o3.length : Int) < (List.length o3 : Int))) (
                ((o3)[((o3.length : Int) : Int).toNat]?).bind fun x20 =>
                bif ((!((x20.1 == l[j].1) && ((x20.2.1 == l[j].2.1) && true))) || ((!y17) && ((o3.length : Int) != (IntKind.i64.wrap ((List.length o3 : Int) - 1))))) then k2
                else l4_2 l k1 k2 n ((j : Int) + 1) o3 (o2 ++ [(l[j].1, l[j].2.1, (o3.length : Int), ())]) (o3 ++ [(l[j].1, l[j].2.1, ())]) (zi 0 (o3 ++ [l[j]])))) o3.length FUEL 0 false (by omega) (fuel_lt (by omega)) (by simp)
        refine Eq.trans q1 ?_
        have hy : y = false := by
          cases y with
          | false => rfl
          | true => exact absurd (q2.1 rfl) (pos_none.1 hp)
        subst hy
        simp only [Bool.not_false, cond_true, List.length_append, List.length_singleton, Int.natCast_add]
        rw [asrtP (fun _ => lim (by omega)), decide_eq_false (show ¬ (o3.length : Int) < 0 by omega), decide_eq_false (show ¬ (o3.length : Int) ≥ (o3.length : Int) + ((1 : Nat) : Int) by omega)]
        simp only [Bool.or_self, cond_false]
        rw [asrtP (fun _ => by simp only [Bool.and_eq_true, decide_eq_true_eq]; omega), Int.toNat_natCast, List.getElem?_append_right (Nat.le_refl _)]
        simp only [Nat.sub_self, List.getElem?_cons_zero, Option.bind_some, beq_self_eq_true, Bool.and_self, Bool.not_true, Bool.false_or, Bool.true_and]
        rw [wrapI (by omega) (by omega), bifF]
        · rfl
        · rw [show (o3.length : Int) + ((1 : Nat) : Int) - 1 = (o3.length : Int) by omega]; exact bne_same _
      | some i =>
        obtain ⟨hi, hg⟩ := pos_get hp
        have hM2 : Mks l (o2 ++ [(l[j].1, l[j].2.1, (i : Int), ())]) o3 (j + 1) := hM.add (fun _ => ⟨fun _ => ⟨i, hp, rfl⟩, fun h => absurd hkp h⟩) (fun e y h => h) (by omega)
        obtain ⟨p, q, r1, r2⟩ := ih n (j + 1) _ _ (by omega) (by omega) hM2
        refine ⟨p, q, r1, ?_⟩
        rw [← r2]
        simp only [Option.map_some, Option.isSome_some, Bool.not_true, cond_false, Option.getD_some, Nat.zero_add]
        rw [asrtP (fun _ => lim (by simp; omega))]
        obtain ⟨y, q1, q2⟩ := l4_1_eq (o1 := o3) hlt (by omega) (fun y17 =>
          bif (!y17) then
            asrt true (decide (List.length (α := T31) o3 + List.length (α := T31) [l[j]] ≤ LIM)) (
              bif ((decide ((i : Int) < 0)) || (decide ((i : Int) ≥ (List.length (o3 ++ [l[j]]) : Int)))) then k2
              else asrt true (decide (0 ≤ (i : Int)) && decide ((i : Int) < (List.length (o3 ++ [l[j]]) : Int))) (
                (((o3 ++ [l[j]]))[((i : Int) : Int).toNat]?).bind fun x20 =>
                bif ((!((x20.1 == l[j].1) && ((x20.2.1 == l[j].2.1) && true))) || ((!y17) && ((i : Int) != (IntKind.i64.wrap ((List.length (o3 ++ [l[j]]) : Int) - 1))))) then k2
                else l4_2 l k1 k2 n ((j : Int) + 1) (o3 ++ [l[j]]) (o2 ++ [(l[j].1, l[j].2.1, (i : Int), ())]) o3 (zi 0 o3)))
          else
              bif ((decide ((i : Int) < 0)) || (decide ((i : Int) ≥ (List.length o3 : Int)))) then k2
              else asrt true (decide (0 ≤ (i : Int)) && decide ((i : Int) < (List.length o3 : Int))) (
                ((o3)[((i : Int) : Int).toNat]?).bind fun x20 =>
                bif ((!((x20.1 == l[j].1) && ((x20.2.1 == l[j].2.1) && true))) || ((!y17) && ((i : Int) != (IntKind.i64.wrap ((List.length o3 : Int) - 1))))) then k2
                else l4_2 l k1 k2 n ((j : Int) + 1) o3 (o2 ++ [(l[j].1, l[j].2.1, (i : Int), ())]) o3 (zi 0 o3))) o3.length FUEL 0 false (by omega) (fuel_lt (by omega)) (by simp)
        refine Eq.trans q1 ?_
        have hy : y = true := q2.2 (pos_mem.1 ⟨i, hp⟩)
        subst hy
        simp only [Bool.not_true, cond_false]
        rw [decide_eq_false (show ¬ (i : Int) < 0 by omega), decide_eq_false (show ¬ (i : Int) ≥ (o3.length : Int) by omega)]
        simp only [Bool.or_self, cond_false]
        rw [asrtP (fun _ => by simp only [Bool.and_eq_true, decide_eq_true_eq]; omega), Int.toNat_natCast, List.getElem?_eq_getElem hi]
        simp only [Option.bind_some, hg, beq_self_eq_true, Bool.and_self, Bool.not_true, Bool.false_or, Bool.false_and, cond_false]
        rfl
    · rw [decide_eq_false hk]
      simp only [Bool.not_false, cond_true]
      have hc : (decide (l[j].1 < 0) || decide (((bif (decide (l[j].1 < 0) == false) then l[j] else ((0, [], ()) : T31)) : T31).1 ≥ 200)) = true := by
        unfold KeyP at hk
        by_cases h0 : l[j].1 < 0
        · rw [decide_eq_true h0]; rfl
        · rw [decide_eq_false h0]
          simp only [beq_self_eq_true, cond_true, Bool.false_or]
          exact decide_eq_true (by omega)
      rw [hc, asrtP (fun _ => lim (by simp; omega))]
      simp only [cond_true]
      have hM2 : Mks l (o2 ++ [(0, [], 0, ())]) o3 (j + 1) := hM.add (fun _ => ⟨fun h => absurd h hk, fun _ => rfl⟩) (fun e y h => h) (by omega)
      obtain ⟨p, q, r1, r2⟩ := ih n (j + 1) _ _ (by omega) (by omega) hM2
      exact ⟨p, q, r1, r2⟩

theorem l4_3_eq {R : Type} (l : List T31) (hl : l.length ≤ 40) {o2 : List T23} {o3 : List T31} (hM : Mks l o2 o3 l.length) (k1 : List T31 → List (T31 × Int) → Option R) (k2 : Option R) : ∀ (m n j : Nat), j + m = l.length → m < n →
    l4_3 l o2 k1 k2 n j o3 (zi 0 o3) = k1 o3 (zi 0 o3) := by
  intro m
  induction m with
  | zero =>
    intro n j hj hn
    obtain ⟨n, rfl⟩ : ∃ m, n = m + 1 := ⟨n - 1, by omega⟩
    unfold l4_3 s4_3
    rw [bifF (decide_eq_false (by omega))]
  | succ m ih =>
    intro n j hj hn
    obtain ⟨n, rfl⟩ : ∃ m, n = m + 1 := ⟨n - 1, by omega⟩
    have hlt : j < l.length := by omega
    have h2 := hM.l2
    have hlt2 : j < o2.length := by omega
    obtain ⟨s1, s2⟩ := hM.sig j hlt hlt2
    unfold l4_3 s4_3
    rw [bifT (decide_eq_true (by omega)), idx_nat, List.getElem?_eq_getElem hlt, wrapI (x := (j : Int) + 1) (by omega) (by omega)]
    simp only [Option.bind_some, m21_eq]
    have e := ih n (j + 1) (by omega) (by omega)
    by_cases hk : KeyP l[j].1
    · obtain ⟨i, hp, hx⟩ := s1 hk
      rw [decide_eq_true hk]
      simp only [Bool.not_true, cond_false]
      have em : mapAt G31 (.int .i64) (l[j].1, l[j].2.1, ()) (zi 0 o3) = (pos o3 l[j]).map fun i => ((0 + i : Nat) : Int) := mapAt_zi _ o3 0
      rw [em, hp]
      simp only [Option.map_some, Option.isSome_some, Bool.not_true, cond_false, Option.getD_some, Nat.zero_add]
      rw [asrtP (fun _ => by simp only [Bool.and_eq_true, decide_eq_true_eq]; omega), Int.toNat_natCast, List.getElem?_eq_getElem hlt2]
      simp only [Option.bind_some, hx, beq_self_eq_true, Bool.and_self, Bool.not_true, cond_false]
      exact e
    · rw [decide_eq_false hk]
      simp only [Bool.not_false, cond_true]
      rw [asrtP (fun _ => by simp only [Bool.and_eq_true, decide_eq_true_eq]; omega), Int.toNat_natCast, List.getElem?_eq_getElem hlt2]
      simp only [Option.bind_some, s2 hk, beq_self_eq_true, Bool.and_self, Bool.not_true, cond_false]
      exact e

theorem sealMarks (l : List T31) : m4 l = some true := by
  unfold m4
  rw [small7]
  simp only [Option.bind_some]
  obtain ⟨b, eb, hb⟩ := m9_eq l
  rw [eb]
  simp only [Option.bind_some]
  cases b with
  | false => rfl
  | true =>
    have hl := hb rfl
    simp only [Bool.not_true, cond_false]
    obtain ⟨p, q, r1, r2⟩ := l4_2_eq l hl (fun y30 y31 y32 y33 =>
        (cloneM y32).bind fun r34 =>
        (m12 r34 y30).bind fun r35 =>
        bif (!r35) then
          some false
        else
          l4_3 l y31 (fun y42 y43 =>
                (cloneM y42).bind fun r44 =>
                (m12 r44 y30).bind fun r45 =>
                some r45) (
              some false) FUEL 0 y32 y33) (some false) l.length FUEL 0 [] [] (by omega) (fuel_lt (by omega)) ⟨rfl, by simp, fun i h1 h2 => absurd h2 (Nat.not_lt_zero _)⟩
    have h3 := r1.l3
    refine Eq.trans r2 ?_
    rw [cloneM_eq (by omega)]
    simp only [Option.bind_some]
    rw [m12_eq _ _ (by omega)]
    simp only [Option.bind_some, decide_true, Bool.not_true, cond_false]
    refine Eq.trans (l4_3_eq l hl r1 _ _ l.length FUEL 0 (by omega) (fuel_lt (by omega))) ?_
    rw [cloneM_eq (by omega)]
    simp only [Option.bind_some]
    rw [m12_eq _ _ (by omega)]
    simp

end Go.Proofs.Ytmkhnmkbohckbaa
