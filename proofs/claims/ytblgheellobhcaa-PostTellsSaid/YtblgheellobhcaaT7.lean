/- PostTells, plainly. -/
import Derived.Test.YtblgheellobhcaaT6
namespace Go.Proofs.Ytblgheellobhcaa
open Go Go.Eng
set_option linter.unusedVariables false
set_option linter.unusedSimpArgs false

/-- The first j of n. -/
def firstN (n j : Nat) : List Bool := List.replicate j true ++ List.replicate (n - j) false

theorem firstN_len {n j : Nat} (h : j ≤ n) : (firstN n j).length = n := by simp [firstN]; omega
theorem firstN_set {n j : Nat} (h : j < n) : (firstN n j).set j true = firstN n (j + 1) := by
  apply List.ext_getElem?
  intro i
  simp only [firstN, List.getElem?_set, List.getElem?_append, List.length_replicate, List.getElem?_replicate, List.length_append]
  repeat' split
  all_goals first
    | rfl
    | omega
theorem firstN_is {n j i : Nat} (h : j ≤ n) : isH (firstN n j) i = decide (i < j) := by
  simp only [isH, firstN, List.getD_eq_getElem?_getD, List.getElem?_append, List.length_replicate, List.getElem?_replicate]
  by_cases c : i < j
  · simp [c]
  · rw [if_neg c, decide_eq_false c]
    split <;> rfl

theorem l3_1_eq {R : Type} (n a : Nat) (h : a ≤ n) (hn : n ≤ 10000) (k : List Bool → Option R) : l3_1 (a : Int) k FUEL 0 (List.replicate n false) = k (firstN n a) := by
  have e0 : List.replicate n false = firstN n 0 := by simp [firstN]
  rw [e0]
  refine seq_loop a (firstN n) (fun m j s => l3_1 (a : Int) k m j s) k (by omega) (fun m j hj => ?_) (fun m => ?_)
  · show s3_1 _ _ _ _ _ = _
    unfold s3_1
    have hl := firstN_len (n := n) (j := j) (by omega)
    rw [bifT (lt1 hj), show (decide (0 ≤ (j : Int)) && decide ((j : Int) < (List.length (firstN n j) : Int))) = true from rng (by omega), asrtT, Int.toNat_natCast, List.getElem?_eq_getElem (by omega)]
    simp only [Option.bind_some]
    rw [firstN_set (by omega), wrapI (by omega) (by omega)]
  · show s3_1 _ _ _ _ _ = _
    unfold s3_1
    rw [bifF (lt0 _)]

def setAll : List Bool → List Int → List Bool
  | B, [] => B
  | B, x :: l => setAll (B.set x.toNat true) l
theorem setAll_len : ∀ (l : List Int) (B : List Bool), (setAll B l).length = B.length
  | [], B => rfl
  | x :: l, B => by rw [setAll, setAll_len l]; simp
theorem setAll_is : ∀ (l : List Int) (B : List Bool) (i : Nat), (∀ x ∈ l, 0 ≤ x ∧ x < (B.length : Int)) → (isH (setAll B l) i = true ↔ isH B i = true ∨ (i : Int) ∈ l)
  | [], B, i, _ => by simp [setAll]
  | x :: l, B, i, h => by
    have hx := h x (by simp)
    rw [setAll, setAll_is l _ i (fun y hy => by have := h y (by simp [hy]); simpa using this), isH_set (by omega), List.mem_cons]
    constructor
    · rintro (e | e)
      · split at e
        · exact .inr (.inl (by omega))
        · exact .inl e
      · exact .inr (.inr e)
    · rintro (e | e | e)
      · exact .inl (by split; rfl; exact e)
      · exact .inl (by rw [if_pos (by omega)])
      · exact .inr e

theorem gI_drop {l : List Int} {j : Nat} (h : j < l.length) : l.drop j = gI l j :: l.drop (j + 1) := by
  rw [List.drop_eq_getElem_cons h]
  congr 1
  simp [gI, h]

theorem l3_2_eq {R : Type} (S : List T35) (a : Nat) (l : List Int) (hl : l.length ≤ 30) (hS : S.length ≤ 30) (k1 : List Bool → Option R) (k2 : Option R) : ∀ (n j : Nat) (last : Int) (B : List Bool), j ≤ l.length → l.length - j < n → B.length = S.length → (a : Int) ≤ last →
    (j = 0 → last = a) → (0 < j → last = gI l (j - 1)) →
    l3_2 S (a : Int) l k1 k2 n (j : Int) B = bif rightB (S.length : Int) last (l.drop j) then k1 (setAll B (l.drop j)) else k2
  | 0, j, last, B, _, h, _, _, _, _ => by omega
  | n + 1, j, last, B, hj, hn, hB, ha, h0, h1 => by
    show s3_2 S (a : Int) l (l3_2 S (a : Int) l k1 k2 n) k1 k2 (j : Int) B = _
    unfold s3_2
    rcases Nat.lt_or_ge j l.length with c | c
    · have hx := gI_get c
      have hp : ∀ (g : Bool), (g = true → 0 < j) → idxG g 0 l (bif decide (0 > (IntKind.i64.wrap ((j : Int) - 1))) then 0 else (IntKind.i64.wrap ((j : Int) - 1))) = some (bif g then last else 0) := by
        intro g hg
        cases g with
        | false => rfl
        | true =>
          have hj0 := hg rfl
          rw [wrapI (by omega) (by omega), bifF (decide_eq_false (by omega)), show (j : Int) - 1 = ((j - 1 : Nat) : Int) by omega]
          exact idxG_in (by rw [h1 hj0]; exact gI_get (by omega)) true 0
      rw [bifT (lt1 c)]
      simp only [idxG_in hx, idx_nat, hx, Option.bind_some]
      rw [hp _ (by intro e; rw [Bool.and_eq_true] at e; have := e.2; simp at this; omega)]
      simp only [Option.bind_some]
      rw [gI_drop c, rightB]
      generalize gI l j = x at *
      rw [wrapI (x := (j : Int) + 1) (by omega) (by omega)]
      by_cases c1 : x ≤ (a : Int)
      · rw [bifT (by rw [decide_eq_true c1]; rfl)]
        have : decide (x ≤ last) = true := decide_eq_true (by omega)
        rw [this]; rfl
      · have e1 : decide (x ≤ (a : Int)) = false := decide_eq_false c1
        rw [e1]
        simp only [beq_self_eq_true, cond_true, Bool.false_or]
        by_cases c2 : x ≥ (S.length : Int)
        · have e2 : decide (x ≥ (S.length : Int)) = true := decide_eq_true c2
          rw [e2]
          simp only [Bool.true_or, cond_true, Bool.or_true, Bool.not_true, Bool.false_and, cond_false]
        · have e2 : decide (x ≥ (S.length : Int)) = false := decide_eq_false c2
          rw [e2]
          simp only [beq_self_eq_true, Bool.false_or, Bool.true_and, Bool.or_false]
          have rest : (asrt true (decide (0 ≤ x) && decide (x < (List.length B : Int))) (
                ((B)[(x : Int).toNat]?).bind fun x14 =>
                l3_2 S (a : Int) l k1 k2 n ((j : Int) + 1) (List.set B (x : Int).toNat true))) = bif rightB (S.length : Int) x (l.drop (j + 1)) then k1 (setAll (B.set x.toNat true) (l.drop (j + 1))) else k2 := by
            rw [show (decide (0 ≤ x) && decide (x < (List.length B : Int))) = true from by rw [decide_eq_true (by omega), decide_eq_true (by omega)]; rfl, asrtT, List.getElem?_eq_getElem (by omega)]
            simp only [Option.bind_some]
            have := l3_2_eq S a l hl hS k1 k2 n (j + 1) x (B.set x.toNat true) (by omega) (by omega) (by simpa using hB) (by omega) (by omega) (fun _ => by
              rw [gI_get c] at hx
              exact (Option.some.inj hx).symm)
            rw [Int.natCast_add, Int.natCast_one] at this
            exact this
          rcases Nat.eq_zero_or_pos j with hj0 | hj0
          · have e3 : decide ((j : Int) > 0) = false := decide_eq_false (by omega)
            rw [e3]
            simp only [Bool.false_and, cond_false]
            rw [show decide (x ≤ last) = false from decide_eq_false (by rw [h0 hj0]; exact c1)]
            simp only [Bool.not_false, Bool.true_and, setAll]
            exact rest
          · have e3 : decide ((j : Int) > 0) = true := decide_eq_true (by omega)
            rw [e3]
            simp only [beq_self_eq_true, cond_true, Bool.true_and]
            by_cases c3 : x ≤ last
            · rw [bifT (decide_eq_true c3), decide_eq_true c3]; rfl
            · rw [bifF (decide_eq_false c3), decide_eq_false c3]
              simp only [Bool.not_false, Bool.true_and, setAll]
              exact rest
    · have : j = l.length := by omega
      subst this
      rw [bifF (lt0 _), List.drop_length]
      rfl

/-- Both are looked at after each thing. -/
theorem tells_tail {R : Type} {S : List T35} {H : List Bool} (h : H.length = S.length) (h2 : S.length ≤ 100) (k : Int → T26 → List T35 → List Bool → Option R) (k2 : Option R) (i : Int) :
    ((m16 (enc S H).1 S).bind fun r37 =>
    (bif ((!r37) == false) then (m17 (S, H, ())) else some 0).bind fun r38 =>
    (bif (((!r37) || ((enc S H).2.1 != r38)) == false) then (m19 (S, H, ())) else some ([] : (List Int))).bind fun r39 =>
    (bif (((!r37) || ((enc S H).2.1 != r38)) == false) then (m18 (enc S H).2.2.1 r39) else some false).bind fun r40 =>
    (bif ((((!r37) || ((enc S H).2.1 != r38)) || (!r40)) == false) then (m13 (enc S H)) else some ([] : (List Int))).bind fun r41 =>
    (bif ((((!r37) || ((enc S H).2.1 != r38)) || (!r40)) == false) then (m20 (S, H, ())) else some ([] : (List Int))).bind fun r42 =>
    (bif ((((!r37) || ((enc S H).2.1 != r38)) || (!r40)) == false) then (m18 r41 r42) else some false).bind fun r43 =>
    (bif (((((!r37) || ((enc S H).2.1 != r38)) || (!r40)) || (!r43)) == false) then (m12 (enc S H)) else some ([] : (List T35))).bind fun r44 =>
    (bif (((((!r37) || ((enc S H).2.1 != r38)) || (!r40)) || (!r43)) == false) then (m17 (S, H, ())) else some 0).bind fun r45 =>
    asrt (((((!r37) || ((enc S H).2.1 != r38)) || (!r40)) || (!r43)) == false) (bounds true (List.length (α := T35) S) r45 ((List.length (α := T35) S) : Int)) (
      (bif (((((!r37) || ((enc S H).2.1 != r38)) || (!r40)) || (!r43)) == false) then (m16 r44 (List.take ((List.length (α := T35) S) - (Int.toNat r45)) (List.drop (Int.toNat r45) S))) else some false).bind fun r46 =>
      bif (((((!r37) || ((enc S H).2.1 != r38)) || (!r40)) || (!r43)) || (!r46)) then
        k2
      else
        k i (enc S H) S H)) = k i (enc S H) S H := by
  have hn := nx_le H
  have e1 : m16 (enc S H).1 S = some true := m16_refl S (by omega)
  have e2 : ((enc S H).2.1 != (nx H : Int)) = false := bne_same _
  have e3 : m18 (enc S H).2.2.1 (ea H) = some true := m18_refl (ea H) (by have := eaC_len H (nx H); show (eaC H (nx H)).length ≤ _; omega)
  rw [e1, m17_eq S H h (by omega), m19_eq S H h (by omega), m13_eq h (by omega), m20_eq S H h (by omega), m12_eq h (by omega)]
  simp only [Option.bind_some, Bool.not_true, beq_self_eq_true, cond_true, e2, e3, Bool.or_false]
  rw [m18_refl (ag H) (by have := ag_len H; omega)]
  simp only [Option.bind_some, Bool.not_true, beq_self_eq_true, cond_true, e2, e3, Bool.or_false]
  rw [show bounds true (List.length (α := T35) S) (nx H : Int) ((List.length (α := T35) S) : Int) = true from by
    simp only [bounds, Bool.and_eq_true, decide_eq_true_eq]
    refine ⟨⟨?_, ?_⟩, ?_⟩ <;> omega, asrtT, Int.toNat_natCast, List.take_of_length_le (Nat.le_of_eq List.length_drop), m16_refl _ (by rw [List.length_drop]; omega)]
  simp only [Option.bind_some, Bool.not_true, Bool.or_false, cond_false]

theorem tells_step {R : Type} (a : List T41) (kn : Int → T26 → List T35 → List Bool → Option R) (k1 k2 : Option R) (j : Nat) (hj : j < a.length) (ha : a.length ≤ 40) (S : List T35) (H : List Bool) (h : H.length = S.length) (hS : S.length ≤ 30 + j) :
    ∃ (S' : List T35) (H' : List Bool), H'.length = S'.length ∧ S'.length ≤ 30 + (j + 1) ∧ s3_3 a kn k1 k2 (j : Int) (enc S H) S H = kn ((j : Int) + 1) (enc S' H') S' H' := by
  have hn := nx_le H
  obtain ⟨x, hx⟩ : ∃ x, a[j]? = some x := ⟨a[j], List.getElem?_eq_getElem hj⟩
  unfold s3_3
  simp only [bifT (lt1 hj), idx_nat, hx, Option.bind_some, wrapI (x := (j : Int) + 1) (by omega) (by omega)]
  by_cases c0 : x.1 = 0
  · refine ⟨S ++ [x.2.2.1], H ++ [false], by simp [h], by simp; omega, Eq.trans (cont_eq (enc (S ++ [x.2.2.1]) (H ++ [false]), S ++ [x.2.2.1], H ++ [false]) (fun k => ?_)) (tells_tail (by simp [h]) (by simp; omega) kn k2 _)⟩
    rw [bifT (beq_iff_eq.2 c0), m10_eq h (by omega)]
    simp only [Option.bind_some]
    rw [bifF (decide_eq_false (show ¬ ((List.length S : Int) ≥ 10000) by omega)), limT (by simp; omega), asrtT,
      show decide (List.length (α := Bool) H + List.length (α := Bool) [false] ≤ LIM) = true from decide_eq_true (by unfold LIM; simp only [List.length_cons, List.length_nil]; omega), asrtT]
    rfl
  · have hc0 : (x.1 == 0) = false := by simpa using c0
    by_cases hq : x.2.1 < 0 ∨ (S.length : Int) ≤ x.2.1
    · refine ⟨S, H, h, by omega, Eq.trans (cont_eq (enc S H, S, H) (fun k => ?_)) (tells_tail h (by omega) kn k2 _)⟩
      rw [bifF hc0, m11_out h (by omega) hq]
      simp only [Option.bind_some]
      rw [bifT (by
        rw [Bool.or_eq_true, decide_eq_true_eq, decide_eq_true_eq]
        exact hq)]
      show (m16 [] []).bind _ = _
      rw [m16_refl [] (by simp)]
      rfl
    · obtain ⟨q, hq'⟩ : ∃ q : Nat, x.2.1 = q := ⟨x.2.1.toNat, by omega⟩
      rw [hq']
      have hqs : q < S.length := by omega
      have hr : (decide ((q : Int) < 0) || decide ((q : Int) ≥ (List.length S : Int))) = false := by
        rw [Bool.or_eq_false_iff]
        exact ⟨decide_eq_false (by omega), decide_eq_false (by omega)⟩
      have hg : (H)[((q : Int)).toNat]? = some (isH H q) := by rw [Int.toNat_natCast]; exact isH_get (by omega)
      have hin : (decide (0 ≤ (q : Int)) && decide ((q : Int) < (List.length H : Int))) = true := rng (by omega)
      cases hb : isH H q with
      | true =>
        refine ⟨S, H, h, by omega, Eq.trans (cont_eq (enc S H, S, H) (fun k => ?_)) (tells_tail h (by omega) kn k2 _)⟩
        rw [bifF hc0, m11_twice h (by omega) hb]
        simp only [Option.bind_some]
        rw [bifF hr, hin, asrtT, hg, hb]
        simp only [Option.bind_some, cond_true]
        show (m16 [] []).bind _ = _
        rw [m16_refl [] (by simp)]
        rfl
      | false =>
        have hlH : q < H.length := by omega
        have hh : (H.set q true).length = S.length := by simpa using h
        have hnn := nx_mono hlH
        have hn2 := nx_le (H.set q true)
        refine ⟨S, H.set q true, hh, by omega, Eq.trans (cont_eq (enc S (H.set q true), S, H.set q true) (fun k => ?_)) (tells_tail hh (by omega) kn k2 _)⟩
        rw [bifF hc0, m11_ok h (by omega) hqs hb]
        simp only [Option.bind_some]
        rw [bifF hr, hin, asrtT, hg, hb]
        simp only [Option.bind_some, cond_false]
        rw [m17_eq S H h (by omega)]
        simp only [Option.bind_some]
        rw [Int.toNat_natCast]
        rw [m17_eq S (H.set q true) hh (by omega)]
        simp only [Option.bind_some]
        rw [show bounds true (List.length (α := T35) S) (nx H : Int) (nx (H.set q true) : Int) = true from by
          simp only [bounds, Bool.and_eq_true, decide_eq_true_eq]
          refine ⟨⟨?_, ?_⟩, ?_⟩ <;> omega, asrtT, Int.toNat_natCast, Int.toNat_natCast]
        rw [show decide (List.length (α := T35) (List.take (nx (H.set q true) - nx H) (List.drop (nx H) S)) ≤ LIM) = true from decide_eq_true (by unfold LIM; rw [List.length_take, List.length_drop]; omega), asrtT]
        show (m16 _ _).bind _ = _
        rw [m16_refl _ (by rw [List.length_take, List.length_drop]; omega)]
        rfl

theorem tells_loop {R : Type} (a : List T41) (ha : a.length ≤ 40) (k1 k2 : Option R) : ∀ (n j : Nat) (S : List T35) (H : List Bool), j ≤ a.length → a.length - j < n → H.length = S.length → S.length ≤ 30 + j →
    l3_3 a k1 k2 n (j : Int) (enc S H) S H = k1
  | 0, j, S, H, _, h, _, _ => by omega
  | n + 1, j, S, H, hj, hn, h, hS => by
    show s3_3 a (l3_3 a k1 k2 n) k1 k2 (j : Int) (enc S H) S H = k1
    rcases Nat.lt_or_ge j a.length with c | c
    · obtain ⟨S', H', e1, e2, e3⟩ := tells_step a (l3_3 a k1 k2 n) k1 k2 j c ha S H h hS
      rw [e3]
      exact tells_loop a ha k1 k2 n (j + 1) S' H' (by omega) (by omega) e1 e2
    · unfold s3_3
      rw [bifF (decide_eq_false (by omega))]

theorem bad_way {w : T26} (h : m9 w = some false) {R : Type} (k2 : Option R) (K : Bool → Option R) :
    ((m9 w).bind fun r16 =>
                  bif (!(r16 == false)) then
                    k2
                  else
                    (m10 w (0, 0, 0, 0, 0, ())).bind fun r17 =>
                    (m11 w 0).bind fun r18 =>
                    (bif (((true && (r17.2.1 == 1)) && (r18.2.2.1 == 1)) == true) then (m12 w) else some ([] : (List T35))).bind fun r19 =>
                    (bif (((true && (r17.2.1 == 1)) && (r18.2.2.1 == 1)) == true) then (m13 w) else some ([] : (List Int))).bind fun r20 =>
                    K (((true && (r17.2.1 == 1)) && (r18.2.2.1 == 1)) && ((IntKind.i64.wrap ((IntKind.i64.wrap ((List.length r18.2.1 : Int) + (List.length r19 : Int))) + (List.length r20 : Int))) == 0))) = K true := by
  rw [h, m10_bad h, m11_bad h, m12_bad h, m13_bad h]
  rfl

theorem postTells (S : List T35) (nxt : Int) (early : List Int) (a : List T41) : m3 S nxt early a = some true := by
  unfold m3
  rw [small_true]
  simp only [Option.bind_some]
  cases hc : ((decide ((List.length S : Int) > 30) || decide ((List.length early : Int) > 30)) || decide ((List.length a : Int) > 40)) with
  | true => rfl
  | false =>
    rw [Bool.or_eq_false_iff, Bool.or_eq_false_iff, decide_eq_false_iff_not, decide_eq_false_iff_not, decide_eq_false_iff_not] at hc
    obtain ⟨⟨c1, c2⟩, c3⟩ := hc
    have d1 : S.length ≤ 30 := by omega
    have d2 : early.length ≤ 30 := by omega
    have d3 : a.length ≤ 40 := by omega
    rw [cond_false]
    have h9 : m9 (S, nxt, early, ()) = some (rightW (S, nxt, early, ())) := m9_eq _ (by show early.length < _; omega)
    cases hp : preB (S, nxt, early, ()) with
    | false =>
      have hr : rightW (S, nxt, early, ()) = false := by unfold rightW; rw [hp]; rfl
      rw [hr] at h9
      rw [bifT (by unfold preB at hp; simpa only [Bool.not_eq_false'] using hp)]
      exact bad_way h9 (some false) some
    | true =>
      have hpp := hp
      simp only [preB, Bool.not_eq_true'] at hpp
      rw [bifF hpp]
      rw [Bool.or_eq_false_iff, Bool.or_eq_false_iff] at hpp
      obtain ⟨⟨_, n1⟩, n2⟩ := hpp
      have n1 := of_decide_eq_false n1
      have n2 := of_decide_eq_false n2
      obtain ⟨n, rfl⟩ : ∃ n : Nat, nxt = n := ⟨nxt.toNat, by omega⟩
      have hnS : n ≤ S.length := by omega
      rw [show decide (List.length (α := T35) S ≤ LIM) = true from decide_eq_true (by unfold LIM; omega), asrtT,
        show (decide (0 ≤ (List.length S : Int)) && decide ((List.length S : Int) ≤ (List.length S : Int)) && decide ((List.length S : Int) ≤ (LIM : Int))) = true from by
          rw [decide_eq_true (by omega), decide_eq_true (by omega), decide_eq_true (by unfold LIM; omega)]; rfl, asrtT, Int.toNat_natCast]
      rw [l3_1_eq S.length n hnS (by omega)]
      have hl := l3_2_eq S n early d2 d1 (fun y15 =>
                  (m9 (S, (n : Int), early, ())).bind fun r21 =>
                  bif (!(r21 == true)) then
                    some false
                  else
                    l3_3 a (
                        some true) (
                        some false) FUEL 0 (S, (n : Int), early, ()) S y15) (
                  (m9 (S, (n : Int), early, ())).bind fun r16 =>
                  bif (!(r16 == false)) then
                    some false
                  else
                    (m10 (S, (n : Int), early, ()) (0, 0, 0, 0, 0, ())).bind fun r17 =>
                    (m11 (S, (n : Int), early, ()) 0).bind fun r18 =>
                    (bif (((true && (r17.2.1 == 1)) && (r18.2.2.1 == 1)) == true) then (m12 (S, (n : Int), early, ())) else some ([] : (List T35))).bind fun r19 =>
                    (bif (((true && (r17.2.1 == 1)) && (r18.2.2.1 == 1)) == true) then (m13 (S, (n : Int), early, ())) else some ([] : (List Int))).bind fun r20 =>
                    some (((true && (r17.2.1 == 1)) && (r18.2.2.1 == 1)) && ((IntKind.i64.wrap ((IntKind.i64.wrap ((List.length r18.2.1 : Int) + (List.length r19 : Int))) + (List.length r20 : Int))) == 0)))
                  FUEL 0 n (firstN S.length n) (by omega) (fuel_lt (by omega)) (firstN_len hnS) (Int.le_refl _) (fun _ => rfl) (fun h => absurd h (by omega))
      refine Eq.trans hl ?_
      rw [List.drop_zero]
      cases hrb : rightB (S.length : Int) (n : Int) early with
      | false =>
        have hr : rightW (S, (n : Int), early, ()) = false := by unfold rightW; rw [show rightB (List.length (S, (n : Int), early, ()).1 : Int) (S, (n : Int), early, ()).2.1 (S, (n : Int), early, ()).2.2.1 = false from hrb, Bool.and_false]
        rw [hr] at h9
        exact bad_way h9 (some false) some
      | true =>
        have hr : rightW (S, (n : Int), early, ()) = true := by unfold rightW; rw [show rightB (List.length (S, (n : Int), early, ()).1 : Int) (S, (n : Int), early, ()).2.1 (S, (n : Int), early, ()).2.2.1 = true from hrb, hp]; rfl
        rw [hr] at h9
        rw [cond_true, h9]
        simp only [Option.bind_some]
        have hin := ((rightB_iff _ _ _).1 hrb).1
        have hH : (setAll (firstN S.length n) early).length = S.length := by rw [setAll_len, firstN_len hnS]
        have he : (S, (n : Int), early, ()) = enc S (setAll (firstN S.length n) early) := enc_of (w := (S, (n : Int), early, ())) hr hH (fun i => by
          rw [setAll_is early _ i (fun x hx => by rw [firstN_len hnS]; have := hin x hx; omega), firstN_is hnS, decide_eq_true_eq]
          constructor
          · rintro (e | e)
            · exact .inl (by show (i : Int) < (n : Int); omega)
            · exact .inr e
          · rintro (e | e)
            · exact .inl (by have : (i : Int) < (n : Int) := e; omega)
            · exact .inr e)
        rw [he]
        exact tells_loop a d3 (some true) (some false) FUEL 0 S _ (by omega) (fuel_lt (by omega)) hH (by omega)

end Go.Proofs.Ytblgheellobhcaa
