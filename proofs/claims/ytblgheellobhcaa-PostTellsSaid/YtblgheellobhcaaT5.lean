/- PostOnce and PostLater, plainly. -/
import Derived.Test.YtblgheellobhcaaT4
namespace Go.Proofs.Ytblgheellobhcaa
open Go Go.Eng
set_option linter.unusedVariables false
set_option linter.unusedSimpArgs false

theorem idxG_in {α : Type} {l : List α} {j : Nat} {x : α} (h : l[j]? = some x) (g : Bool) (d : α) : idxG g d l (j : Int) = some (bif g then x else d) := by
  unfold idxG
  rw [idx_nat, h]
  cases g <;> rfl

theorem limT {a b : List T35} (h : a.length + b.length ≤ 1000000) : decide (List.length (α := T35) a + List.length (α := T35) b ≤ LIM) = true := decide_eq_true (by unfold LIM; omega)

theorem take_app {S : List T35} {e : List T35} {n : Nat} (h : n ≤ S.length) : (S ++ e).take n = S.take n := by
  rw [List.take_append_of_le_length h]

theorem nx_mono {H : List Bool} {q : Nat} (hlH : q < H.length) : nx H ≤ nx (H.set q true) := by
  rcases Nat.lt_or_ge (nx (H.set q true)) (nx H) with c2 | c2
  · have e1 := nx_here H _ c2
    have e2 := nx_not (H.set q true)
    rw [isH_set hlH] at e2
    split at e2
    · cases e2
    · rw [e1] at e2; cases e2
  · exact c2

/-- What is checked of a way after each thing. -/
theorem once_tail {R : Type} {S : List T35} {H : List Bool} (h : H.length = S.length) (h2 : S.length ≤ 10000) (k k2 : Option R) :
    ((bif ((decide ((List.length (S.take (nx H)) : Int) > (List.length S : Int))) == false) then (m9 (enc S H)) else some false).bind fun r11 =>
          bif ((decide ((List.length (S.take (nx H)) : Int) > (List.length S : Int))) || (!r11)) then
            k2
          else
            asrt true (bounds true (List.length (α := T35) S) 0 (List.length (S.take (nx H)) : Int)) (
              (m16 (S.take (nx H)) (List.take (Int.toNat (List.length (S.take (nx H)) : Int)) (List.drop 0 S))).bind fun r12 =>
              (bif ((!r12) == false) then (m12 (enc S H)) else some ([] : (List T35))).bind fun r13 =>
              asrt ((!r12) == false) (bounds true (List.length (α := T35) S) (List.length (S.take (nx H)) : Int) ((List.length (α := T35) S) : Int)) (
                (bif ((!r12) == false) then (m16 r13 (List.take ((List.length (α := T35) S) - (Int.toNat (List.length (S.take (nx H)) : Int))) (List.drop (Int.toNat (List.length (S.take (nx H)) : Int)) S))) else some false).bind fun r14 =>
                bif ((!r12) || (!r14)) then
                  k2
                else
                  k))) = k := by
  have hn := nx_le H
  have hl : (S.take (nx H)).length = nx H := by rw [List.length_take]; omega
  rw [hl, m9_enc h h2, decide_eq_false (show ¬ ((nx H : Int) > (S.length : Int)) by omega)]
  simp only [beq_self_eq_true, cond_true, Option.bind_some, Bool.not_true, Bool.or_false, cond_false]
  rw [show bounds true (List.length (α := T35) S) 0 (nx H : Int) = true from by
    simp only [bounds, Bool.and_eq_true, decide_eq_true_eq]
    refine ⟨⟨?_, ?_⟩, ?_⟩ <;> omega, asrtT, Int.toNat_natCast, List.drop_zero, m16_refl _ (by omega)]
  simp only [Option.bind_some, Bool.not_true, beq_self_eq_true, cond_true, m12_eq h h2]
  rw [show bounds true (List.length (α := T35) S) (nx H : Int) ((List.length (α := T35) S) : Int) = true from by
    simp only [bounds, Bool.and_eq_true, decide_eq_true_eq]
    refine ⟨⟨?_, ?_⟩, ?_⟩ <;> omega, asrtT, List.take_of_length_le (Nat.le_of_eq List.length_drop), m16_refl _ (by rw [List.length_drop]; omega)]
  simp only [Option.bind_some, Bool.not_true, Bool.or_false, cond_false]

theorem once_step {R : Type} (a : List T41) (kn : Int → T26 → List T35 → List T35 → Option R) (k1 k2 : Option R) (j : Nat) (hj : j < a.length) (ha : a.length ≤ 60) (S : List T35) (H : List Bool) (h : H.length = S.length) (hS : S.length ≤ j) :
    ∃ (S' : List T35) (H' : List Bool), H'.length = S'.length ∧ S'.length ≤ j + 1 ∧ s4_1 a kn k1 k2 (j : Int) (enc S H) S (S.take (nx H)) = kn ((j : Int) + 1) (enc S' H') S' (S'.take (nx H')) := by
  have hn := nx_le H
  obtain ⟨x, hx⟩ : ∃ x, a[j]? = some x := ⟨a[j], List.getElem?_eq_getElem hj⟩
  unfold s4_1
  simp only [bifT (lt1 hj), idx_nat, hx, Option.bind_some, idxG_in hx, wrapI (x := (j : Int) + 1) (by omega) (by omega)]
  by_cases c0 : x.1 = 0
  · refine ⟨S ++ [x.2.2.1], H ++ [false], by simp [h], by simp; omega, cont_eq (enc (S ++ [x.2.2.1]) (H ++ [false]), S ++ [x.2.2.1], (S ++ [x.2.2.1]).take (nx (H ++ [false]))) (fun k => ?_)⟩
    rw [bifT (beq_iff_eq.2 c0), m10_eq h (by omega)]
    simp only [Option.bind_some]
    rw [bifF (by rfl), limT (by simp; omega), asrtT]
    have e1 := nx_app H 1
    simp only [List.replicate_one] at e1
    rw [e1, take_app (by omega)]
  · have fin : ∀ H' : List Bool, H'.length = S.length → (cont (fun (k15 : (T26 × (List T35) × (List T35)) → Option R) =>
      k15 (enc S H', S, S.take (nx H'))) fun y15 => kn ((j : Int) + 1) y15.1 y15.2.1 y15.2.2) = kn ((j : Int) + 1) (enc S H') S (S.take (nx H')) := fun H' _ => rfl
    have hc0 : (x.1 == 0) = false := by simpa using c0
    rcases Int.lt_or_le x.2.1 0 with hq | hq
    · refine ⟨S, H, h, by omega, cont_eq (enc S H, S, S.take (nx H)) (fun k => ?_)⟩
      rw [bifF hc0, m11_out h (by omega) (.inl hq)]
      simp only [Option.bind_some]
      have e := decide_eq_true hq
      rw [bifF (by
        show (!(true == (decide (x.2.1 < 0) || _))) = false
        rw [e]; rfl)]
      refine Eq.trans (cont_eq (enc S H, S.take (nx H)) (fun k => rfl)) ?_
      exact once_tail h (by omega) _ _
    · obtain ⟨q, hq'⟩ : ∃ q : Nat, x.2.1 = q := ⟨x.2.1.toNat, by omega⟩
      have e := decide_eq_false (show ¬ x.2.1 < 0 by omega)
      rcases Nat.lt_or_ge q S.length with c | c
      · have e2 := decide_eq_false (show ¬ x.2.1 ≥ (S.length : Int) by omega)
        cases hb : isH H q with
        | true =>
          refine ⟨S, H, h, by omega, cont_eq (enc S H, S, S.take (nx H)) (fun k => ?_)⟩
          rw [bifF hc0, show m11 (enc S H) x.2.1 = some (([], 0, [], ()), [], 5, ()) from by rw [hq']; exact m11_twice h (by omega) hb]
          simp only [Option.bind_some]
          rw [bifF (by
            show (!(false == (decide (x.2.1 < 0) || decide ((bif (decide (x.2.1 < 0) == false) then x else ((0, 0, (0, 0, 0, 0, 0, ()), ()) : T41)).2.1 ≥ (S.length : Int))))) = false
            rw [e]
            show (!(false == (false || decide (x.2.1 ≥ (S.length : Int))))) = false
            rw [e2]; rfl)]
          refine Eq.trans (cont_eq (enc S H, S.take (nx H)) (fun k => rfl)) ?_
          exact once_tail h (by omega) _ _
        | false =>
          have hlH : q < H.length := by omega
          have hh : (H.set q true).length = S.length := by simpa using h
          have hnn := nx_mono hlH
          refine ⟨S, H.set q true, hh, by omega, cont_eq (enc S (H.set q true), S, S.take (nx (H.set q true))) (fun k => ?_)⟩
          rw [bifF hc0, show m11 (enc S H) x.2.1 = some (enc S (H.set q true), (S.drop (nx H)).take (nx (H.set q true) - nx H), 0, ()) from by rw [hq']; exact m11_ok h (by omega) c hb]
          simp only [Option.bind_some]
          rw [bifF (by rfl)]
          have hn2 := nx_le (H.set q true)
          have hd : ((S.drop (nx H)).take (nx (H.set q true) - nx H)).length ≤ 60 := by rw [List.length_take, List.length_drop]; omega
          have hg : S.take (nx H) ++ (S.drop (nx H)).take (nx (H.set q true) - nx H) = S.take (nx (H.set q true)) := by
            rw [← List.take_add]
            congr 1
            exact Nat.add_sub_cancel' hnn
          refine Eq.trans (cont_eq (enc S (H.set q true), S.take (nx (H.set q true))) (fun k => ?_)) ?_
          · show asrt true (decide (List.length (α := T35) (S.take (nx H)) + List.length (α := T35) ((S.drop (nx H)).take (nx (H.set q true) - nx H)) ≤ LIM)) (k (enc S (H.set q true), S.take (nx H) ++ (S.drop (nx H)).take (nx (H.set q true) - nx H))) = _
            rw [limT (by rw [List.length_take]; omega), asrtT, hg]
          · exact once_tail hh (by omega) _ _
      · have e2 := decide_eq_true (show x.2.1 ≥ (S.length : Int) by omega)
        refine ⟨S, H, h, by omega, cont_eq (enc S H, S, S.take (nx H)) (fun k => ?_)⟩
        rw [bifF hc0, m11_out h (by omega) (.inr (by omega))]
        simp only [Option.bind_some]
        rw [bifF (by
          show (!(true == (decide (x.2.1 < 0) || decide ((bif (decide (x.2.1 < 0) == false) then x else ((0, 0, (0, 0, 0, 0, 0, ()), ()) : T41)).2.1 ≥ (S.length : Int))))) = false
          rw [e]
          show (!(true == (false || decide (x.2.1 ≥ (S.length : Int))))) = false
          rw [e2]; rfl)]
        refine Eq.trans (cont_eq (enc S H, S.take (nx H)) (fun k => rfl)) ?_
        exact once_tail h (by omega) _ _

theorem once_loop {R : Type} (a : List T41) (ha : a.length ≤ 60) (k1 k2 : Option R) : ∀ (n j : Nat) (S : List T35) (H : List Bool), j ≤ a.length → a.length - j < n → H.length = S.length → S.length ≤ j →
    l4_1 a k1 k2 n (j : Int) (enc S H) S (S.take (nx H)) = k1
  | 0, j, S, H, _, h, _, _ => by omega
  | n + 1, j, S, H, hj, hn, h, hS => by
    show s4_1 a (l4_1 a k1 k2 n) k1 k2 (j : Int) (enc S H) S (S.take (nx H)) = k1
    rcases Nat.lt_or_ge j a.length with c | c
    · obtain ⟨S', H', e1, e2, e3⟩ := once_step a (l4_1 a k1 k2 n) k1 k2 j c ha S H h hS
      rw [e3]
      exact once_loop a ha k1 k2 n (j + 1) S' H' (by omega) (by omega) e1 e2
    · unfold s4_1
      rw [bifF (decide_eq_false (by omega))]

theorem postOnce (a : List T41) : m4 a = some true := by
  unfold m4
  rw [small_true]
  simp only [Option.bind_some]
  by_cases c : (a.length : Int) > 60
  · rw [bifT (decide_eq_true c)]
  · rw [bifF (decide_eq_false c)]
    exact once_loop a (by omega) (some true) (some false) FUEL 0 [] [] (by omega) (fuel_lt (by omega)) rfl (by simp)

theorem set_app {H F : List Bool} {q : Nat} (h : q < H.length) : (H ++ F).set q true = H.set q true ++ F := by
  rw [List.set_append_left _ _ h]

theorem enc_app (S M : List T35) (H : List Bool) : enc (S ++ M) (H ++ List.replicate M.length false) = (S ++ M, (nx H : Int), ea H, ()) := by
  unfold enc
  rw [nx_app, ea_app]

theorem later_step {R : Type} (S M : List T35) (a : List Int) (kn : Int → Int → T26 → T26 → Option R) (k1 : Int → T26 → T26 → Option R) (k2 : Option R) (j : Nat) (hj : j < a.length) (ha : a.length ≤ 30) (hS : S.length ≤ 30) (hM : M.length ≤ 10) (H : List Bool) (h : H.length = S.length) :
    ∃ H' : List Bool, H'.length = S.length ∧ s6_1 S a kn k1 k2 (nx H : Int) (j : Int) (enc S H) (enc (S ++ M) (H ++ List.replicate M.length false)) = kn (nx H' : Int) ((j : Int) + 1) (enc S H') (enc (S ++ M) (H' ++ List.replicate M.length false)) := by
  have hn := nx_le H
  obtain ⟨x, hx⟩ : ∃ x, a[j]? = some x := ⟨a[j], List.getElem?_eq_getElem hj⟩
  have hA : (H ++ List.replicate M.length false).length = (S ++ M).length := by simp [h]
  have hL : (S ++ M).length ≤ 10000 := by simp; omega
  unfold s6_1
  simp only [bifT (lt1 hj), idx_nat, hx, Option.bind_some, wrapI (x := (j : Int) + 1) (by omega) (by omega)]
  by_cases c0 : x ≥ (S.length : Int)
  · exact ⟨H, h, cont_eq ((nx H : Int), enc S H, enc (S ++ M) (H ++ List.replicate M.length false)) (fun k => by rw [bifT (decide_eq_true c0)])⟩
  · rcases Int.lt_or_le x 0 with hq | hq
    · refine ⟨H, h, cont_eq ((nx H : Int), enc S H, enc (S ++ M) (H ++ List.replicate M.length false)) (fun k => ?_)⟩
      rw [bifF (decide_eq_false c0), m11_out h (by omega) (.inl hq), m11_out hA hL (.inl hq)]
      simp only [Option.bind_some, bne_self_eq_false, beq_self_eq_true, cond_true]
      rw [m16_refl _ (by simp)]
      simp only [Option.bind_some, Bool.not_true, Bool.or_false, cond_false]
      refine Eq.trans (cont_eq (enc S H, enc (S ++ M) (H ++ List.replicate M.length false)) (fun k => rfl)) ?_
      simp only [List.length_nil, Int.natCast_zero]
      rw [wrapI (by omega) (by omega), Int.add_zero]
    · obtain ⟨q, rfl⟩ : ∃ q : Nat, x = q := ⟨x.toNat, by omega⟩
      have hqS : q < S.length := by omega
      cases hb : isH H q with
      | true =>
        refine ⟨H, h, cont_eq ((nx H : Int), enc S H, enc (S ++ M) (H ++ List.replicate M.length false)) (fun k => ?_)⟩
        rw [bifF (decide_eq_false c0), m11_twice h (by omega) hb, m11_twice hA hL (by rw [isH_app]; exact hb)]
        simp only [Option.bind_some, bne_self_eq_false, beq_self_eq_true, cond_true]
        rw [m16_refl _ (by simp)]
        simp only [Option.bind_some, Bool.not_true, Bool.or_false, cond_false]
        refine Eq.trans (cont_eq (enc S H, enc (S ++ M) (H ++ List.replicate M.length false)) (fun k => rfl)) ?_
        simp only [List.length_nil, Int.natCast_zero]
        rw [wrapI (by omega) (by omega), Int.add_zero]
      | false =>
        have hlH : q < H.length := by omega
        have hh : (H.set q true).length = S.length := by simpa using h
        have hnn := nx_mono hlH
        have hn2 := nx_le (H.set q true)
        refine ⟨H.set q true, hh, cont_eq ((nx (H.set q true) : Int), enc S (H.set q true), enc (S ++ M) (H.set q true ++ List.replicate M.length false)) (fun k => ?_)⟩
        rw [bifF (decide_eq_false c0), m11_ok h (by omega) hqS hb, m11_ok hA hL (by simp; omega) (by rw [isH_app]; exact hb), set_app hlH, nx_app, nx_app]
        simp only [Option.bind_some, bne_self_eq_false, beq_self_eq_true, cond_true]
        have ed : ((S ++ M).drop (nx H)).take (nx (H.set q true) - nx H) = (S.drop (nx H)).take (nx (H.set q true) - nx H) := by
          rw [List.drop_append_of_le_length (by omega), List.take_append_of_le_length (by rw [List.length_drop]; omega)]
        have el : ((S.drop (nx H)).take (nx (H.set q true) - nx H)).length = nx (H.set q true) - nx H := by rw [List.length_take, List.length_drop]; omega
        rw [ed, m16_refl _ (by omega)]
        simp only [Option.bind_some, Bool.not_true, Bool.or_false, cond_false]
        refine Eq.trans (cont_eq (enc S (H.set q true), enc (S ++ M) (H.set q true ++ List.replicate M.length false)) (fun k => rfl)) ?_
        rw [el]
        rw [wrapI (by omega) (by omega)]
        congr 2
        omega

theorem later_loop {R : Type} (S M : List T35) (a : List Int) (ha : a.length ≤ 30) (hS : S.length ≤ 30) (hM : M.length ≤ 10) (k1 : Int → T26 → T26 → Option R) (k2 : Option R) : ∀ (n j : Nat) (H : List Bool), j ≤ a.length → a.length - j < n → H.length = S.length →
    ∃ H' : List Bool, H'.length = S.length ∧ l6_1 S a k1 k2 n (nx H : Int) (j : Int) (enc S H) (enc (S ++ M) (H ++ List.replicate M.length false)) = k1 (nx H' : Int) (enc S H') (enc (S ++ M) (H' ++ List.replicate M.length false))
  | 0, j, H, _, h, _ => by omega
  | n + 1, j, H, hj, hn, h => by
    show ∃ H' : List Bool, H'.length = S.length ∧ s6_1 S a (l6_1 S a k1 k2 n) k1 k2 (nx H : Int) (j : Int) (enc S H) (enc (S ++ M) (H ++ List.replicate M.length false)) = k1 (nx H' : Int) (enc S H') (enc (S ++ M) (H' ++ List.replicate M.length false))
    rcases Nat.lt_or_ge j a.length with c | c
    · obtain ⟨H1, e1, e2⟩ := later_step S M a (l6_1 S a k1 k2 n) k1 k2 j c ha hS hM H h
      rw [e2]
      exact later_loop S M a ha hS hM k1 k2 n (j + 1) H1 (by omega) (by omega) e1
    · refine ⟨H, h, ?_⟩
      unfold s6_1
      rw [bifF (decide_eq_false (by omega))]

theorem nx_rep : ∀ n : Nat, nx (List.replicate n false) = 0
  | 0 => rfl
  | n + 1 => rfl

theorem ea_rep (n : Nat) : ea (List.replicate n false) = [] := by
  have := ea_app [] n
  simpa [ea, eaC, sel] using this

theorem postLater (S : List T35) (a : List Int) (M : List T35) : m6 S a M = some true := by
  unfold m6
  rw [small_true]
  simp only [Option.bind_some]
  cases hc : ((decide ((List.length S : Int) > 30) || decide ((List.length a : Int) > 30)) || decide ((List.length M : Int) > 10)) with
  | true => rfl
  | false =>
    rw [Bool.or_eq_false_iff, Bool.or_eq_false_iff, decide_eq_false_iff_not, decide_eq_false_iff_not, decide_eq_false_iff_not] at hc
    obtain ⟨⟨c1, c2⟩, c3⟩ := hc
    have d1 : S.length ≤ 30 := by omega
    have d2 : a.length ≤ 30 := by omega
    have d3 : M.length ≤ 10 := by omega
    rw [cond_false, show decide (List.length (α := T35) S ≤ LIM) = true from decide_eq_true (by unfold LIM; omega), asrtT, limT (by omega), asrtT]
    have e0 : (S, (0 : Int), ([] : List Int), ()) = enc S (List.replicate S.length false) := by
      unfold enc; rw [nx_rep, ea_rep]; rfl
    have e1 : (S ++ M, (0 : Int), ([] : List Int), ()) = enc (S ++ M) (List.replicate S.length false ++ List.replicate M.length false) := by
      rw [enc_app, nx_rep, ea_rep]; rfl
    rw [e0, e1]
    obtain ⟨H, h1, h2⟩ := later_loop S M a d2 d1 d3 (fun y10 y11 y12 =>
            (bif (true == true) then (m12 y11) else some ([] : (List T35))).bind fun r13 =>
            (bif ((true && ((IntKind.i64.wrap (y10 + (List.length r13 : Int))) == (List.length S : Int))) == true) then (m12 y12) else some ([] : (List T35))).bind fun r14 =>
            (bif ((true && ((IntKind.i64.wrap (y10 + (List.length r13 : Int))) == (List.length S : Int))) == true) then (m12 y11) else some ([] : (List T35))).bind fun r15 =>
            (bif ((((true && ((IntKind.i64.wrap (y10 + (List.length r13 : Int))) == (List.length S : Int))) && ((List.length r14 : Int) == (IntKind.i64.wrap ((List.length r15 : Int) + (List.length M : Int))))) && (y11.2.1 == y12.2.1)) == true) then (m18 y11.2.2.1 y12.2.2.1) else some false).bind fun r16 =>
            some ((((true && ((IntKind.i64.wrap (y10 + (List.length r13 : Int))) == (List.length S : Int))) && ((List.length r14 : Int) == (IntKind.i64.wrap ((List.length r15 : Int) + (List.length M : Int))))) && (y11.2.1 == y12.2.1)) && r16)) (some false) FUEL 0 (List.replicate S.length false) (by omega) (fuel_lt (by omega)) (by simp)
    rw [nx_rep] at h2
    refine Eq.trans h2 ?_
    have hn := nx_le H
    have hA : (H ++ List.replicate M.length false).length = (S ++ M).length := by simp [h1]
    simp only [beq_self_eq_true, cond_true, m12_eq h1 (by omega), m12_eq hA (by simp; omega), Option.bind_some, Bool.true_and, List.length_drop, nx_app]
    rw [wrapI (x := (nx H : Int) + ((S.length - nx H : Nat) : Int)) (by omega) (by omega)]
    rw [show ((nx H : Int) + ((S.length - nx H : Nat) : Int) == (S.length : Int)) = true from by rw [beq_iff_eq]; omega]
    simp only [beq_self_eq_true, cond_true, Option.bind_some, Bool.true_and, List.length_drop, List.length_append]
    rw [wrapI (x := ((S.length - nx H : Nat) : Int) + (M.length : Int)) (by omega) (by omega)]
    rw [show (((S.length + M.length - nx H : Nat) : Int) == ((S.length - nx H : Nat) : Int) + (M.length : Int)) = true from by rw [beq_iff_eq]; omega]
    have e5 : (enc S H).2.1 = (enc (S ++ M) (H ++ List.replicate M.length false)).2.1 := by rw [enc_app]; rfl
    have e6 : (enc (S ++ M) (H ++ List.replicate M.length false)).2.2.1 = (enc S H).2.2.1 := by rw [enc_app]; rfl
    rw [e5, e6]
    simp only [beq_self_eq_true, cond_true, Bool.true_and]
    rw [m18_refl _ (by have := eaC_len H (nx H); show (eaC H (nx H)).length ≤ _; omega)]
    rfl

end Go.Proofs.Ytblgheellobhcaa
