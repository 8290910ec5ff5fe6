/- Post: what the functions return for a way of which some messages have arrived. -/
import Derived.Test.YtblgheellobhcaaT2
namespace Go.Proofs.Ytblgheellobhcaa
open Go Go.Eng
set_option linter.unusedVariables false
set_option linter.unusedSimpArgs false

theorem m10_bad {w : T26} (h : m9 w = some false) (e : T35) : m10 w e = some (([], 0, [], ()), 1, ()) := by
  unfold m10; rw [h]; rfl
theorem m11_bad {w : T26} (h : m9 w = some false) (q : Int) : m11 w q = some (([], 0, [], ()), [], 1, ()) := by
  unfold m11; rw [h]; rfl
theorem m12_bad {w : T26} (h : m9 w = some false) : m12 w = some [] := by
  unfold m12; rw [h]; rfl
theorem m13_bad {w : T26} (h : m9 w = some false) : m13 w = some [] := by
  unfold m13; rw [h]; rfl

theorem nx_app (H : List Bool) (n : Nat) : nx (H ++ List.replicate n false) = nx H := by
  refine nx_of (fun i hi => ?_) ?_
  · have := nx_here H i hi
    have h2 := isH_lt this
    simp only [isH, List.getD_eq_getElem?_getD] at this ⊢
    rw [List.getElem?_append_left h2]
    exact this
  · have := nx_not H
    simp only [isH, List.getD_eq_getElem?_getD] at this ⊢
    rcases Nat.lt_or_ge (nx H) H.length with c | c
    · rw [List.getElem?_append_left c]; exact this
    · rw [List.getElem?_append_right c, List.getElem?_replicate]
      split <;> rfl
theorem isH_app (H : List Bool) (n i : Nat) : isH (H ++ List.replicate n false) i = isH H i := by
  simp only [isH, List.getD_eq_getElem?_getD]
  rcases Nat.lt_or_ge i H.length with c | c
  · rw [List.getElem?_append_left c]
  · rw [List.getElem?_append_right c, List.getElem?_replicate, List.getElem?_eq_none c]
    split <;> rfl
theorem eaC_congr {H J : List Bool} (h : ∀ i, isH H i = isH J i) (c : Nat) : eaC H c = eaC J c := by
  refine asc_ext (eaC_asc _ _) (eaC_asc _ _) (fun x => ?_)
  rw [eaC_mem, eaC_mem]
  simp only [h]
theorem ea_app (H : List Bool) (n : Nat) : ea (H ++ List.replicate n false) = ea H := by
  unfold ea
  rw [nx_app]
  exact eaC_congr (isH_app H n) _

theorem cl {α : Type} {xs : List α} (h : xs.length ≤ 100000) : cloneM xs = some xs := cloneM_eq (by omega)

theorem m10_eq {S : List T35} {H : List Bool} (h : H.length = S.length) (h2 : S.length < 10000) (e : T35) : m10 (enc S H) e = some (enc (S ++ [e]) (H ++ [false]), 0, ()) := by
  have e1 := eaC_len H (nx H)
  unfold m10
  rw [m9_enc h (by omega)]
  simp only [Option.bind_some, Bool.not_true, cond_false]
  rw [bifF (show ((List.length (enc S H).1 : Int) == 10000) = false from by
    rw [beq_eq_false_iff_ne]
    show (S.length : Int) ≠ 10000
    omega)]
  show (cloneM S).bind _ = _
  rw [cl (by omega)]
  show (cloneM (ea H)).bind _ = _
  rw [cl (by show (eaC H (nx H)).length ≤ _; omega)]
  simp only [Option.bind_some]
  rw [show decide (List.length (α := T35) S + List.length (α := T35) [e] ≤ LIM) = true from decide_eq_true (by unfold LIM; simp only [List.length_cons, List.length_nil]; omega), asrtT]
  have a1 := nx_app H 1
  have a2 := ea_app H 1
  simp only [List.replicate_one] at a1 a2
  simp only [enc, a1, a2]

theorem m10_full {S : List T35} {H : List Bool} (h : H.length = S.length) (h2 : S.length = 10000) (e : T35) : m10 (enc S H) e = some (([], 0, [], ()), 6, ()) := by
  unfold m10
  rw [m9_enc h (by omega)]
  simp only [Option.bind_some, Bool.not_true, cond_false]
  rw [bifT (show ((List.length (enc S H).1 : Int) == 10000) = true from by
    rw [beq_iff_eq]
    show (S.length : Int) = 10000
    omega)]

theorem m11_out {S : List T35} {H : List Bool} (h : H.length = S.length) (h2 : S.length ≤ 10000) {q : Int} (hq : q < 0 ∨ (S.length : Int) ≤ q) : m11 (enc S H) q = some (([], 0, [], ()), [], 4, ()) := by
  unfold m11
  rw [m9_enc h h2]
  simp only [Option.bind_some, Bool.not_true, cond_false]
  rw [bifT]
  rw [Bool.or_eq_true, decide_eq_true_eq, decide_eq_true_eq]
  rcases hq with c | c
  · exact .inl c
  · exact .inr c

theorem m11_twice {S : List T35} {H : List Bool} (h : H.length = S.length) (h2 : S.length ≤ 10000) {q : Nat} (hq : isH H q = true) : m11 (enc S H) q = some (([], 0, [], ()), [], 5, ()) := by
  have hl := isH_lt hq
  have e1 := eaC_len H (nx H)
  unfold m11
  rw [m9_enc h h2]
  simp only [Option.bind_some, Bool.not_true, cond_false]
  rw [bifF (show (decide ((q : Int) < 0) || decide ((q : Int) ≥ (List.length (enc S H).1 : Int))) = false from by
    rw [Bool.or_eq_false_iff]
    exact ⟨decide_eq_false (by omega), decide_eq_false (by show ¬ (q : Int) ≥ (S.length : Int); omega)⟩)]
  obtain ⟨p, p1, p2, p3, p4⟩ := m23_eq (ea H) (by show (eaC H (nx H)).length ≤ _; omega) (eaC_asc _ _) (q : Int)
  show (m23 (ea H) q).bind _ = _
  rw [p4]
  simp only [Option.bind_some]
  rw [bifT]
  rw [Bool.or_eq_true, decide_eq_true_eq, decide_eq_true_eq]
  rcases Nat.lt_or_ge q (nx H) with c | c
  · exact .inr (by show (q : Int) < (nx H : Int); omega)
  · exact .inl (eaC_mem.2 ⟨q, rfl, c, hq⟩)

theorem ins_asc {l : List Int} (hA : l.Pairwise (· < ·)) {x : Int} (hx : x ∉ l) {p : Nat} (hp : p ≤ l.length) (h1 : ∀ q, q < p → gI l q < x) (h2 : ∀ q, p ≤ q → q < l.length → x ≤ gI l q) : (insL l p [x]).Pairwise (· < ·) := by
  have hd : ∀ y ∈ l.drop p, x < y := by
    intro y hy
    obtain ⟨i, hi, rfl⟩ := List.mem_iff_getElem.1 hy
    rw [List.length_drop] at hi
    have := h2 (p + i) (by omega) (by omega)
    rw [List.getElem_drop]
    have e : gI l (p + i) = l[p + i] := by simp [gI, show p + i < l.length by omega]
    rw [e] at this
    rcases Int.lt_or_eq_of_le this with c | c
    · exact c
    · exact absurd (c ▸ List.getElem_mem _) hx
  have ht : ∀ y ∈ l.take p, y < x := by
    intro y hy
    obtain ⟨i, hi, rfl⟩ := List.mem_iff_getElem.1 hy
    rw [List.length_take] at hi
    have := h1 i (by omega)
    rw [List.getElem_take]
    have e : gI l i = l[i] := by simp [gI, show i < l.length by omega]
    rw [e] at this
    exact this
  unfold insL
  rw [List.pairwise_append]
  refine ⟨hA.sublist (List.take_sublist _ _), ?_, ?_⟩
  · rw [List.singleton_append, List.pairwise_cons]
    exact ⟨hd, hA.sublist (List.drop_sublist _ _)⟩
  · intro a ha b hb
    have := ht a ha
    simp only [List.singleton_append, List.mem_cons] at hb
    rcases hb with rfl | hb
    · exact this
    · have := hd b hb; omega

theorem ins_mem {l : List Int} {x y : Int} {p : Nat} : y ∈ insL l p [x] ↔ y = x ∨ y ∈ l := by
  unfold insL
  have e : y ∈ l ↔ y ∈ l.take p ∨ y ∈ l.drop p := by rw [← List.mem_append, List.take_append_drop]
  rw [e]
  simp only [List.mem_append, List.mem_cons, List.not_mem_nil, or_false]
  constructor
  · rintro (h | h | h)
    · exact .inr (.inl h)
    · exact .inl h
    · exact .inr (.inr h)
  · rintro (h | h | h)
    · exact .inr (.inl h)
    · exact .inl h
    · exact .inr (.inr h)

theorem nx_later {H : List Bool} {q : Nat} (hl : q < H.length) (h : nx H < q) : nx (H.set q true) = nx H :=
  nx_of (fun i hi => by rw [isH_set hl, if_neg (by omega)]; exact nx_here H i hi) (by rw [isH_set hl, if_neg (by omega)]; exact nx_not H)

theorem l11_eq {R : Type} (H : List Bool) (hl : H.length ≤ 10000) (k : Int → List Int → Option R) : ∀ (n c : Nat), c ≤ H.length → H.length - c < n →
    ∃ d : Nat, c ≤ d ∧ (∀ i, c ≤ i → i < d → isH H i = true) ∧ isH H d = false ∧ l11_1 k n (c : Int) (eaC H c) = k d (eaC H d)
  | 0, c, _, h => by omega
  | n + 1, c, hc, hn => by
    unfold l11_1 s11_1
    have e1 := eaC_len H c
    cases hb : isH H c with
    | true =>
      have hlt := isH_lt hb
      rw [eaC_yes hb]
      have e2 := eaC_len H (c + 1)
      rw [show ((decide ((List.length ((c : Int) :: eaC H (c + 1)) : Int) > 0)) == true) = true from by simp,
        show (decide (0 ≤ 0) && decide (0 < (List.length ((c : Int) :: eaC H (c + 1)) : Int))) = true from by simp, asrtT]
      simp only [cond_true, Int.toNat_zero, List.getElem?_cons_zero, Option.bind_some, beq_self_eq_true, Bool.and_true]
      rw [bifT (show decide ((List.length ((c : Int) :: eaC H (c + 1)) : Int) > 0) = true from by simp)]
      rw [show bounds true (List.length ((c : Int) :: eaC H (c + 1))) 1 (List.length ((c : Int) :: eaC H (c + 1)) : Int) = true from by simp [bounds]; omega, asrtT,
        wrapI (x := (c : Int) + 1) (by omega) (by omega)]
      have es : subl ((c : Int) :: eaC H (c + 1)) 1 (List.length ((c : Int) :: eaC H (c + 1)) : Int) = eaC H (c + 1) := by
        simp [subl]
      rw [es]
      obtain ⟨d, d1, d2, d3, d4⟩ := l11_eq H hl k n (c + 1) (by omega) (by omega)
      refine ⟨d, by omega, fun i h1 h2 => ?_, d3, by rw [← d4]; rfl⟩
      rcases Nat.eq_or_lt_of_le h1 with e | e
      · subst e; exact hb
      · exact d2 i e h2
    | false =>
      refine ⟨c, Nat.le_refl _, fun i h1 h2 => by omega, hb, ?_⟩
      cases he : eaC H c with
      | nil => rfl
      | cons x r =>
        have hx : x ≠ (c : Int) := by
          have : x ∈ eaC H c := by rw [he]; simp
          rw [eaC_no hb] at this
          obtain ⟨i, rfl, i1, _⟩ := eaC_mem.1 this
          omega
        rw [show ((decide ((List.length (x :: r) : Int) > 0)) == true) = true from by simp,
          show (decide (0 ≤ 0) && decide (0 < (List.length (x :: r) : Int))) = true from by simp, asrtT]
        simp only [cond_true, Int.toNat_zero, List.getElem?_cons_zero, Option.bind_some]
        rw [bifF (by rw [Bool.and_eq_false_iff]; exact .inr (by simpa using hx))]

theorem lim {l : List Int} {x : Int} (h : l.length ≤ 1000000) : decide (List.length (α := Int) l + List.length (α := Int) [x] ≤ LIM) = true := decide_eq_true (by unfold LIM; simp only [List.length_cons, List.length_nil]; omega)

theorem m11_ok {S : List T35} {H : List Bool} (h : H.length = S.length) (h2 : S.length ≤ 10000) {q : Nat} (hl : q < S.length) (hq : isH H q = false) :
    m11 (enc S H) q = some (enc S (H.set q true), (S.drop (nx H)).take (nx (H.set q true) - nx H), 0, ()) := by
  have e1 := eaC_len H (nx H)
  have hlH : q < H.length := by omega
  unfold m11
  rw [m9_enc h h2]
  simp only [Option.bind_some, Bool.not_true, cond_false]
  rw [bifF (show (decide ((q : Int) < 0) || decide ((q : Int) ≥ (List.length (enc S H).1 : Int))) = false from by
    rw [Bool.or_eq_false_iff]
    exact ⟨decide_eq_false (by omega), decide_eq_false (by show ¬ (q : Int) ≥ (S.length : Int); omega)⟩)]
  obtain ⟨p, p1, p2, p3, p4⟩ := m23_eq (ea H) (by show (eaC H (nx H)).length ≤ _; omega) (eaC_asc _ _) (q : Int)
  have hm : (q : Int) ∉ ea H := fun hm => by
    obtain ⟨i, i1, _, i3⟩ := eaC_mem.1 hm
    have : i = q := by omega
    subst this
    rw [hq] at i3; cases i3
  have hnx : nx H ≤ q := by
    rcases Nat.lt_or_ge q (nx H) with c | c
    · have := nx_here H q c
      rw [hq] at this; cases this
    · exact c
  show (m23 (ea H) q).bind _ = _
  rw [p4]
  simp only [Option.bind_some]
  rw [bifF (by
    rw [Bool.or_eq_false_iff]
    exact ⟨decide_eq_false hm, decide_eq_false (by show ¬ (q : Int) < (nx H : Int); omega)⟩)]
  show (cloneM S).bind _ = _
  rw [cl (by omega)]
  show (cloneM (ea H)).bind _ = _
  rw [cl (by show (eaC H (nx H)).length ≤ _; omega)]
  simp only [Option.bind_some]
  have hpl : p ≤ (eaC H (nx H)).length := p1
  rcases Nat.eq_or_lt_of_le hnx with c | c
  · rw [bifF (show decide ((q : Int) > (enc S H).2.1) = false from decide_eq_false (by show ¬ (q : Int) > (nx H : Int); omega))]
    subst c
    obtain ⟨d, d1, d2, d3, d4⟩ := l11_eq H (by omega) (fun (y6 : Int) (y7 : List Int) =>
              asrt true (bounds true (List.length (α := T35) S) (enc S H).2.1 y6) (
                (cloneM (List.take ((Int.toNat y6) - (Int.toNat (enc S H).2.1)) (List.drop (Int.toNat (enc S H).2.1) S))).bind fun r8 =>
                some (((S, y6, y7, ()), r8, 0, ()) : T26 × List T35 × Int × Unit))) FUEL (nx H + 1) (by omega) (fuel_lt (by omega))
    show l11_1 _ FUEL (IntKind.i64.wrap ((nx H : Int) + 1)) (eaC H (nx H)) = _
    rw [wrapI (by omega) (by omega), eaC_no (nx_not H)]
    have d4' := d4
    rw [Int.natCast_add, Int.natCast_one] at d4'
    rw [d4']
    have hdl : d ≤ H.length := by
      rcases Nat.lt_or_ge H.length d with c2 | c2
      · have := isH_lt (d2 H.length (by omega) c2)
        omega
      · exact c2
    have en : nx (H.set (nx H) true) = d := nx_of (fun i hi => by
      rw [isH_set hlH]
      split
      · rfl
      · rcases Nat.lt_or_ge i (nx H) with c2 | c2
        · exact nx_here H i c2
        · exact d2 i (by omega) hi) (by rw [isH_set hlH, if_neg (by omega)]; exact d3)
    have ee : ea (H.set (nx H) true) = eaC H d := by
      unfold ea
      rw [en]
      exact eaC_set hlH (by omega)
    show asrt true (bounds true (List.length (α := T35) S) (nx H : Int) (d : Int)) _ = _
    rw [show bounds true (List.length (α := T35) S) (nx H : Int) (d : Int) = true from by
      simp only [bounds, Bool.and_eq_true, decide_eq_true_eq]
      refine ⟨⟨?_, ?_⟩, ?_⟩ <;> omega, asrtT]
    show (cloneM (List.take ((Int.toNat (d : Int)) - (Int.toNat (nx H : Int))) (List.drop (Int.toNat (nx H : Int)) S))).bind _ = _
    rw [cl (by simp only [List.length_take, List.length_drop]; omega)]
    simp only [Option.bind_some, Int.toNat_natCast, enc, en, ee]
  · rw [bifT (show decide ((q : Int) > (enc S H).2.1) = true from decide_eq_true (by show (q : Int) > (nx H : Int); omega))]
    show asrt true (decide (0 ≤ (p : Int)) && decide ((p : Int) ≤ ((List.length (α := Int) (eaC H (nx H))) : Int)) && (decide (0 < (List.length (α := Int) [(q : Int)])) && decide ((List.length (α := Int) (eaC H (nx H))) + (List.length (α := Int) [(q : Int)]) ≤ LIM))) _ = _
    rw [show (decide (0 ≤ (p : Int)) && decide ((p : Int) ≤ ((List.length (α := Int) (eaC H (nx H))) : Int)) && (decide (0 < (List.length (α := Int) [(q : Int)])) && decide ((List.length (α := Int) (eaC H (nx H))) + (List.length (α := Int) [(q : Int)]) ≤ LIM))) = true from by
      rw [decide_eq_true (show (0 : Int) ≤ p by omega), decide_eq_true (show (p : Int) ≤ ((eaC H (nx H)).length : Int) by omega), decide_eq_true (show 0 < (List.length [(q : Int)]) by simp), lim (by omega)]
      rfl, asrtT]
    have en := nx_later hlH c
    have ee : insL (ea H) p [(q : Int)] = ea (H.set q true) := by
      refine asc_ext (ins_asc (eaC_asc _ _) hm p1 p2 p3) (eaC_asc _ _) (fun x => ?_)
      unfold ea
      rw [ins_mem, eaC_mem, eaC_mem, en]
      constructor
      · rintro (rfl | ⟨i, rfl, i1, i2⟩)
        · exact ⟨q, rfl, by omega, by rw [isH_set hlH, if_pos rfl]⟩
        · exact ⟨i, rfl, i1, by rw [isH_set hlH]; split; rfl; exact i2⟩
      · rintro ⟨i, rfl, i1, i2⟩
        rw [isH_set hlH] at i2
        split at i2
        · rename_i e; exact .inl (by omega)
        · exact .inr ⟨i, rfl, i1, i2⟩
    rw [Int.toNat_natCast]
    show some ((S, (nx H : Int), insL (ea H) p [(q : Int)], ()), [], 0, ()) = _
    rw [ee, en]
    simp only [enc, en, Nat.sub_self, List.take_zero]

theorem m12_eq {S : List T35} {H : List Bool} (h : H.length = S.length) (h2 : S.length ≤ 10000) : m12 (enc S H) = some (S.drop (nx H)) := by
  have := nx_le H
  unfold m12
  rw [m9_enc h h2]
  simp only [Option.bind_some, Bool.not_true, cond_false]
  show asrt true (bounds true (List.length S) (nx H : Int) (List.length S : Int)) _ = _
  rw [show bounds true (List.length S) (nx H : Int) (List.length S : Int) = true from by
    simp only [bounds, Bool.and_eq_true, decide_eq_true_eq]
    refine ⟨⟨?_, ?_⟩, ?_⟩ <;> omega, asrtT]
  show (cloneM (subl S (nx H : Int) (List.length S : Int))).bind _ = _
  have e : subl S (nx H : Int) (List.length S : Int) = S.drop (nx H) := by
    unfold subl
    rw [Int.toNat_natCast, Int.toNat_natCast, List.take_of_length_le (Nat.le_refl _)]
  rw [e, cl (by rw [List.length_drop]; omega)]
  rfl

theorem m16_refl (a : List T35) (h : a.length ≤ 1000000) : m16 a a = some true := by
  unfold m16
  rw [bifF (by simp)]
  refine seq_loop a.length (fun _ => ()) (fun n j (_ : Unit) => l16_1 a a (some true) (some false) n j) (fun _ => some true) h (fun m j hj => ?_) (fun m => ?_)
  · show s16_1 _ _ _ _ _ _ = _
    unfold s16_1
    rw [bifT (lt1 hj), idx_nat, List.getElem?_eq_getElem hj]
    simp only [Option.bind_some, beq_self_eq_true, Bool.and_true, Bool.not_true, cond_false]
    rw [wrapI (by omega) (by omega)]
  · show s16_1 _ _ _ _ _ _ = _
    unfold s16_1
    rw [bifF (lt0 _)]
theorem m18_refl (a : List Int) (h : a.length ≤ 1000000) : m18 a a = some true := by
  unfold m18
  rw [bifF (by simp)]
  refine seq_loop a.length (fun _ => ()) (fun n j (_ : Unit) => l18_1 a a (some true) (some false) n j) (fun _ => some true) h (fun m j hj => ?_) (fun m => ?_)
  · show s18_1 _ _ _ _ _ _ = _
    unfold s18_1
    rw [bifT (lt1 hj), idx_nat, List.getElem?_eq_getElem hj]
    simp only [Option.bind_some]
    rw [bifF (by simp), wrapI (by omega) (by omega)]
  · show s18_1 _ _ _ _ _ _ = _
    unfold s18_1
    rw [bifF (lt0 _)]

/-- A loop from a place on. -/
theorem from_loop {R S : Type} (a n : Nat) (F : Nat → S) (f : Nat → Int → S → Option R) (k : S → Option R) (ha : a ≤ n) (hn : n ≤ 1000000)
    (hs : ∀ m j, a ≤ j → j < n → f (m + 1) (j : Int) (F j) = f m ((j : Int) + 1) (F (j + 1))) (he : ∀ m, f (m + 1) (n : Int) (F n) = k (F n)) :
    f FUEL (a : Int) (F a) = k (F n) := by
  have key : ∀ (i m j : Nat), a ≤ j → j + i = n → i < m → f m (j : Int) (F j) = k (F n) := by
    intro i
    induction i with
    | zero =>
      intro m j _ hj hm
      obtain ⟨m, rfl⟩ : ∃ a, m = a + 1 := ⟨m - 1, by omega⟩
      have : j = n := by omega
      subst this
      exact he m
    | succ i ih =>
      intro m j h1 hj hm
      obtain ⟨m, rfl⟩ : ∃ a, m = a + 1 := ⟨m - 1, by omega⟩
      rw [hs m j h1 (by omega)]
      exact ih m (j + 1) (by omega) (by omega) (by omega)
  exact key (n - a) FUEL a (Nat.le_refl _) (by omega) (fuel_lt (by omega))

theorem m13_eq {S : List T35} {H : List Bool} (h : H.length = S.length) (h2 : S.length ≤ 10000) : m13 (enc S H) = some (ag H) := by
  have hn := nx_le H
  have e1 := eaC_len H (nx H)
  unfold m13
  rw [m9_enc h h2]
  simp only [Option.bind_some, Bool.not_true, cond_false]
  show l13_1 (enc S H) (fun y4 => some y4) FUEL (nx H : Int) [] = _
  have e0 : ([] : List Int) = sel (fun i => !isH H i) (nx H) := (sel_none (fun i hi => by rw [nx_here H i hi]; rfl)).symm
  rw [e0]
  refine from_loop (nx H) H.length (sel (fun i => !isH H i)) (fun n j s => l13_1 (enc S H) (fun y4 => some y4) n j s) (fun y => some y) hn (by omega) (fun m j h1 hj => ?_) (fun m => ?_)
  · show s13_1 _ _ _ _ _ = _
    unfold s13_1
    rw [bifT (show decide ((j : Int) < (List.length (enc S H).1 : Int)) = true from decide_eq_true (by show (j : Int) < (S.length : Int); omega)), wrapI (x := (j : Int) + 1) (by omega) (by omega)]
    refine cont_eq _ (fun k => ?_)
    obtain ⟨p, _, _, _, p4⟩ := m23_eq (ea H) (by show (eaC H (nx H)).length ≤ _; omega) (eaC_asc _ _) (j : Int)
    show (m23 (ea H) j).bind _ = _
    rw [p4]
    simp only [Option.bind_some]
    have em : decide ((j : Int) ∈ ea H) = isH H j := by
      rw [Bool.eq_iff_iff, decide_eq_true_eq]
      unfold ea
      rw [eaC_mem]
      constructor
      · rintro ⟨i, i1, i2, i3⟩
        have : i = j := by omega
        subst this; exact i3
      · intro hj; exact ⟨j, rfl, h1, hj⟩
    rw [em, sel_succ]
    have hL := sel_len (fun i => !isH H i) j
    cases isH H j with
    | true => simp
    | false =>
      simp only [Bool.not_false, cond_true]
      rw [lim (by omega), asrtT]
  · show s13_1 _ _ _ _ _ = _
    unfold s13_1
    rw [bifF (show decide ((H.length : Int) < (List.length (enc S H).1 : Int)) = false from decide_eq_false (by show ¬ (H.length : Int) < (S.length : Int); omega))]

theorem m17_eq (S : List T35) (H : List Bool) (h : H.length = S.length) (h2 : S.length ≤ 10000) : m17 (S, H, ()) = some (nx H : Int) := by
  have hn := nx_le H
  unfold m17
  refine seq_loop (nx H) (fun _ => ()) (fun n j (_ : Unit) => l17_1 (S, H, ()) (fun y2 => some y2) n j) (fun _ => some (nx H : Int)) (by omega) (fun m j hj => ?_) (fun m => ?_)
  · show s17_1 _ _ _ _ = _
    unfold s17_1
    have hb := nx_here H j hj
    have hl := isH_lt hb
    show (idxG (decide ((j : Int) < (List.length S : Int)) == true) false H (j : Int)).bind _ = _
    rw [show decide ((j : Int) < (List.length S : Int)) = true from decide_eq_true (by omega)]
    have : idxG (true == true) false H (j : Int) = some true := by
      show idx H (j : Int) = _
      rw [idx_nat, isH_get hl, hb]
    rw [this]
    simp only [Option.bind_some]
    rw [wrapI (by omega) (by omega)]
    rfl
  · show s17_1 _ _ _ _ = _
    unfold s17_1
    have hb := nx_not H
    show (idxG (decide ((nx H : Int) < (List.length S : Int)) == true) false H (nx H : Int)).bind _ = _
    rcases Nat.lt_or_ge (nx H) S.length with c | c
    · rw [show decide ((nx H : Int) < (List.length S : Int)) = true from decide_eq_true (by omega)]
      have : idxG (true == true) false H (nx H : Int) = some false := by
        show idx H (nx H : Int) = _
        rw [idx_nat, isH_get (by omega), hb]
      rw [this]
      simp only [Option.bind_some, Bool.and_false, cond_false]
    · rw [show decide ((nx H : Int) < (List.length S : Int)) = false from decide_eq_false (by omega)]
      have : idxG (false == true) false H (nx H : Int) = some false := rfl
      rw [this]
      simp only [Option.bind_some, Bool.and_false, cond_false]

theorem m19_eq (S : List T35) (H : List Bool) (h : H.length = S.length) (h2 : S.length ≤ 10000) : m19 (S, H, ()) = some (ea H) := by
  have hn := nx_le H
  unfold m19
  rw [m17_eq S H h h2]
  simp only [Option.bind_some]
  have e0 : ([] : List Int) = sel (fun i => decide (nx H ≤ i) && isH H i) (nx H) := (sel_none (fun i hi => by rw [decide_eq_false (by omega)]; rfl)).symm
  rw [e0]
  refine from_loop (nx H) H.length (sel (fun i => decide (nx H ≤ i) && isH H i)) (fun n j s => l19_1 (S, H, ()) (fun y4 => some y4) n j s) (fun y => some y) hn (by omega) (fun m j h1 hj => ?_) (fun m => ?_)
  · show s19_1 _ _ _ _ _ = _
    unfold s19_1
    rw [bifT (show decide ((j : Int) < (List.length (S, H, ()).1 : Int)) = true from decide_eq_true (by show (j : Int) < (S.length : Int); omega)), wrapI (x := (j : Int) + 1) (by omega) (by omega)]
    refine cont_eq _ (fun k => ?_)
    show (idx H (j : Int)).bind _ = _
    rw [idx_nat, isH_get hj, sel_succ]
    simp only [Option.bind_some]
    have hL := sel_len (fun i => decide (nx H ≤ i) && isH H i) j
    rw [decide_eq_true h1]
    cases isH H j with
    | true =>
      simp only [cond_true, Bool.and_true]
      rw [lim (by omega), asrtT]
    | false => simp
  · show s19_1 _ _ _ _ _ = _
    unfold s19_1
    rw [bifF (show decide ((H.length : Int) < (List.length (S, H, ()).1 : Int)) = false from decide_eq_false (by show ¬ (H.length : Int) < (S.length : Int); omega))]

theorem m20_eq (S : List T35) (H : List Bool) (h : H.length = S.length) (h2 : S.length ≤ 10000) : m20 (S, H, ()) = some (ag H) := by
  unfold m20
  refine seq_loop H.length (sel (fun i => !isH H i)) (fun n j s => l20_1 (S, H, ()) (fun y4 => some y4) n j s) (fun y => some y) (by omega) (fun m j hj => ?_) (fun m => ?_)
  · show s20_1 _ _ _ _ _ = _
    unfold s20_1
    rw [bifT (show decide ((j : Int) < (List.length (S, H, ()).1 : Int)) = true from decide_eq_true (by show (j : Int) < (S.length : Int); omega)), wrapI (x := (j : Int) + 1) (by omega) (by omega)]
    refine cont_eq _ (fun k => ?_)
    show (idx H (j : Int)).bind _ = _
    rw [idx_nat, isH_get hj, sel_succ]
    simp only [Option.bind_some]
    have hL := sel_len (fun i => !isH H i) j
    cases isH H j with
    | true => simp
    | false =>
      simp only [Bool.not_false, cond_true]
      rw [lim (by omega), asrtT]
  · show s20_1 _ _ _ _ _ = _
    unfold s20_1
    rw [bifF (show decide ((H.length : Int) < (List.length (S, H, ()).1 : Int)) = false from decide_eq_false (by show ¬ (H.length : Int) < (S.length : Int); omega))]

end Go.Proofs.Ytblgheellobhcaa
