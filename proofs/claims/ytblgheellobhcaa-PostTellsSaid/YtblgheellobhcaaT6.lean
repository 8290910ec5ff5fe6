/- PostAgain and PostTells, plainly. -/
import Derived.Test.YtblgheellobhcaaT5
namespace Go.Proofs.Ytblgheellobhcaa
open Go Go.Eng
set_option linter.unusedVariables false
set_option linter.unusedSimpArgs false

theorem again_step {R : Type} (a : List T41) (kn : Int → T26 → Option R) (k1 : T26 → Option R) (k2 : Option R) (j : Nat) (hj : j < a.length) (ha : a.length ≤ 60) (S : List T35) (H : List Bool) (h : H.length = S.length) (hS : S.length ≤ j) :
    ∃ (S' : List T35) (H' : List Bool), H'.length = S'.length ∧ S'.length ≤ j + 1 ∧ s5_1 a kn k1 k2 (j : Int) (enc S H) = kn ((j : Int) + 1) (enc S' H') := by
  obtain ⟨x, hx⟩ : ∃ x, a[j]? = some x := ⟨a[j], List.getElem?_eq_getElem hj⟩
  unfold s5_1
  simp only [bifT (lt1 hj), idx_nat, hx, Option.bind_some, wrapI (x := (j : Int) + 1) (by omega) (by omega)]
  by_cases c0 : x.1 = 0
  · refine ⟨S ++ [x.2.2.1], H ++ [false], by simp [h], by simp; omega, cont_eq (enc (S ++ [x.2.2.1]) (H ++ [false])) (fun k => ?_)⟩
    rw [bifT (beq_iff_eq.2 c0), m10_eq h (by omega)]
    rfl
  · have hc0 : (x.1 == 0) = false := by simpa using c0
    by_cases hq : x.2.1 < 0 ∨ (S.length : Int) ≤ x.2.1
    · refine ⟨S, H, h, by omega, cont_eq (enc S H) (fun k => ?_)⟩
      rw [bifF hc0, m11_out h (by omega) hq]
      rfl
    · obtain ⟨q, hq'⟩ : ∃ q : Nat, x.2.1 = q := ⟨x.2.1.toNat, by omega⟩
      rw [hq']
      cases hb : isH H q with
      | true =>
        refine ⟨S, H, h, by omega, cont_eq (enc S H) (fun k => ?_)⟩
        rw [bifF hc0, m11_twice h (by omega) hb]
        rfl
      | false =>
        refine ⟨S, H.set q true, by simpa using h, by omega, cont_eq (enc S (H.set q true)) (fun k => ?_)⟩
        rw [bifF hc0, m11_ok h (by omega) (by omega) hb]
        rfl

theorem again_loop {R : Type} (a : List T41) (ha : a.length ≤ 60) (k1 : T26 → Option R) (k2 : Option R) : ∀ (n j : Nat) (S : List T35) (H : List Bool), j ≤ a.length → a.length - j < n → H.length = S.length → S.length ≤ j →
    ∃ (S' : List T35) (H' : List Bool), H'.length = S'.length ∧ S'.length ≤ 60 ∧ l5_1 a k1 k2 n (j : Int) (enc S H) = k1 (enc S' H')
  | 0, j, S, H, _, h, _, _ => by omega
  | n + 1, j, S, H, hj, hn, h, hS => by
    show ∃ (S' : List T35) (H' : List Bool), H'.length = S'.length ∧ S'.length ≤ 60 ∧ s5_1 a (l5_1 a k1 k2 n) k1 k2 (j : Int) (enc S H) = k1 (enc S' H')
    rcases Nat.lt_or_ge j a.length with c | c
    · obtain ⟨S', H', e1, e2, e3⟩ := again_step a (l5_1 a k1 k2 n) k1 k2 j c ha S H h hS
      rw [e3]
      exact again_loop a ha k1 k2 n (j + 1) S' H' (by omega) (by omega) e1 e2
    · refine ⟨S, H, h, by omega, ?_⟩
      unfold s5_1
      rw [bifF (decide_eq_false (by omega))]

/-- The numbers that have not arrived, one after the other, from any place on. -/
theorem ag_mem {H : List Bool} {x : Int} : x ∈ ag H ↔ ∃ i : Nat, x = i ∧ i < H.length ∧ isH H i = false := by
  unfold ag
  rw [sel_mem]
  constructor
  · rintro ⟨i, rfl, h1, h2⟩; exact ⟨i, rfl, h1, by simpa using h2⟩
  · rintro ⟨i, rfl, h1, h2⟩; exact ⟨i, rfl, h1, by simpa using h2⟩
theorem ag_len (H : List Bool) : (ag H).length ≤ H.length := sel_len _ _
theorem ag_inj {H : List Bool} {i j : Nat} (hi : i < (ag H).length) (hj : j < (ag H).length) (h : gI (ag H) i = gI (ag H) j) : i = j := by
  rcases Nat.lt_trichotomy i j with c | c | c
  · have := asc_gI (sel_asc (fun i => !isH H i) H.length) c hj
    unfold ag at h; omega
  · exact c
  · have := asc_gI (sel_asc (fun i => !isH H i) H.length) c hi
    unfold ag at h; omega
theorem gI_mem {l : List Int} {i : Nat} (h : i < l.length) : gI l i ∈ l := by
  have : gI l i = l[i] := by simp [gI, h]
  rw [this]; exact List.getElem_mem h

/-- Which ones have arrived after j rounds. -/
def after (H0 : List Bool) (t j : Nat) (H : List Bool) : Prop :=
  H.length = H0.length ∧ ∀ i, isH H i = true ↔ isH H0 i = true ∨ ∃ r, r < j ∧ gI (ag H0) ((r + t) % (ag H0).length) = (i : Int)

theorem mod_inj {n t a b : Nat} (ha : a < b) (hb : b < n) (h : (a + t) % n = (b + t) % n) : False := by
  have h1 := Nat.div_add_mod (a + t) n
  have h2 := Nat.div_add_mod (b + t) n
  rw [h] at h1
  generalize (a + t) / n = u at *
  generalize (b + t) / n = v at *
  have h3 : n * v - n * u = b - a := by omega
  rw [← Nat.mul_sub] at h3
  have h4 : v - u ≠ 0 := fun e => by rw [e] at h3; simp at h3; omega
  have h5 : n ≤ n * (v - u) := Nat.le_mul_of_pos_right n (by omega)
  omega

theorem rot_step {R : Type} (S : List T35) (H0 : List Bool) (h0 : H0.length = S.length) (hS : S.length ≤ 60) (t : Nat) (ht : t ≤ 255) (kn : Int → T26 → List T35 → Option R) (k1 : T26 → List T35 → Option R) (k2 : Option R) (j : Nat) (hj : j < (ag H0).length) (H : List Bool) (ha : after H0 t j H) :
    ∃ H' : List Bool, after H0 t (j + 1) H' ∧ nx H ≤ nx H' ∧ s5_2 (t : Int) (ag H0) kn k1 k2 (j : Int) (enc S H) ((S.drop (nx H0)).take (nx H - nx H0)) = kn ((j : Int) + 1) (enc S H') ((S.drop (nx H0)).take (nx H - nx H0) ++ (S.drop (nx H)).take (nx H' - nx H)) := by
  have hL := ag_len H0
  have hh : H.length = S.length := by rw [ha.1, h0]
  have hm : (j + t) % (ag H0).length < (ag H0).length := Nat.mod_lt _ (by omega)
  obtain ⟨q, hq1, hq2, hq3⟩ := ag_mem.1 (gI_mem hm)
  have hb : isH H q = false := by
    cases hc : isH H q with
    | false => rfl
    | true =>
      rcases (ha.2 q).1 hc with e | ⟨r, hr, e⟩
      · rw [hq3] at e; cases e
      · rw [← hq1] at e
        exact (mod_inj hr hj (ag_inj (Nat.mod_lt _ (by omega)) hm e)).elim
  have hlq : q < H.length := by omega
  have hset : (H.set q true).length = S.length := by simpa using hh
  refine ⟨H.set q true, ⟨by simpa using ha.1, fun i => ?_⟩, nx_mono hlq, ?_⟩
  · rw [isH_set hlq]
    constructor
    · intro hi
      split at hi
      · rename_i e
        subst e
        exact .inr ⟨j, by omega, hq1⟩
      · rcases (ha.2 i).1 hi with e | ⟨r, hr, e⟩
        · exact .inl e
        · exact .inr ⟨r, by omega, e⟩
    · intro hi
      split
      · rfl
      · rename_i hne
        refine (ha.2 i).2 ?_
        rcases hi with e | ⟨r, hr, e⟩
        · exact .inl e
        · refine .inr ⟨r, ?_, e⟩
          rcases Nat.eq_or_lt_of_le (Nat.le_of_lt_succ hr) with e2 | e2
          · subst e2
            rw [hq1] at e
            omega
          · exact e2
  · unfold s5_2
    rw [bifT (lt1 hj), show ((List.length (ag H0) : Int) != 0) = true from bne_ne (by omega), asrtT, wrapI (x := (t : Int)) (by omega) (by omega), wrapI (x := (j : Int) + (t : Int)) (by omega) (by omega),
      wrapI (x := (j : Int) + 1) (by omega) (by omega)]
    have e1 : Int.tmod ((j : Int) + (t : Int)) (List.length (ag H0) : Int) = (((j + t) % (ag H0).length : Nat) : Int) := by
      rw [tmod_pos _ (by omega)]
      rw [Int.natCast_emod, Int.natCast_add]
    rw [e1, idx_nat, gI_get hm, hq1]
    simp only [Option.bind_some]
    rw [m11_ok hh (by omega) (by omega) hb]
    simp only [Option.bind_some]
    rw [m11_twice hset (by omega) (by rw [isH_set hlq, if_pos rfl])]
    simp only [Option.bind_some]
    rw [bifF (by rfl), limT (by simp only [List.length_take, List.length_drop]; omega), asrtT]

theorem rot_loop {R : Type} (S : List T35) (H0 : List Bool) (h0 : H0.length = S.length) (hS : S.length ≤ 60) (t : Nat) (ht : t ≤ 255) (k1 : T26 → List T35 → Option R) (k2 : Option R) : ∀ (n j : Nat) (H : List Bool), j ≤ (ag H0).length → (ag H0).length - j < n → after H0 t j H → nx H0 ≤ nx H →
    ∃ H' : List Bool, after H0 t (ag H0).length H' ∧ nx H0 ≤ nx H' ∧ l5_2 (t : Int) (ag H0) k1 k2 n (j : Int) (enc S H) ((S.drop (nx H0)).take (nx H - nx H0)) = k1 (enc S H') ((S.drop (nx H0)).take (nx H' - nx H0))
  | 0, j, H, _, h, _, _ => by omega
  | n + 1, j, H, hj, hn, ha, hx => by
    show ∃ H' : List Bool, after H0 t (ag H0).length H' ∧ nx H0 ≤ nx H' ∧ s5_2 (t : Int) (ag H0) (l5_2 (t : Int) (ag H0) k1 k2 n) k1 k2 (j : Int) (enc S H) ((S.drop (nx H0)).take (nx H - nx H0)) = k1 (enc S H') ((S.drop (nx H0)).take (nx H' - nx H0))
    rcases Nat.lt_or_ge j (ag H0).length with c | c
    · obtain ⟨H1, e1, e2, e3⟩ := rot_step S H0 h0 hS t ht (l5_2 (t : Int) (ag H0) k1 k2 n) k1 k2 j c H ha
      rw [e3]
      have eg : (S.drop (nx H0)).take (nx H - nx H0) ++ (S.drop (nx H)).take (nx H1 - nx H) = (S.drop (nx H0)).take (nx H1 - nx H0) := by
        have e4 : S.drop (nx H) = (S.drop (nx H0)).drop (nx H - nx H0) := by rw [List.drop_drop]; congr 1; omega
        rw [e4, ← List.take_add]
        congr 1
        omega
      rw [eg]
      exact rot_loop S H0 h0 hS t ht k1 k2 n (j + 1) H1 (by omega) (by omega) e1 (by omega)
    · have : j = (ag H0).length := by omega
      subst this
      refine ⟨H, ha, hx, ?_⟩
      unfold s5_2
      rw [bifF (lt0 _)]

theorem after_all {S : List T35} {H0 : List Bool} (h0 : H0.length = S.length) {t : Nat} {H : List Bool} (ha : after H0 t (ag H0).length H) : ∀ i, i < H0.length → isH H i = true := by
  intro i hi
  cases hb : isH H0 i with
  | true => exact (ha.2 i).2 (.inl hb)
  | false =>
    obtain ⟨k, hk, e⟩ := List.mem_iff_getElem.1 (ag_mem.2 ⟨i, rfl, hi, hb⟩)
    have e' : gI (ag H0) k = (i : Int) := by simpa [gI, hk] using e
    clear e
    generalize hn : (ag H0).length = n at ha hk
    refine (ha.2 i).2 (.inr ⟨(k + n - t % n) % n, Nat.mod_lt _ (by omega), ?_⟩)
    have hm := Nat.mod_lt t (show 0 < n by omega)
    have : ((k + n - t % n) % n + t) % n = k := by
      rw [Nat.mod_add_mod, ← Nat.add_mod_mod]
      rw [show k + n - t % n + t % n = k + n by omega, Nat.add_mod_right, Nat.mod_eq_of_lt hk]
    rw [hn, this]
    exact e'

theorem postAgain (a : List T41) (t : Int) (h1 : 0 ≤ t) (h2 : t ≤ 255) : m5 a t = some true := by
  obtain ⟨t, rfl⟩ : ∃ n : Nat, t = n := ⟨t.toNat, by omega⟩
  unfold m5
  rw [small_true]
  simp only [Option.bind_some]
  by_cases c : (a.length : Int) > 40
  · rw [bifT (decide_eq_true c)]
  · rw [bifF (decide_eq_false c)]
    obtain ⟨S, H, e1, e2, e3⟩ := again_loop a (by omega) (fun y8 =>
        (m13 y8).bind fun r9 =>
        (m12 y8).bind fun r10 =>
        l5_2 (t : Int) r9 (fun y14 y15 =>
            (bif (true == true) then (m16 y15 r10) else some false).bind fun r16 =>
            (bif ((true && r16) == true) then (m12 y14) else some ([] : (List T35))).bind fun r17 =>
            (bif ((true && r16) == true) then (m13 y14) else some ([] : (List Int))).bind fun r18 =>
            some (((true && r16) && ((IntKind.i64.wrap ((List.length r17 : Int) + (List.length r18 : Int))) == 0)) && (y14.2.1 == (List.length y14.1 : Int)))) (
            some false) FUEL 0 y8 []) (some false) FUEL 0 [] [] (by omega) (fuel_lt (by omega)) rfl (by simp)
    refine Eq.trans e3 ?_
    have hn := nx_le H
    rw [m13_eq e1 (by omega), m12_eq e1 (by omega)]
    simp only [Option.bind_some]
    have hL := ag_len H
    obtain ⟨H', f1, f2, f3⟩ := rot_loop S H e1 e2 t (by omega) (fun y14 y15 =>
            (bif (true == true) then (m16 y15 (S.drop (nx H))) else some false).bind fun r16 =>
            (bif ((true && r16) == true) then (m12 y14) else some ([] : (List T35))).bind fun r17 =>
            (bif ((true && r16) == true) then (m13 y14) else some ([] : (List Int))).bind fun r18 =>
            some (((true && r16) && ((IntKind.i64.wrap ((List.length r17 : Int) + (List.length r18 : Int))) == 0)) && (y14.2.1 == (List.length y14.1 : Int)))) (
            some false) FUEL 0 H (by omega) (fuel_lt (by omega)) ⟨rfl, fun i => by
              constructor
              · exact .inl
              · rintro (e | ⟨r, hr, _⟩)
                · exact e
                · omega⟩ (Nat.le_refl _)
    rw [Nat.sub_self, List.take_zero] at f3
    refine Eq.trans f3 ?_
    have g1 : H'.length = S.length := by rw [f1.1, e1]
    have hall := after_all e1 f1
    have g2 : nx H' = S.length := nx_of (fun i hi => hall i (by omega)) (by
      cases hc : isH H' S.length with
      | false => rfl
      | true => have := isH_lt hc; omega)
    have g3 : ag H' = [] := sel_none (fun i hi => by rw [hall i (by omega)]; rfl)
    rw [List.take_of_length_le (by rw [List.length_drop]; omega)]
    simp only [beq_self_eq_true, cond_true]
    rw [m16_refl _ (by rw [List.length_drop]; omega)]
    simp only [Option.bind_some, Bool.and_true, beq_self_eq_true, cond_true]
    rw [m12_eq g1 (by omega), m13_eq g1 (by omega), g2, g3]
    simp only [Option.bind_some, List.drop_length, List.length_nil, Bool.true_and]
    rw [show ((enc S H').2.1 == (List.length (enc S H').1 : Int)) = true from by
      rw [beq_iff_eq]
      show (nx H' : Int) = (S.length : Int)
      rw [g2]]
    rfl

end Go.Proofs.Ytblgheellobhcaa
