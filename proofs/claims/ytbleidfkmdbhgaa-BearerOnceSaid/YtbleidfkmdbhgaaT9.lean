/- Bearer: the theorem of the stage. -/
import Derived.Test.YtbleidfkmdbhgaaT8
namespace Go.Proofs.Ytbleidfkmdbhgaa
open Go Go.Eng
set_option linter.unusedVariables false
set_option linter.unusedSimpArgs false

theorem nn (j : Nat) : decide (0 ≤ (j : Int)) = true := decide_eq_true (by omega)

theorem no_dup {R : Type} {pd : List T26} {a : T26} {k1 k2 : Option R} (hn : pd.length ≤ 1000) (h : ∀ b, b ∈ pd → ((b.2.1 == a.2.1) && (b.2.2.1 == a.2.2.1)) = false) : l4_1 pd a k1 k2 FUEL 0 = k1 :=
  seq_loop (R := R) (S := Unit) pd.length (fun _ => ()) (fun m j _ => l4_1 pd a k1 k2 m j) (fun _ => k1) (by omega)
    (by
      intro m j hj
      have hx := List.getElem?_eq_getElem (l := pd) (i := j) hj
      generalize pd[j] = b at hx
      have hb := h b (List.mem_of_getElem? hx)
      have hw : IntKind.i64.wrap ((j : Int) + 1) = (j : Int) + 1 := wrapI (by omega) (by omega)
      simp only [l4_1, s4_1, lt1 hj, nn, Bool.and_self, cond_true, asrtT, Int.toNat_natCast, hx, Option.bind_some, hw]
      cases hc : (b.2.1 == a.2.1) with
      | false => simp only [show (false == true) = false from rfl, asrtF, cond_false, Option.bind_some, Bool.false_and]
      | true =>
        rw [hc] at hb
        simp only [beq_self_eq_true, asrtT, cond_true, Option.bind_some, hb, cond_false])
    (by intro m; simp only [l4_1, s4_1, lt0, cond_false])

theorem payX_bd {l : List T35} (hR : rightC l = true) (a : T26) (i c : Int) : 0 ≤ payX l a i c ∧ payX l a i c ≤ 1000000000 := by
  unfold payX
  split
  · rename_i x hx
    have := right_at hR hx
    simp only [okP, decide_eq_true_eq] at this
    cases ((x.1 == i) && (a.2.2.1 == c)) <;> simp only [cond_true, cond_false] <;> omega
  · omega

theorem pay_bd {l : List T35} (hR : rightC l = true) (pd : List T26) (i c : Int) : ∀ k, 0 ≤ sumN (payAt l pd i c) k ∧ sumN (payAt l pd i c) k ≤ 1000000000 * k
  | 0 => ⟨Int.le_refl 0, Int.le_refl 0⟩
  | k + 1 => by
    have ih := pay_bd hR pd i c k
    have hb : 0 ≤ payAt l pd i c k ∧ payAt l pd i c k ≤ 1000000000 := by
      unfold payAt
      split
      · exact payX_bd hR _ i c
      · omega
    simp only [sumN]
    omega

theorem sum_loop {R : Type} {l : List T35} {pd : List T26} {i : Nat} {x : T35} {c : Int} {k1 : Int → Option R} (hR : rightC l = true) (hn : pd.length ≤ 1000) (hx : l[i]? = some x)
    (hp : ∀ b, b ∈ pd → 0 ≤ b.2.1 ∧ ∃ y, l[b.2.1.toNat]? = some y) : l4_3 l (i : Int) c pd k1 FUEL 0 0 = k1 (paidS l pd x.1 c) :=
  seq_loop (R := R) (S := Int) pd.length (fun j => sumN (payAt l pd x.1 c) j) (fun m j s => l4_3 l (i : Int) c pd k1 m s j) (fun s => k1 s) (by omega)
    (by
      intro m j hj
      have hb := List.getElem?_eq_getElem (l := pd) (i := j) hj
      generalize pd[j] = b at hb
      obtain ⟨hb0, y, hy⟩ := hp b (List.mem_of_getElem? hb)
      have hw : IntKind.i64.wrap ((j : Int) + 1) = (j : Int) + 1 := wrapI (by omega) (by omega)
      have hbd := pay_bd hR pd x.1 c j
      have hoy := right_at hR hy
      simp only [okP, decide_eq_true_eq] at hoy
      simp only [l4_3, s4_3, lt1 hj, cond_true, hw]
      refine (cont_eq (sumN (payAt l pd x.1 c) (j + 1)) fun k => ?_).trans rfl
      have hpa : payAt l pd x.1 c j = bif (y.1 == x.1) && (b.2.2.1 == c) then y.2.1 else 0 := by
        unfold payAt
        rw [hb]
        simp only [payX, hy]
      simp only [sumN, hpa]
      generalize sumN (payAt l pd x.1 c) j = S at hbd ⊢
      simp only [lt1 hj, nn, Bool.and_self, asrtT, Int.toNat_natCast, hb, Option.bind_some, idx_pos hb0, hy, idx_nat, hx]
      cases hc : (y.1 == x.1) with
      | false => simp only [show (false == true) = false from rfl, asrtF, cond_false, Option.bind_some, Bool.false_and, Int.add_zero]
      | true =>
        simp only [beq_self_eq_true, asrtT, cond_true, Option.bind_some, Bool.true_and]
        have hw2 : IntKind.i64.wrap (S + y.2.1) = S + y.2.1 := wrapI (by omega) (by omega)
        cases (b.2.2.1 == c) with
        | false => simp only [cond_false, Int.add_zero]
        | true => simp only [cond_true, asrtT, Option.bind_some, hy, hw2, idx_pos hb0])
    (by intro m; simp only [l4_3, s4_3, lt0, cond_false])

theorem bearerOnce (l : List T35) (acts : List T26) : m4 l acts = some true := by
  unfold m4
  rw [small_true, Option.bind_some, m8_eq, Option.bind_some, m14_eq, bind_guard]
  cases hc : (!fewC l || decide ((List.length acts : Int) > 60)) with
  | true => rfl
  | false =>
  have hn : acts.length ≤ 60 := by
    simp at hc; omega
  cases hR : rightC l with
  | false => rfl
  | true =>
  have hl := right_len hR
  simp only [beq_self_eq_true, cond_true, Bool.not_true, Bool.or_self, cond_false]
  refine (seq_loop (R := Bool) (S := List T35 × List T26) acts.length (stF l acts) (fun m j s => l4_2 l acts (fun y13 y14 => l4_5 l y13 y14 (some true) (some false) FUEL 0) (some false) m s.1 j s.2) (fun s => l4_5 l s.1 s.2 (some true) (some false) FUEL 0) (by omega) ?_ ?_).trans ?_
  · intro m j hj
    have I := inv_all hR acts j
    have ha := List.getElem?_eq_getElem (l := acts) (i := j) hj
    generalize acts[j] = a at ha
    have hw : IntKind.i64.wrap ((j : Int) + 1) = (j : Int) + 1 := wrapI (by omega) (by omega)
    simp only [l4_2, s4_2, lt1 hj, cond_true, hw]
    refine (cont_eq (stF l acts (j + 1)) fun k12 => ?_).trans rfl
    simp only [← kin.eq_def, idx_nat, ha, Option.bind_some, m9_kin]
    have hst : stF l acts (j + 1) = bif (doA (stF l acts j).1 a).2.2.1 == 0 then ((doA (stF l acts j).1 a).1, bif kin a.1 == 0 then (stF l acts j).2 ++ [norm a] else (stF l acts j).2) else stF l acts j := by
      simp only [stF, ha]
    rw [hst]
    generalize stF l acts j = st at I
    obtain ⟨cur, pd⟩ := st
    simp only at I ⊢
    cases he : ((doA cur a).2.2.1 == 0) with
    | false =>
      have he' : (doA cur a).2.2.1 ≠ 0 := by simpa using he
      have hd : doA cur a = ([], 0, (doA cur a).2.2.1, ()) := doC_err he'
      rw [bne_ne he', cond_true, hd]
      rfl
    | true =>
      have he0 := eq_of_beq he
      obtain ⟨y, h1, h2, h3, h4, h5, h6⟩ := doC_ok he0
      have hrt : rightC (doA cur a).1 = true := doC_right he0
      have hq := (List.getElem?_eq_some_iff.1 h4).1
      have hlen : (doA cur a).1.length = l.length := by
        rw [show doA cur a = doC cur (kin a.1) a.2.1 a.2.2.1 a.2.2.2.1 a.2.2.2.2.1 from rfl, h6]
        simp only [List.length_set]
        exact I.len
      have l1 : ((List.length (doA cur a).1 : Int) != (List.length l : Int)) = false := by rw [hlen]; exact bne_same _
      have hn2 : (doA cur a).2.1 = bif kin a.1 == 0 then y.2.1 else 0 := by
        rw [show doA cur a = doC cur (kin a.1) a.2.1 a.2.2.1 a.2.2.2.1 a.2.2.2.2.1 from rfl, h6]
      simp only [he0, bne_same, cond_false, l1, beq_self_eq_true, cond_true, m14_eq, hrt, Option.bind_some, Bool.not_true, Bool.or_self, hn2]
      cases hk : (kin a.1 == 0) with
      | false =>
        have : (kin a.1 != 0) = true := by simp [bne, hk]
        simp only [this, cond_true, cond_false, bne_same]
      | true =>
        have hk0 := eq_of_beq hk
        rw [hk0] at h5
        obtain ⟨c0, c1, c2⟩ := pay_ok h5
        have hxl : ∃ x, l[a.2.1.toNat]? = some x := ⟨_, List.getElem?_eq_getElem (by have := I.len; omega)⟩
        obtain ⟨x, hx⟩ := hxl
        obtain ⟨m1, m2, m3, m4⟩ := I.at' _ x y hx h4
        have hpx := List.getElem?_eq_getElem (l := x.2.2.1) (i := a.2.2.1.toNat) (by omega)
        generalize x.2.2.1[a.2.2.1.toNat] = v at hpx
        have hv : v = false := by
          cases v with
          | false => rfl
          | true =>
            have := m4 _ hpx
            rw [c2] at this; cases this
        subst hv
        have hlim : decide (List.length (α := T26) pd + List.length (α := T26) [((kin a.1, a.2.1, a.2.2.1, a.2.2.2.1, a.2.2.2.2.1, ()) : T26)] ≤ LIM) = true := decide_eq_true (by have := I.n; unfold LIM; simp; omega)
        have hnz : (kin a.1 != 0) = false := by rw [hk0]; rfl
        simp only [hnz, cond_false, idx_pos h3, hx, Option.bind_some, cond_true, m2, bne_same, idx_pos c0, hpx]
        rw [no_dup (by have := I.n; omega) (by
          intro b hb
          obtain ⟨b0, b1, y', b2, b3⟩ := I.pd' b hb
          cases hbb : ((b.2.1 == a.2.1) && (b.2.2.1 == a.2.2.1)) with
          | false => rfl
          | true =>
            simp only [Bool.and_eq_true, beq_iff_eq] at hbb
            rw [hbb.1, h4] at b2
            cases b2
            rw [hbb.2, c2] at b3
            cases b3)]
        rw [hlim, asrtT]
        rfl
  · intro m
    simp only [l4_2, s4_2, lt0, cond_false]
  · have I := inv_all hR acts acts.length
    generalize stF l acts acts.length = st at I
    obtain ⟨cur, pd⟩ := st
    simp only at I ⊢
    have hpl : ∀ b, b ∈ pd → 0 ≤ b.2.1 ∧ ∃ y, l[b.2.1.toNat]? = some y := by
      intro b hb
      obtain ⟨b0, b1, y', b2, b3⟩ := I.pd' b hb
      refine ⟨b0, _, List.getElem?_eq_getElem ?_⟩
      have := (List.getElem?_eq_some_iff.1 b2).1
      rw [I.len] at this; exact this
    have hnp : pd.length ≤ 60 := by have := I.n; omega
    exact seq_loop (R := Bool) (S := Unit) l.length (fun _ => ()) (fun m j _ => l4_5 l cur pd (some true) (some false) m j) (fun _ => some true) (by omega)
      (by
        intro m j hj
        have hx := List.getElem?_eq_getElem (l := l) (i := j) hj
        generalize l[j] = x at hx
        have hox := right_at hR hx
        simp only [okP, decide_eq_true_eq] at hox
        have hw : IntKind.i64.wrap ((j : Int) + 1) = (j : Int) + 1 := wrapI (by omega) (by omega)
        simp only [l4_5, s4_5, lt1 hj, cond_true, hw]
        exact seq_loop (R := Bool) (S := Unit) x.2.2.1.length (fun _ => ()) (fun n t _ => l4_4 l cur (j : Int) pd (l4_5 l cur pd (some true) (some false) m ((j : Int) + 1)) (some false) n t) (fun _ => l4_5 l cur pd (some true) (some false) m ((j : Int) + 1)) (by omega)
          (by
            intro n t ht
            have hw : IntKind.i64.wrap ((t : Int) + 1) = (t : Int) + 1 := wrapI (by omega) (by omega)
            simp only [l4_4, s4_4, idx_nat, hx, Option.bind_some, lt1 ht, cond_true, hw]
            rw [sum_loop hR (by omega) hx hpl]
            simp only [m12_eq, Option.bind_some, openC, I.rt, hR, cond_true]
            have hs := I.sum x.1 (t : Int)
            have hb := pay_bd hR pd x.1 (t : Int) pd.length
            have hb2 := sum_bd I.rt x.1 (t : Int) cur.length (Nat.le_refl _)
            have hb2' : 0 ≤ openS cur x.1 (t : Int) ∧ openS cur x.1 (t : Int) ≤ 1000000000 * (cur.length : Int) := hb2
            have hb' : 0 ≤ paidS l pd x.1 (t : Int) ∧ paidS l pd x.1 (t : Int) ≤ 1000000000 * (pd.length : Int) := hb
            have := I.len
            rw [wrapI (by omega) (by omega), hs, bne_same, cond_false])
          (by intro n; simp only [l4_4, s4_4, idx_nat, hx, Option.bind_some, lt0, cond_false]))
      (by intro m; simp only [l4_5, s4_5, lt0, cond_false])

end Go.Proofs.Ytbleidfkmdbhgaa
