/- Offer: what is given. -/
import Derived.Test.YtidlfemliaepjaaT8
namespace Go.Proofs.Ytidlfemliaepjaa
open Go Go.Eng
set_option linter.unusedVariables false
set_option linter.unusedSimpArgs false

def amF (L : List T40) (s : Int) : Int := match L.find? (fun x => x.1 == s) with
  | some x => x.2.1
  | none => 0

theorem l17_1_eq {L : List T40} (hL : L.length ≤ 1000) (s : Int) : ∀ (m n j : Nat), j + m = L.length → m < n →
    l17_1 L s (some 0) (fun y3 => some y3) n (j : Int) = some (amF (L.drop j) s)
  | 0, n + 1, j, hj, _ => by
    have : j = L.length := by omega
    subst this
    show s17_1 _ _ _ _ _ _ = _
    unfold s17_1
    rw [bifF (lt0 _), List.drop_length]
    rfl
  | m + 1, n + 1, j, hj, hn => by
    have hlt : j < L.length := by omega
    show s17_1 _ _ _ _ _ _ = _
    unfold s17_1
    have e : idx L (j : Int) = some L[j] := by rw [idx_nat, List.getElem?_eq_getElem hlt]
    rw [bifT (lt1 hlt), e, wrapI (x := (j : Int) + 1) (by omega) (by omega)]
    simp only [Option.bind_some, e]
    have ih := l17_1_eq hL s m n (j + 1) (by omega) (by omega)
    rw [show ((j : Int) + 1) = ((j + 1 : Nat) : Int) by omega, ih, List.drop_eq_getElem_cons hlt]
    unfold amF
    rw [List.find?_cons]
    cases (L[j].1 == s) <;> rfl

theorem m17_eq {L : List T40} (hL : L.length ≤ 1000) (s : Int) : m17 L s = some (amF L s) := by
  unfold m17
  exact l17_1_eq hL s L.length FUEL 0 (by omega) (fuel_lt (by omega))

theorem pick_find (f : Nat → Int) (s : Nat) : ∀ n, (pick f n).find? (fun x => x.1 == (s : Int)) = if s < n ∧ 0 < f s then some ((s : Int), f s, ()) else none
  | 0 => by simp [pick]
  | n + 1 => by
    have ih := pick_find f s n
    unfold pick
    by_cases c : 0 < f n
    · rw [if_pos c, List.find?_append, ih, List.find?_cons]
      by_cases e : s = n
      · subst e
        simp [c]
      · have : ((n : Int) == (s : Int)) = false := beq_eq_false_iff_ne.2 (by omega)
        simp only [this]
        by_cases q : s < n ∧ 0 < f s
        · rw [if_pos q, if_pos ⟨by omega, q.2⟩]; rfl
        · rw [if_neg q, if_neg (fun z => q ⟨by omega, z.2⟩)]; rfl
    · rw [if_neg c, ih]
      by_cases e : s = n
      · subst e
        rw [if_neg (fun z => c z.2), if_neg (fun z => c z.2)]
      · by_cases q : s < n ∧ 0 < f s
        · rw [if_pos q, if_pos ⟨by omega, q.2⟩]
        · rw [if_neg q, if_neg (fun z => q ⟨by omega, z.2⟩)]

theorem amF_pick {f : Nat → Int} {n s : Nat} (hs : s < n) (h0 : 0 ≤ f s) : amF (pick f n) (s : Int) = f s := by
  unfold amF
  rw [pick_find]
  by_cases c : 0 < f s
  · rw [if_pos ⟨hs, c⟩]
  · rw [if_neg (fun q => c q.2)]
    show (0 : Int) = f s
    omega

theorem l7_1_eq {R : Type} {o : T22} {l : List T38} {u : List Int} (h : Rt o l u) {tk : List Int} (ht : Tk l tk) (s : Nat) (k : Int → Option R) :
    l7_1 l (s : Int) o tk k FUEL 0 0 = k (cnt l (wor o l tk) s l.length) := by
  have hn := h.n
  refine seq_loop l.length (fun j => cnt l (wor o l tk) s j) (fun m j st => l7_1 l (s : Int) o tk k m st j) k (by omega) (fun m j hj => ?_) (fun m => ?_)
  · show s7_1 _ _ _ _ _ _ _ _ = _
    unfold s7_1
    have hw := ht.wor_b h hj
    have c2 := cnt_b (w := wor o l tk) (by omega) (fun i hi => ht.wor_b h hi) s j (by omega)
    have htn := h.ten hj
    have rT := rng (show j < tk.length by rw [ht.n]; exact hj)
    have gTk : tk[((j : Int)).toNat]? = some (gI tk j) := by rw [Int.toNat_natCast]; exact gI_get (by rw [ht.n]; exact hj)
    have es : cnt l (wor o l tk) s (j + 1) = cnt l (wor o l tk) s j + if sea l j = s then wor o l tk j else 0 := rfl
    rw [bifT (lt1 hj), wrapI (x := (j : Int) + 1) (by omega) (by omega)]
    refine cont_eq (cnt l (wor o l tk) s (j + 1)) (fun kk => ?_)
    rw [es]
    by_cases c : sea l j = s
    · have eb : ((gT l j).1 == (s : Int)) = true := by unfold sea at c; rw [beq_iff_eq]; omega
      rw [if_pos c]
      by_cases c3 : (gT l j).2.2.1 ≤ o.2.2.1
      · have ew : wor o l tk j = gI tk j * o.2.2.2.2.1 := by unfold wor; rw [if_pos c3]
        refine (cont_eq (cnt l (wor o l tk) s j + wor o l tk j) (fun k10 => ?_)).trans ?_
        · rw [gTx hj]
          simp only [Option.bind_some, gTg hj, eb, cond_true, beq_self_eq_true, Bool.true_and]
          rw [bifT (decide_eq_true c3), asrtP (fun _ => rT), gTk]
          simp only [Option.bind_some]
          rw [wrapI (x := gI tk j * o.2.2.2.2.1) (by omega) (by omega), ← ew, wrapI (x := cnt l (wor o l tk) s j + _) (by omega) (by omega)]
        · rw [gTx hj]
          simp only [Option.bind_some, gTg hj, eb, cond_true, beq_self_eq_true, Bool.true_and]
          rw [bifF (decide_eq_false (by omega))]
      · have ew : wor o l tk j = gI tk j * o.2.2.2.2.2.1 := by unfold wor; rw [if_neg c3]
        refine (cont_eq (cnt l (wor o l tk) s j) (fun k10 => ?_)).trans ?_
        · rw [gTx hj]
          simp only [Option.bind_some, gTg hj, eb, cond_true, beq_self_eq_true, Bool.true_and]
          rw [bifF (decide_eq_false c3)]
        · rw [gTx hj]
          simp only [Option.bind_some, gTg hj, eb, cond_true, beq_self_eq_true, Bool.true_and]
          rw [bifT (decide_eq_true (by omega)), asrtP (fun _ => rT), gTk]
          simp only [Option.bind_some]
          rw [wrapI (x := gI tk j * o.2.2.2.2.2.1) (by omega) (by omega), ← ew, wrapI (x := cnt l (wor o l tk) s j + _) (by omega) (by omega)]
    · have eb : ((gT l j).1 == (s : Int)) = false := by unfold sea at c; rw [beq_eq_false_iff_ne]; omega
      rw [if_neg c, Int.add_zero]
      refine (cont_eq (cnt l (wor o l tk) s j) (fun k10 => ?_)).trans ?_
      · rw [gTx hj]
        simp only [Option.bind_some, gTg hj, eb, Bool.false_and, cond_false]
      · rw [gTx hj]
        simp only [Option.bind_some, gTg hj, eb, Bool.false_and, cond_false]
  · show s7_1 _ _ _ _ _ _ _ _ = _
    unfold s7_1
    rw [bifF (lt0 _)]

theorem l7_2_eq {R : Type} {o : T22} {l : List T38} {u : List Int} (h : Rt o l u) {tk : List Int} (ht : Tk l tk) {G : Nat → Int} (hG : ∀ s, s < u.length → cnt l (wor o l tk) s l.length / 1000 ≤ G s) (k1 k2 : Option R) :
    l7_2 l u o tk (pick (fun s => cnt l (gI tk) s l.length) u.length) (pick (fun s => cnt l (wor o l tk) s l.length / 1000) u.length) (pick G u.length) k1 k2 FUEL 0 = k1 := by
  have hn := h.n
  have hnu := h.nu
  refine seq_loop u.length (fun _ => ()) (fun m j (_ : Unit) => l7_2 l u o tk (pick (fun s => cnt l (gI tk) s l.length) u.length) (pick (fun s => cnt l (wor o l tk) s l.length / 1000) u.length) (pick G u.length) k1 k2 m j) (fun _ => k1) (by omega) (fun m j hj => ?_) (fun m => ?_)
  · show s7_2 _ _ _ _ _ _ _ _ _ _ _ = _
    unfold s7_2
    have c2 := cnt_b (w := wor o l tk) (by omega) (fun i hi => ht.wor_b h hi) j l.length (Nat.le_refl _)
    have c1 := cnt_b (w := gI tk) (by omega) ht.b j l.length (Nat.le_refl _)
    have hGj := hG j hj
    have pl := pick_len (fun s => cnt l (gI tk) s l.length) u.length
    have pl2 := pick_len (fun s => cnt l (wor o l tk) s l.length / 1000) u.length
    have pl3 := pick_len G u.length
    rw [bifT (lt1 hj), wrapI (x := (j : Int) + 1) (by omega) (by omega), l7_1_eq h ht, m17_eq (by omega), amF_pick (f := fun s => cnt l (wor o l tk) s l.length / 1000) hj (by show 0 ≤ cnt l (wor o l tk) j l.length / 1000; omega), m17_eq (by omega), amF_pick hj (by omega), m17_eq (by omega), amF_pick (f := fun s => cnt l (gI tk) s l.length) hj c1.1, tdiv_pos _ c2.1, wrapI (x := cnt l (wor o l tk) j l.length / 1000) (by omega) (by omega)]
    simp only [Option.bind_some, bne_self_eq_false, beq_self_eq_true, cond_true, Bool.false_or, decide_eq_false (show ¬ G j < cnt l (wor o l tk) j l.length / 1000 by omega), Bool.true_and]
    have z : (cnt l (gI tk) j l.length == 0) = true → cnt l (wor o l tk) j l.length = 0 := by
      intro q
      have q := beq_iff_eq.1 q
      unfold cnt at q ⊢
      refine sumN_none fun i hi => ?_
      have := zero_of_sum q (fun i hi => by have := ht.b i hi; split <;> omega) hi
      by_cases c : sea l i = j
      · rw [if_pos c] at this ⊢
        unfold wor
        rw [this, Int.zero_mul]
      · rw [if_neg c]
    cases hc : (cnt l (gI tk) j l.length == 0) with
    | false => rfl
    | true => simp [z hc]
  · show s7_2 _ _ _ _ _ _ _ _ _ _ _ = _
    unfold s7_2
    rw [bifF (lt0 _)]

theorem offerGives (o : T22) (l : List T38) (u : List Int) (a : Int) (ha : 0 ≤ a ∧ a ≤ 255) : m7 o l u a = some true := by
  unfold m7
  rw [m8_eq, m9_eq]
  simp only [Option.bind_some]
  by_cases hf : l.length ≤ 14 ∧ u.length ≤ 10
  case neg => rw [decide_eq_false hf]; rfl
  rw [decide_eq_true hf]
  simp only [Bool.not_true, cond_false]
  by_cases h : Ok o l u
  · have hr : Rt o l u := ⟨hf.1, hf.2, h⟩
    have ht := takenS_tk hr
    have hoff := hr.off
    rw [m12_eq hr, m10_eq hr]
    simp only [Option.bind_some, bne_self_eq_false, cond_false, Bool.or_self]
    rw [wrapI (x := a) (by omega) (by omega), wrapI (x := o.2.2.2.2.1 + a) (by omega) (by omega), wrapI (x := o.2.2.2.2.2.1 + a) (by omega) (by omega)]
    have e1 : ∀ x : Int, (bif decide (10000 < x) then 10000 else x) = min x 10000 := by
      intro x
      by_cases c : 10000 < x
      · rw [decide_eq_true c]; simp only [cond_true]; omega
      · rw [decide_eq_false c]; simp only [cond_false]; omega
    rw [e1, e1]
    have hO : OkO (o.1, o.2.1, o.2.2.1, o.2.2.2.1, min (o.2.2.2.2.1 + a) 10000, min (o.2.2.2.2.2.1 + a) 10000, o.2.2.2.2.2.2.1, o.2.2.2.2.2.2.2.1, ()) := by
      have := h.1
      unfold OkO In at this ⊢
      simp only
      omega
    have hr' : Rt (o.1, o.2.1, o.2.2.1, o.2.2.2.1, min (o.2.2.2.2.1 + a) 10000, min (o.2.2.2.2.2.1 + a) 10000, o.2.2.2.2.2.2.1, o.2.2.2.2.2.2.2.1, ()) l u := ⟨hf.1, hf.2, hO, h.2⟩
    rw [m10_eq hr']
    have et : takenS (o.1, o.2.1, o.2.2.1, o.2.2.2.1, min (o.2.2.2.2.1 + a) 10000, min (o.2.2.2.2.2.1 + a) 10000, o.2.2.2.2.2.2.1, o.2.2.2.2.2.2.2.1, ()) l u = takenS o l u := rfl
    rw [et]
    have hpl := (res_len o l u (takenS o l u)).1
    have e2 : (resS (o.1, o.2.1, o.2.2.1, o.2.2.2.1, min (o.2.2.2.2.1 + a) 10000, min (o.2.2.2.2.2.1 + a) 10000, o.2.2.2.2.2.2.1, o.2.2.2.2.2.2.2.1, ()) l u (takenS o l u)).1 = (resS o l u (takenS o l u)).1 := rfl
    simp only [Option.bind_some, bne_self_eq_false, beq_self_eq_true, cond_true, e2]
    rw [m14_eq _ _ (by omega), decide_eq_true rfl]
    simp only [Option.bind_some, Bool.not_true, Bool.or_self]
    rw [bifF (by rw [ht.n]; simp)]
    refine l7_2_eq hr ht (fun s hs => ?_) _ _
    refine Int.ediv_le_ediv (by omega) (cnt_le (fun i hi => ?_) s)
    have hb := (ht.b i hi).1
    unfold wor
    refine Int.mul_le_mul_of_nonneg_left ?_ hb
    show (if _ then _ else _) ≤ (if (gT l i).2.2.1 ≤ o.2.2.1 then min (o.2.2.2.2.1 + a) 10000 else min (o.2.2.2.2.2.1 + a) 10000)
    split <;> omega
  · rw [m12_bad hf.1 hf.2 h, m10_bad hf.1 hf.2 h]
    rfl

end Go.Proofs.Ytidlfemliaepjaa
