/- Fall: the reference's waterfall; both runs. -/
import Derived.Test.YtajnmcabnkidjaaT4
namespace Go.Proofs.Ytajnmcabnkidjaa
open Go Go.Eng
set_option linter.unusedVariables false
set_option linter.unusedSimpArgs false

theorem max0 {x : Int} : (bif decide (0 > x) then 0 else x) = max x 0 := max_eq x 0

theorem l9_1_eq {R : Type} (d : T25) {nt : Nat} (hE : Env8 d.1 d.2.2.2.2.2.1 d.2.2.2.2.2.2.1 nt) (k : Int → Int → Int → Int → List Int → List T38 → Option R) (f : FS) (hf : FInv nt f) (hl : f.tk.length = 0) :
    l9_1 d d.1 d.2.2.2.2.2.1 d.2.2.2.2.2.2.1 k FUEL f.pot 0 f.res f.trp f.eqt f.tk f.tr =
      k (d.2.2.2.2.2.2.1.foldl (stepF d.1 d.2.2.2.2.2.1) f).pot (d.2.2.2.2.2.2.1.foldl (stepF d.1 d.2.2.2.2.2.1) f).res (d.2.2.2.2.2.2.1.foldl (stepF d.1 d.2.2.2.2.2.1) f).trp (d.2.2.2.2.2.2.1.foldl (stepF d.1 d.2.2.2.2.2.1) f).eqt (d.2.2.2.2.2.2.1.foldl (stepF d.1 d.2.2.2.2.2.1) f).tk (d.2.2.2.2.2.2.1.foldl (stepF d.1 d.2.2.2.2.2.1) f).tr := by
  have h40 := hE.nt40
  have hl40 := hE.len
  obtain ⟨dc, dr, dt, de, dtr, tes, sts, _⟩ := d
  simp only at hE ⊢ h40 hl40
  refine (fold_loop sts (stepF dc tes) (fun j s => FInv nt s ∧ s.tk.length = j) (fun n j s => l9_1 (dc, dr, dt, de, dtr, tes, sts, ()) dc tes sts k n s.pot j s.res s.trp s.eqt s.tk s.tr) (fun s => k s.pot s.res s.trp s.eqt s.tk s.tr) (by omega) ?_ ?_ f ⟨hf, hl⟩).1
  · rintro n j s hj ⟨hI, ht⟩
    have hst := hE.stsOk _ (List.getElem_mem hj)
    refine ⟨?_, hI.step hst, by rw [step_tk, ht]⟩
    have hp := hI.p
    have hr := hI.r
    have htt := hI.t
    have he := hI.e
    have hsum := hI.sum
    have hlen := hI.len
    show s9_1 _ _ _ _ _ _ _ _ _ _ _ _ _ = _
    unfold s9_1
    simp only [cont]
    rw [bifT (lt1 hj), ix hj, wrapI (x := (j : Int) + 1) (by omega) (by omega)]
    simp only [Option.bind_some]
    generalize sts[j] = q at hst
    rcases hst with ⟨h1 | h1, n0, n1, _⟩ | ⟨h1, _, ha⟩ | ⟨h1, n0, n1, _⟩ | ⟨h1, _, _⟩
    · have es : stepF dc tes s q = payF q.2.1 s := if_pos h1
      obtain ⟨b1, b2, b3, b4, b5, b6, b7⟩ := pay_b hI n0 n1
      have hd := (hI.ok _ (at_mem n0 (by rw [hlen]; exact n1))).2
      unfold Mny at hd
      rw [es, bifT (beq_iff_eq.2 h1), asrtP (fun _ => by simp only [Bool.and_eq_true, decide_eq_true_eq]; omega), at_get n0 (by omega)]
      simp only [Option.bind_some]
      rw [asrtP (fun _ => by simp only [Bool.and_eq_true, decide_eq_true_eq]; omega), asrtP (fun _ => by simp only [Bool.and_eq_true, decide_eq_true_eq]; omega)]
      rw [wrapI (x := s.pot + s.res) (by omega) (by omega), min_eq (at38 s.tr q.2.1).2.1 (s.pot + s.res)]
      have ex : min (at38 s.tr q.2.1).2.1 (s.pot + s.res) = payX q.2.1 s := rfl
      rw [ex, wrapI (x := (at38 s.tr q.2.1).2.1 - payX q.2.1 s) (by omega) (by omega)]
      have ef : payF q.2.1 s = ⟨s.pot - min (payX q.2.1 s) s.pot, s.res - (payX q.2.1 s - min (payX q.2.1 s) s.pot), s.trp, s.eqt, s.tk ++ [payX q.2.1 s], s.tr.set q.2.1.toNat ((at38 s.tr q.2.1).1, (at38 s.tr q.2.1).2.1 - payX q.2.1 s, ())⟩ := rfl
      rw [ef]
      by_cases c : payX q.2.1 s > s.pot
      · rw [bifT (decide_eq_true c), asrtP (fun _ => lim (by rw [ht]; simp; omega)), wrapI (x := payX q.2.1 s - s.pot) (by omega) (by omega), wrapI (x := s.res - _) (by omega) (by omega), wrapI (x := s.pot - payX q.2.1 s) (by omega) (by omega), max0]
        have e1 : max (s.pot - payX q.2.1 s) 0 = s.pot - min (payX q.2.1 s) s.pot := by omega
        have e2 : s.res - (payX q.2.1 s - s.pot) = s.res - (payX q.2.1 s - min (payX q.2.1 s) s.pot) := by omega
        rw [e1, e2]
      · rw [bifF (decide_eq_false c), asrtP (fun _ => lim (by rw [ht]; simp; omega)), wrapI (x := s.pot - payX q.2.1 s) (by omega) (by omega), max0]
        have e1 : max (s.pot - payX q.2.1 s) 0 = s.pot - min (payX q.2.1 s) s.pot := by omega
        have e2 : s.res - (payX q.2.1 s - min (payX q.2.1 s) s.pot) = s.res := by omega
        rw [e1, e2]
    · have es : stepF dc tes s q = downF q.2.1 s := by unfold stepF; rw [if_neg (by omega), if_pos h1]
      obtain ⟨b1, b2, b3⟩ := down_b hI n0 n1
      have hd := (hI.ok _ (at_mem n0 (by rw [hlen]; exact n1))).1
      unfold Mny at hd
      rw [es, bifF (beq_eq_false_iff_ne.2 (by omega)), bifT (beq_iff_eq.2 h1), asrtP (fun _ => by simp only [Bool.and_eq_true, decide_eq_true_eq]; omega), at_get n0 (by omega)]
      simp only [Option.bind_some]
      rw [asrtP (fun _ => by simp only [Bool.and_eq_true, decide_eq_true_eq]; omega), asrtP (fun _ => by simp only [Bool.and_eq_true, decide_eq_true_eq]; omega), min_eq s.pot (at38 s.tr q.2.1).1]
      have ex : min s.pot (at38 s.tr q.2.1).1 = downX q.2.1 s := by unfold downX; omega
      rw [ex, asrtP (fun _ => lim (by rw [ht]; simp; omega)), wrapI (x := (at38 s.tr q.2.1).1 - downX q.2.1 s) (by omega) (by omega), wrapI (x := s.pot - downX q.2.1 s) (by omega) (by omega), max0]
      have e1 : max (s.pot - downX q.2.1 s) 0 = s.pot - downX q.2.1 s := by omega
      rw [e1]
      rfl
    · have es : stepF dc tes s q = fillF q.2.2.1 s := by unfold stepF; rw [if_neg (by omega), if_neg (by omega), if_pos h1]
      obtain ⟨b1, b2, _⟩ := fill_b hI q.2.2.1
      unfold Mny at ha
      rw [es, bifF (beq_eq_false_iff_ne.2 (by omega)), bifF (beq_eq_false_iff_ne.2 (by omega)), bifT (beq_iff_eq.2 h1)]
      have e1 : max (s.pot - fillX q.2.2.1 s) 0 = s.pot - fillX q.2.2.1 s := by omega
      by_cases c : s.res < q.2.2.1
      · rw [bifT (decide_eq_true c), wrapI (x := q.2.2.1 - s.res) (by omega) (by omega), min_eq s.pot (q.2.2.1 - s.res)]
        have ex : min s.pot (q.2.2.1 - s.res) = fillX q.2.2.1 s := by unfold fillX; omega
        rw [ex, asrtP (fun _ => lim (by rw [ht]; simp; omega)), wrapI (x := s.pot - fillX q.2.2.1 s) (by omega) (by omega), wrapI (x := s.res + fillX q.2.2.1 s) (by omega) (by omega), max0, e1]
        rfl
      · rw [bifF (decide_eq_false c)]
        have ex : fillX q.2.2.1 s = 0 := by unfold fillX; omega
        have ef : fillF q.2.2.1 s = ⟨s.pot, s.res, s.trp, s.eqt, s.tk ++ [0], s.tr⟩ := by unfold fillF; rw [ex, Int.sub_zero, Int.add_zero]
        rw [ef, asrtP (fun _ => lim (by rw [ht]; simp; omega)), wrapI (x := s.pot - 0) (by omega) (by omega), wrapI (x := s.res + 0) (by omega) (by omega), max0, Int.sub_zero, Int.add_zero]
        have e2 : max s.pot 0 = s.pot := by omega
        rw [e2]
    · have es : stepF dc tes s q = trapF (pas dc s.tr (at38 tes q.2.1)) s := by unfold stepF; rw [if_neg (by omega), if_neg (by omega), if_neg (by omega), if_pos h1]
      have hlt : q.2.1.toNat < tes.length := by omega
      have hte := hE.tesOk _ (List.getElem_mem hlt)
      have ei : (q.2.1.toNat : Int) = q.2.1 := Int.toNat_of_nonneg n0
      have e28 := m28_eq (dc, s.res, s.trp, s.eqt, s.tr, tes, sts, ()) hE.colM hlt hI.ok (by show s.tr.length ≤ 40; omega) (by show OkTe s.tr.length _; rw [hlen]; exact hte)
      rw [ei] at e28
      have ea : at38 tes q.2.1 = tes[q.2.1.toNat] := getD_get hlt
      rw [es, bifF (beq_eq_false_iff_ne.2 (by omega)), bifF (beq_eq_false_iff_ne.2 (by omega)), bifF (beq_eq_false_iff_ne.2 (by omega)), bifT (beq_iff_eq.2 h1), e28]
      simp only [Option.bind_some]
      rw [ea]
      unfold trapF
      cases pas dc s.tr tes[q.2.1.toNat] with
      | true =>
        simp only [cond_true, if_pos]
        rw [asrtP (fun _ => lim (by rw [ht]; simp; omega)), wrapI (x := s.pot - 0) (by omega) (by omega), wrapI (x := s.trp + 0) (by omega) (by omega), max0, Int.sub_zero, Int.add_zero]
        have e2 : max s.pot 0 = s.pot := by omega
        rw [e2]
      | false =>
        simp only [cond_false, Bool.false_eq_true, if_false]
        rw [asrtP (fun _ => lim (by rw [ht]; simp; omega)), wrapI (x := s.pot - s.pot) (by omega) (by omega), wrapI (x := s.trp + s.pot) (by omega) (by omega), max0, Int.sub_self]
        rfl
    · have es : stepF dc tes s q = restF s := by unfold stepF; rw [if_neg (by omega), if_neg (by omega), if_neg (by omega), if_neg (by omega)]
      rw [es, bifF (beq_eq_false_iff_ne.2 (by omega)), bifF (beq_eq_false_iff_ne.2 (by omega)), bifF (beq_eq_false_iff_ne.2 (by omega)), bifF (beq_eq_false_iff_ne.2 (by omega)), bifT (beq_iff_eq.2 h1), asrtP (fun _ => lim (by rw [ht]; simp; omega)), wrapI (x := s.pot - s.pot) (by omega) (by omega), wrapI (x := s.eqt + s.pot) (by omega) (by omega), max0, Int.sub_self]
      rfl
  · rintro n s ⟨hI, ht⟩
    show s9_1 _ _ _ _ _ _ _ _ _ _ _ _ _ = _
    unfold s9_1
    rw [bifF (lt0 _)]

/-! Both runs. -/

/-- The waterfall of a deal. -/
def start (d : T25) (m : Int) : FS := ⟨m + d.2.2.1, d.2.1, 0, d.2.2.2.1, [], d.2.2.2.2.1⟩
def fin (d : T25) (m : Int) : FS := d.2.2.2.2.2.2.1.foldl (stepF d.1 d.2.2.2.2.2.1) (start d m)

def zero25 : T25 := (0, 0, 0, 0, [], [], [], ())

def runS (d : T25) (m : Int) : T25 × List Int × Int × Unit :=
  if RightD d ∧ Mny m then
    (if Mny (m + d.2.2.1) then
      (if Mny (fin d m).eqt ∧ Mny ((fin d m).trp + (fin d m).pot) ∧ Mny (fin d m).res then
        ((d.1, (fin d m).res, (fin d m).trp + (fin d m).pot, (fin d m).eqt, (fin d m).tr, d.2.2.2.2.2.1, d.2.2.2.2.2.2.1, ()), (fin d m).tk, 0, ())
      else (zero25, [], 3, ()))
    else (zero25, [], 3, ()))
  else (zero25, [], 1, ())

theorem env8 {d : T25} (h : RightD d) : Env8 d.1 d.2.2.2.2.2.1 d.2.2.2.2.2.2.1 d.2.2.2.2.1.length := ⟨h.1.1, h.2.1.1, h.2.2.2.1, h.2.2.2.2, h.2.1.2.2⟩

theorem finv0 {d : T25} (h : RightD d) {m : Int} (hm : Mny m) (hp : Mny (m + d.2.2.1)) : FInv d.2.2.2.2.1.length (start d m) := by
  obtain ⟨⟨_, a, b, c⟩, _, ok, _⟩ := h
  unfold Mny at *
  refine ⟨?_, ?_, Int.le_refl 0, ?_, ?_, rfl, ok⟩
  · show 0 ≤ m + d.2.2.1; omega
  · show 0 ≤ d.2.1; omega
  · show 0 ≤ d.2.2.2.1; omega
  · show m + d.2.2.1 + d.2.1 + 0 + d.2.2.2.1 ≤ _; omega

theorem c2 (a b : Prop) [Decidable a] [Decidable b] : ((bif ((!decide a) == false) then some (decide b) else some false) : Option Bool) = some (decide (a ∧ b)) := by
  by_cases h : a <;> by_cases h' : b <;> simp [h, h']

theorem m8_eq (d : T25) (m : Int) : m8 d m = some (runS d m) := by
  unfold m8 runS
  simp only [m12_eq, m19_eq, Option.bind_some]
  rw [c2]
  simp only [Option.bind_some]
  by_cases hr : RightD d ∧ Mny m
  case neg =>
    rw [if_neg hr, decide_eq_false hr, bifT (by simp)]
    rfl
  rw [if_pos hr, decide_eq_true hr, decide_eq_true hr.1]
  obtain ⟨hr, hm⟩ := hr
  simp only [Bool.not_true, Bool.or_self, cond_false]
  have hmm := hm
  have ht := hr.1.2.2.1
  have hl := hr.2.1
  unfold Mny at hmm ht
  rw [wrapI (x := m + d.2.2.1) (by omega) (by omega)]
  by_cases hp : Mny (m + d.2.2.1)
  case neg => rw [if_neg hp, decide_eq_false hp]; rfl
  rw [if_pos hp, decide_eq_true hp]
  simp only [Bool.not_true, cond_false]
  rw [cloneM_eq (by omega), cloneM_eq (by omega), cloneM_eq (by omega)]
  simp only [Option.bind_some]
  obtain ⟨e, hI, _⟩ := l8_2_eq (env8 hr) (fun y17 y18 y19 y20 y21 y22 =>
          (bif ((!(decide (Mny y20))) == false) then some (decide (Mny (IntKind.i64.wrap (y19 + y17)))) else some false).bind fun r24 =>
          (bif (((!(decide (Mny y20))) || (!r24)) == false) then some (decide (Mny y18)) else some false).bind fun r25 =>
          bif (((!(decide (Mny y20))) || (!r24)) || (!r25)) then
            some (((0, 0, 0, 0, [], [], [], ()), [], 3, ()) : T25 × List Int × Int × Unit)
          else
            some ((d.1, y18, (IntKind.i64.wrap (y19 + y17)), y20, y22, d.2.2.2.2.2.1, d.2.2.2.2.2.2.1, ()), y21, 0, ())) (start d m) (finv0 hr hm hp) rfl
  refine Eq.trans e ?_
  have h1 := hI.p
  have h2 := hI.t
  have h3 := hI.sum
  have h4 := hI.r
  have h5 := hI.e
  show (bif ((!(decide (Mny (fin d m).eqt))) == false) then some (decide (Mny (IntKind.i64.wrap ((fin d m).trp + (fin d m).pot)))) else some false).bind _ = _
  have ew : IntKind.i64.wrap ((fin d m).trp + (fin d m).pot) = (fin d m).trp + (fin d m).pot := wrapI (by unfold fin; omega) (by unfold fin; omega)
  change (start d m |> fun f => List.foldl (stepF d.1 d.2.2.2.2.2.1) f d.2.2.2.2.2.2.1).pot ≥ 0 at h1
  have eF : List.foldl (stepF d.1 d.2.2.2.2.2.1) (start d m) d.2.2.2.2.2.2.1 = fin d m := rfl
  simp only [eF, ew]
  by_cases c1 : Mny (fin d m).eqt <;> by_cases c2 : Mny ((fin d m).trp + (fin d m).pot) <;> by_cases c3 : Mny (fin d m).res <;> simp [c1, c2, c3, zero25]

theorem m9_eq (d : T25) (m : Int) : m9 d m = some (runS d m) := by
  unfold m9 runS
  simp only [m13_eq, m16_eq, Option.bind_some]
  rw [c2]
  simp only [Option.bind_some]
  by_cases hr : RightD d ∧ Mny m
  case neg =>
    rw [if_neg hr, decide_eq_false hr, bifT (by simp)]
    rfl
  rw [if_pos hr, decide_eq_true hr, decide_eq_true hr.1]
  obtain ⟨hr, hm⟩ := hr
  simp only [Bool.not_true, Bool.or_self, cond_false]
  have hmm := hm
  have ht := hr.1.2.2.1
  have hl := hr.2.1
  unfold Mny at hmm ht
  rw [wrapI (x := m + d.2.2.1) (by omega) (by omega)]
  by_cases hp : Mny (m + d.2.2.1)
  case neg =>
    rw [if_neg hp, bifT (decide_eq_true (by unfold Mny at hp; omega))]
    rfl
  rw [if_pos hp, bifF (decide_eq_false (by unfold Mny at hp; omega)), asrtP (fun _ => lim (by omega))]
  have hI := (l8_2_eq (env8 hr) (R := Unit) (fun _ _ _ _ _ _ => none) (start d m) (finv0 hr hm hp) rfl).2.1
  refine Eq.trans (l9_1_eq d (env8 hr) _ (start d m) (finv0 hr hm hp) rfl) ?_
  have eF : List.foldl (stepF d.1 d.2.2.2.2.2.1) (start d m) d.2.2.2.2.2.2.1 = fin d m := rfl
  rw [eF] at hI
  simp only [eF]
  have h1 := hI.p
  have h2 := hI.t
  have h3 := hI.sum
  have h4 := hI.r
  have h5 := hI.e
  rw [wrapI (x := (fin d m).trp + (fin d m).pot) (by omega) (by omega)]
  by_cases c : Mny (fin d m).eqt ∧ Mny ((fin d m).trp + (fin d m).pot) ∧ Mny (fin d m).res
  · rw [if_pos c]
    obtain ⟨c1, c2, c3⟩ := c
    unfold Mny at c1 c2 c3
    rw [decide_eq_false (show ¬ (fin d m).eqt > 1000000000000000 by omega), decide_eq_false (show ¬ (fin d m).trp + (fin d m).pot > 1000000000000000 by omega), decide_eq_false (show ¬ (fin d m).res > 1000000000000000 by omega)]
    rfl
  · rw [if_neg c, bifT]
    · rfl
    · unfold Mny at c
      simp only [Bool.or_eq_true, decide_eq_true_eq]
      omega

end Go.Proofs.Ytajnmcabnkidjaa
