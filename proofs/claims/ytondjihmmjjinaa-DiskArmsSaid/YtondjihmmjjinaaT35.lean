/- Disk, plain: DiskArms. -/
import Derived.Test.YtondjihmmjjinaaT30
namespace Go.Proofs.Ytondjihmmjjinaa
open Go Go.Eng
set_option linter.unusedVariables false
set_option linter.unusedSimpArgs false

/-- How the disk with a scheduled crash and the other one go together. -/
def Pair (n : Int) (keep : List Int) (count : Int) (d c : A) : Prop :=
  (count < n ∧ c.down = false ∧ c.armed = 0 ∧ d = armA (n - count) keep c) ∨ (n ≤ count ∧ d.down = true ∧ c.down = true ∧ d.fs = c.fs)

theorem l6_eq {R : Type} {l : List T32} (O : Ok l) {n : Int} (hn : 1 ≤ n ∧ n ≤ 60) {keep : List Int} (hk : keep.length ≤ 1000) {hh : Bool}
    {k1 : Int → Bool → Int → List Int → Int → Bool → Int → List Int → List (Int × T62) → List T69 → List (T69 × Bool) → List (Int × T62) → List T69 → List (T69 × Bool) → Option R} {k2 : Bool → Option R} :
    ∀ (m i g : Nat) (count : Int) (d c : A) (fs1 : List (Int × T62)) (qu1 : List T69) (st1 : List (T69 × Bool)) (fs2 : List (Int × T62)) (qu2 : List T69) (st2 : List (T69 × Bool)),
    i + m = l.length → 0 ≤ count ∧ count ≤ i → Rel i d fs1 qu1 st1 → Nice d → Rel i c fs2 qu2 st2 → Nice c → Pair n keep count d c →
    l6_1 l n keep hh k1 k2 (g + m + 1) count (i : Int) d.lost d.down d.armed d.keep c.lost c.down c.armed c.keep fs1 qu1 st1 fs2 qu2 st2 = k2 hh ∨
    ∃ d' c' fs1' qu1' st1' fs2' qu2' st2', l6_1 l n keep hh k1 k2 (g + m + 1) count (i : Int) d.lost d.down d.armed d.keep c.lost c.down c.armed c.keep fs1 qu1 st1 fs2 qu2 st2 = k1 d'.lost d'.down d'.armed d'.keep c'.lost c'.down c'.armed c'.keep fs1' qu1' st1' fs2' qu2' st2' ∧
      Rel l.length d' fs1' qu1' st1' ∧ Rel l.length c' fs2' qu2' st2' ∧ d'.down = c'.down ∧ d'.fs = c'.fs
  | 0, i, g, count, d, c, fs1, qu1, st1, fs2, qu2, st2, hm, hcount, hR, hN, hQ, hM, hP => by
    have hi : i = l.length := by omega
    subst hi
    right
    refine ⟨d, c, fs1, qu1, st1, fs2, qu2, st2, ?_, hR, hQ, ?_, ?_⟩
    · show s6_1 _ _ _ _ _ _ _ _ _ _ _ _ _ _ _ _ _ _ _ _ _ _ _ = _
      unfold s6_1
      rw [show decide (((l.length : Nat) : Int) < (l.length : Int)) = false by simp]
      rfl
    · rcases hP with ⟨_, h1, _, h2⟩ | ⟨_, h1, h2, _⟩
      · rw [h2]; rfl
      · rw [h1, h2]
    · rcases hP with ⟨_, _, _, h2⟩ | ⟨_, _, _, h2⟩
      · rw [h2]; rfl
      · exact h2
  | m + 1, i, g, count, d, c, fs1, qu1, st1, fs2, qu2, st2, hm, hcount, hR, hN, hQ, hM, hP => by
    have hi : i < l.length := by omega
    have hO := O.len
    have hx := List.getElem_mem hi
    have ei : idx l (i : Int) = some l[i] := by rw [idx_nat, List.getElem?_eq_getElem hi]
    have hxs := O.str _ hx
    have hxk := O.kp _ hx
    have hxn := O.num _ hx
    revert hxs hxk hxn
    generalize hX : l[i] = x at *
    intro hxs hxk hxn
    by_cases h4 : x.1 % 8 ≤ 4
    · obtain ⟨fs3, qu3, st3, e9, R3, N3⟩ := m12_eq hR hN (by omega) x hxs hxk hxn
      obtain ⟨fs4, qu4, st4, e11, R4, N4⟩ := m12_eq hQ hM (by omega) x hxs hxk hxn
      -- what a step leaves
      obtain ⟨c', fs5, qu5, st5, R5, N5, P5, hstep⟩ : ∃ c' fs5 qu5 st5, Rel (i + 1) c' fs5 qu5 st5 ∧ Nice c' ∧ Pair n keep (if x.1 % 8 < 4 then count + 1 else count) (doA x d).2 c' ∧
          ∀ (K : Int × Int × Bool × Int × List Int × Int × Bool × Int × List Int × List (Int × T62) × List T69 × List (T69 × Bool) × List (Int × T62) × List T69 × List (T69 × Bool) → Option R),
            (bif (((decide ((if x.1 % 8 < 4 then count + 1 else count) < n)) == false) && ((((if x.1 % 8 < 4 then count + 1 else count) == n) && ((x.1 % 8) == 4)) == true)) then
              bif ((decide ((if x.1 % 8 < 4 then count + 1 else count) < n)) || ((((if x.1 % 8 < 4 then count + 1 else count) == n) && ((x.1 % 8) == 4)) && (!(doA x d).2.down))) then
                (idx l (i : Int)).bind fun x10 =>
                (m12 x10 c.lost c.down c.armed c.keep fs2 qu2 st2).bind fun r11 =>
                bif ((doA x d).1 != r11.1.1) then
                  k2 false
                else
                  K ((if x.1 % 8 < 4 then count + 1 else count), (doA x d).2.lost, (doA x d).2.down, (doA x d).2.armed, (doA x d).2.keep, r11.2.1.2.2.2.1, r11.2.1.2.2.2.2.1, r11.2.1.2.2.2.2.2.1, r11.2.1.2.2.2.2.2.2.1, fs3, qu3, st3, r11.2.2.1, r11.2.2.2.2.2.1, r11.2.2.2.2.2.2.1)
              else
                cont (fun (k16 : (Int × Bool × Int × (List Int) × (List (Int × T62)) × (List T69) × (List (T69 × Bool))) → Option R) =>
                  bif (((if x.1 % 8 < 4 then count + 1 else count) == n) && (decide ((x.1 % 8) < 2))) then
                    (idx l (i : Int)).bind fun x14 =>
                    (m12 x14 c.lost c.down c.armed c.keep fs2 qu2 st2).bind fun r15 =>
                    k16 (r15.2.1.2.2.2.1, r15.2.1.2.2.2.2.1, r15.2.1.2.2.2.2.2.1, r15.2.1.2.2.2.2.2.2.1, r15.2.2.1, r15.2.2.2.2.2.1, r15.2.2.2.2.2.2.1)
                  else
                    k16 (c.lost, c.down, c.armed, c.keep, fs2, qu2, st2)) fun y16 =>
                cont (fun (k18 : (Int × Bool × Int × (List Int) × (List (Int × T62)) × (List T69) × (List (T69 × Bool))) → Option R) =>
                  bif (((if x.1 % 8 < 4 then count + 1 else count) == n) && (decide ((x.1 % 8) < 4))) then
                    (m25 keep y16.1 y16.2.1 y16.2.2.1 y16.2.2.2.1 y16.2.2.2.2.1 y16.2.2.2.2.2.1 y16.2.2.2.2.2.2).bind fun r17 =>
                    k18 (r17.2.1.2.2.2.1, r17.2.1.2.2.2.2.1, r17.2.1.2.2.2.2.2.1, r17.2.1.2.2.2.2.2.2.1, r17.2.2.1, r17.2.2.2.2.2.1, r17.2.2.2.2.2.2.1)
                  else
                    k18 (y16.1, y16.2.1, y16.2.2.1, y16.2.2.2.1, y16.2.2.2.2.1, y16.2.2.2.2.2.1, y16.2.2.2.2.2.2)) fun y18 =>
                bif (((decide ((x.1 % 8) < 4)) && ((doA x d).1 != 8)) == false) then
                  bif (((decide ((x.1 % 8) < 4)) && ((doA x d).1 != 8)) || (!(doA x d).2.down)) then
                    k2 false
                  else
                    K ((if x.1 % 8 < 4 then count + 1 else count), (doA x d).2.lost, (doA x d).2.down, (doA x d).2.armed, (doA x d).2.keep, y18.1, y18.2.1, y18.2.2.1, y18.2.2.2.1, fs3, qu3, st3, y18.2.2.2.2.1, y18.2.2.2.2.2.1, y18.2.2.2.2.2.2)
                else
                  bif (((decide ((x.1 % 8) < 4)) && ((doA x d).1 != 8)) || true) then
                    k2 false
                  else
                    K ((if x.1 % 8 < 4 then count + 1 else count), (doA x d).2.lost, (doA x d).2.down, (doA x d).2.armed, (doA x d).2.keep, y18.1, y18.2.1, y18.2.2.1, y18.2.2.2.1, fs3, qu3, st3, y18.2.2.2.2.1, y18.2.2.2.2.2.1, y18.2.2.2.2.2.2)
            else
              bif ((decide ((if x.1 % 8 < 4 then count + 1 else count) < n)) || (bif (((if x.1 % 8 < 4 then count + 1 else count) == n) && ((x.1 % 8) == 4)) then true else false)) then
                (idx l (i : Int)).bind fun x12 =>
                (m12 x12 c.lost c.down c.armed c.keep fs2 qu2 st2).bind fun r13 =>
                bif ((doA x d).1 != r13.1.1) then
                  k2 false
                else
                  K ((if x.1 % 8 < 4 then count + 1 else count), (doA x d).2.lost, (doA x d).2.down, (doA x d).2.armed, (doA x d).2.keep, r13.2.1.2.2.2.1, r13.2.1.2.2.2.2.1, r13.2.1.2.2.2.2.2.1, r13.2.1.2.2.2.2.2.2.1, fs3, qu3, st3, r13.2.2.1, r13.2.2.2.2.2.1, r13.2.2.2.2.2.2.1)
              else
                cont (fun (k21 : (Int × Bool × Int × (List Int) × (List (Int × T62)) × (List T69) × (List (T69 × Bool))) → Option R) =>
                  bif (((if x.1 % 8 < 4 then count + 1 else count) == n) && (decide ((x.1 % 8) < 2))) then
                    (idx l (i : Int)).bind fun x19 =>
                    (m12 x19 c.lost c.down c.armed c.keep fs2 qu2 st2).bind fun r20 =>
                    k21 (r20.2.1.2.2.2.1, r20.2.1.2.2.2.2.1, r20.2.1.2.2.2.2.2.1, r20.2.1.2.2.2.2.2.2.1, r20.2.2.1, r20.2.2.2.2.2.1, r20.2.2.2.2.2.2.1)
                  else
                    k21 (c.lost, c.down, c.armed, c.keep, fs2, qu2, st2)) fun y21 =>
                cont (fun (k23 : (Int × Bool × Int × (List Int) × (List (Int × T62)) × (List T69) × (List (T69 × Bool))) → Option R) =>
                  bif (((if x.1 % 8 < 4 then count + 1 else count) == n) && (decide ((x.1 % 8) < 4))) then
                    (m25 keep y21.1 y21.2.1 y21.2.2.1 y21.2.2.2.1 y21.2.2.2.2.1 y21.2.2.2.2.2.1 y21.2.2.2.2.2.2).bind fun r22 =>
                    k23 (r22.2.1.2.2.2.1, r22.2.1.2.2.2.2.1, r22.2.1.2.2.2.2.2.1, r22.2.1.2.2.2.2.2.2.1, r22.2.2.1, r22.2.2.2.2.2.1, r22.2.2.2.2.2.2.1)
                  else
                    k23 (y21.1, y21.2.1, y21.2.2.1, y21.2.2.2.1, y21.2.2.2.2.1, y21.2.2.2.2.2.1, y21.2.2.2.2.2.2)) fun y23 =>
                bif (((decide ((x.1 % 8) < 4)) && ((doA x d).1 != 8)) == false) then
                  bif (((decide ((x.1 % 8) < 4)) && ((doA x d).1 != 8)) || (!(doA x d).2.down)) then
                    k2 false
                  else
                    K ((if x.1 % 8 < 4 then count + 1 else count), (doA x d).2.lost, (doA x d).2.down, (doA x d).2.armed, (doA x d).2.keep, y23.1, y23.2.1, y23.2.2.1, y23.2.2.2.1, fs3, qu3, st3, y23.2.2.2.2.1, y23.2.2.2.2.2.1, y23.2.2.2.2.2.2)
                else
                  bif (((decide ((x.1 % 8) < 4)) && ((doA x d).1 != 8)) || true) then
                    k2 false
                  else
                    K ((if x.1 % 8 < 4 then count + 1 else count), (doA x d).2.lost, (doA x d).2.down, (doA x d).2.armed, (doA x d).2.keep, y23.1, y23.2.1, y23.2.2.1, y23.2.2.2.1, fs3, qu3, st3, y23.2.2.2.2.1, y23.2.2.2.2.2.1, y23.2.2.2.2.2.2)) =
            K ((if x.1 % 8 < 4 then count + 1 else count), (doA x d).2.lost, (doA x d).2.down, (doA x d).2.armed, (doA x d).2.keep, c'.lost, c'.down, c'.armed, c'.keep, fs3, qu3, st3, fs5, qu5, st5) := by
        generalize hc' : (if x.1 % 8 < 4 then count + 1 else count) = count'
        rcases hP with ⟨h1, hcd, hca, hdc⟩ | ⟨h1, hdd, hcd, hfs⟩
        · by_cases hA : count' < n
          · -- before the crash
            obtain ⟨a1, a2, a3⟩ := do_arm (x := x) (r := n - count) (keep := keep) hcd hca h4 (by split at hc' <;> omega)
            rw [← hdc] at a1
            have b1 : decide (count' < n) = true := by simpa using hA
            refine ⟨(doA x c).2, fs4, qu4, st4, R4, N4, .inl ⟨hA, a2, a3, ?_⟩, fun K => ?_⟩
            · rw [a1]
              show armA _ keep (doA x c).2 = armA _ keep (doA x c).2
              congr 1
              split at hc' <;> omega
            · refine bif_f (by rw [b1]; rfl) (bif_t (by rw [b1]; rfl) (bind_to ei (bind_to e11 (bif_f ?_ rfl))))
              rw [a1]
              simp
          · -- the crash
            have hK : x.1 % 8 < 4 := by
              split at hc'
              · assumption
              · omega
            rw [if_pos hK] at hc'
            have hcn : count' = n := by omega
            have hr : n - count = 1 := by omega
            rw [hr] at hdc
            obtain ⟨a1, a2, a3⟩ := do_crash (x := x) (keep := keep) hcd hca hK
            rw [← hdc] at a1 a2 a3
            have b1 : decide (count' < n) = false := by simpa using hA
            have b2 : (count' == n) = true := by simp [hcn]
            have b3 : (x.1 % 8 == 4) = false := by rw [beq_eq_false_iff_ne]; omega
            have b4 : decide (x.1 % 8 < 4) = true := by simpa using hK
            have b5 : (((decide ((x.1 % 8) < 4)) && ((doA x d).1 != 8)) == false) = true := by rw [a1]; simp
            have b6 : (((decide ((x.1 % 8) < 4)) && ((doA x d).1 != 8)) || (!(doA x d).2.down)) = false := by rw [a1, a2]; simp
            by_cases h2 : x.1 % 8 < 2
            · rw [if_pos h2] at a3
              have hcd2 : (doA x c).2.down = false := by
                unfold doA
                rw [if_neg (by omega), if_neg (by omega), if_neg (by omega), if_neg (by omega), if_neg (by omega), if_neg (by omega), write0 hca]
                exact (writeA_state _ _ _).2.trans hcd
              obtain ⟨fs5, qu5, st5, e17, R5⟩ := crash_eq R4 (by omega) (kp := keep) (by omega)
              refine ⟨crashA keep (doA x c).2, fs5, qu5, st5, R5, nice_crash N4 _, .inr ⟨by omega, a2, (crashA_flags hcd2).2.1, a3⟩, fun K => ?_⟩
              refine bif_f (by rw [b1, b2, b3]; rfl) (bif_f (by rw [b1, b2, b3]; rfl) ?_)
              refine (cont_eq ((doA x c).2.lost, (doA x c).2.down, (doA x c).2.armed, (doA x c).2.keep, fs4, qu4, st4) (fun k21 => bif_t (by rw [b2]; simpa using h2) (bind_to ei (bind_to e11 rfl)))).trans ?_
              refine (cont_eq ((crashA keep (doA x c).2).lost, (crashA keep (doA x c).2).down, (crashA keep (doA x c).2).armed, (crashA keep (doA x c).2).keep, fs5, qu5, st5) (fun k23 => bif_t (by rw [b2, b4]; rfl) (bind_to e17 rfl))).trans ?_
              exact bif_t b5 (bif_f b6 rfl)
            · rw [if_neg h2] at a3
              obtain ⟨fs5, qu5, st5, e17, R5⟩ := crash_eq hQ (by omega) (kp := keep) (by omega)
              refine ⟨crashA keep c, fs5, qu5, st5, R5.more (by omega), nice_crash hM _, .inr ⟨by omega, a2, (crashA_flags hcd).2.1, a3⟩, fun K => ?_⟩
              refine bif_f (by rw [b1, b2, b3]; rfl) (bif_f (by rw [b1, b2, b3]; rfl) ?_)
              refine (cont_eq (c.lost, c.down, c.armed, c.keep, fs2, qu2, st2) (fun k21 => bif_f (by rw [b2]; simpa using h2) rfl)).trans ?_
              refine (cont_eq ((crashA keep c).lost, (crashA keep c).down, (crashA keep c).armed, (crashA keep c).keep, fs5, qu5, st5) (fun k23 => bif_t (by rw [b2, b4]; rfl) (bind_to e17 rfl))).trans ?_
              exact bif_t b5 (bif_f b6 rfl)
        · -- behind the crash
          obtain ⟨a1, a2, a3⟩ := do_down (x := x) hdd h4
          have hge : n ≤ count' := by split at hc' <;> omega
          have b1 : decide (count' < n) = false := by simp; omega
          have b5 : (((decide ((x.1 % 8) < 4)) && ((doA x d).1 != 8)) == false) = true := by
            by_cases hK : x.1 % 8 < 4
            · rw [a1 hK]; simp
            · simp [hK]
          have b6 : (((decide ((x.1 % 8) < 4)) && ((doA x d).1 != 8)) || (!(doA x d).2.down)) = false := by
            have : ((decide ((x.1 % 8) < 4)) && ((doA x d).1 != 8)) = false := by
              cases h : ((decide ((x.1 % 8) < 4)) && ((doA x d).1 != 8)) with
              | false => rfl
              | true => rw [h] at b5; cases b5
            rw [this, a2]; rfl
          have b7 : ((count' == n) && (decide ((x.1 % 8) < 2))) = false := by
            rw [Bool.and_eq_false_iff]
            by_cases hK : x.1 % 8 < 4
            · left
              rw [if_pos hK] at hc'
              rw [beq_eq_false_iff_ne]; omega
            · right; simp; omega
          have b8 : ((count' == n) && (decide ((x.1 % 8) < 4))) = false := by
            rw [Bool.and_eq_false_iff]
            by_cases hK : x.1 % 8 < 4
            · left
              rw [if_pos hK] at hc'
              rw [beq_eq_false_iff_ne]; omega
            · right; simp; omega
          refine ⟨c, fs2, qu2, st2, hQ.more (by omega), hM, .inr ⟨hge, a2, hcd, a3.trans hfs⟩, fun K => ?_⟩
          cases b9 : ((count' == n) && ((x.1 % 8) == 4)) with
          | true =>
            refine bif_t (by rw [b1]; rfl) (bif_f (by rw [b1, a2]; rfl) ?_)
            refine (cont_eq (c.lost, c.down, c.armed, c.keep, fs2, qu2, st2) (fun k21 => bif_f b7 rfl)).trans ?_
            refine (cont_eq (c.lost, c.down, c.armed, c.keep, fs2, qu2, st2) (fun k23 => bif_f b8 rfl)).trans ?_
            exact bif_t b5 (bif_f b6 rfl)
          | false =>
            refine bif_f (by rw [b1]; rfl) (bif_f (by rw [b1]; rfl) ?_)
            refine (cont_eq (c.lost, c.down, c.armed, c.keep, fs2, qu2, st2) (fun k21 => bif_f b7 rfl)).trans ?_
            refine (cont_eq (c.lost, c.down, c.armed, c.keep, fs2, qu2, st2) (fun k23 => bif_f b8 rfl)).trans ?_
            exact bif_t b5 (bif_f b6 rfl)
      have ih := l6_eq O hn hk (hh := hh) (k1 := k1) (k2 := k2) m (i + 1) g (if x.1 % 8 < 4 then count + 1 else count) (doA x d).2 c' fs3 qu3 st3 fs5 qu5 st5 (by omega) (by split <;> omega) R3 N3 R5 N5 P5
      have hrun : l6_1 l n keep hh k1 k2 (g + (m + 1) + 1) count (i : Int) d.lost d.down d.armed d.keep c.lost c.down c.armed c.keep fs1 qu1 st1 fs2 qu2 st2 = l6_1 l n keep hh k1 k2 (g + m + 1) (if x.1 % 8 < 4 then count + 1 else count) ((i + 1 : Nat) : Int) (doA x d).2.lost (doA x d).2.down (doA x d).2.armed (doA x d).2.keep c'.lost c'.down c'.armed c'.keep fs3 qu3 st3 fs5 qu5 st5 := by
        show s6_1 _ _ _ _ _ _ _ _ _ _ _ _ _ _ _ _ _ _ _ _ _ _ _ = _
        unfold s6_1
        rw [show decide ((i : Int) < (l.length : Int)) = true by simp; omega, cond_true]
        rw [show IntKind.i64.wrap ((i : Int) + 1) = ((i + 1 : Nat) : Int) by rw [wrapI (by omega) (by omega)]; rfl]
        simp only [and7]
        refine (cont_eq ((if x.1 % 8 < 4 then count + 1 else count), (doA x d).2.lost, (doA x d).2.down, (doA x d).2.armed, (doA x d).2.keep, c'.lost, c'.down, c'.armed, c'.keep, fs3, qu3, st3, fs5, qu5, st5) (fun k24 => ?_)).trans rfl
        refine bind_to ei (bif_f (by simp; omega) ?_)
        refine (cont_eq (if x.1 % 8 < 4 then count + 1 else count) (fun k7 => ?_)).trans ?_
        · by_cases hK : x.1 % 8 < 4
          · refine bif_t (by simpa using hK) ?_
            rw [if_pos hK, wrapI (by omega) (by omega)]
          · refine bif_f (by simpa using hK) ?_
            rw [if_neg hK]
        · exact bind_to ei (bind_to e9 (hstep k24))
      rw [hrun]
      exact ih
    · left
      show s6_1 _ _ _ _ _ _ _ _ _ _ _ _ _ _ _ _ _ _ _ _ _ _ _ = _
      unfold s6_1
      rw [show decide ((i : Int) < (l.length : Int)) = true by simp; omega, cond_true]
      simp only [and7]
      exact bind_to ei (bif_t (by simp; omega) rfl)

theorem diskArms (l : List T32) (n : Int) (keep : List Int) (hl : l.length ≤ 9223372036854775807) (hw : ∀ x ∈ l, x.2.2.1 ≤ 9223372036854775807) : m6 l n keep = some true := by
  unfold m6
  refine bind_to m8_true (bind_to (m9_eq hl) ?_)
  by_cases hc : fewB l = true ∧ keep.length ≤ 60 ∧ 1 ≤ n ∧ n ≤ 60
  · obtain ⟨hf, hk, h1, h2⟩ := hc
    have O := ok_of hf hw
    have hO := O.len
    refine bif_f (by rw [hf]; simp; omega) (bind_to rfl (bind_to rfl (bind_to (cloneM_eq (by omega)) ?_)))
    have e0 : (bif decide (0 > n) then 0 else n) = n := by rw [show decide (0 > n) = false by simp; omega]; rfl
    rw [e0]
    obtain ⟨g, hg⟩ := fuel_s (l.length + 1) (by omega)
    have R0 : Rel 0 (armA n keep A0) [] [] [] := ⟨rel0.hfs, rel0.hqu, rel0.hst, rel0.nf, rel0.ns, rel0.len, rel0.dom, rel0.now, rel0.last⟩
    have N0 : Nice (armA n keep A0) := ⟨⟨by show 0 ≤ n; omega, by show n ≤ _; omega⟩, nice0.lost, by show keep.length ≤ _; omega⟩
    have P0 : Pair n keep 0 (armA n keep A0) A0 := .inl ⟨by omega, rfl, rfl, by rw [Int.sub_zero]⟩
    have h := l6_eq (R := Bool) O ⟨h1, h2⟩ (keep := keep) (by omega) (hh := true) (k1 := fun y25 y26 y27 y28 y29 y30 y31 y32 y33 y34 y35 y36 y37 y38 =>
        (m28 l y25 y26 y27 y28 y29 y30 y31 y32 y33 y34 y35 y36 y37 y38).bind fun r40 =>
        bif ((true && r40.1.1) == true) then
          (m28 l r40.2.1.2.2.2.1 false r40.2.1.2.2.2.2.2.1 r40.2.1.2.2.2.2.2.2.1 r40.2.2.1.2.2.2.1 false r40.2.2.1.2.2.2.2.2.1 r40.2.2.1.2.2.2.2.2.2.1 r40.2.2.2.1 r40.2.2.2.2.1 r40.2.2.2.2.2.1 r40.2.2.2.2.2.2.1 r40.2.2.2.2.2.2.2.1 r40.2.2.2.2.2.2.2.2.1).bind fun r41 =>
          some ((true && r40.1.1) && r41.1.1)
        else
          some ((true && r40.1.1) && false)) (k2 := fun y39 => some y39) l.length 0 g 0 (armA n keep A0) A0 [] [] [] [] [] [] (by omega) ⟨by omega, by omega⟩ R0 N0 rel0 nice0 P0
    rw [show g + l.length + 1 = FUEL by omega] at h
    rcases h with h | ⟨d', c', fs1, qu1, st1, fs2, qu2, st2, h, R1, R2, hd, hfs⟩
    · exact h
    · refine Eq.trans h ?_
      have q1 := m28_eq (l := l) (by omega) R1 R2 hd hfs d'.lost d'.armed d'.keep c'.lost c'.armed c'.keep
      have q2 := m28_eq (l := l) (by omega) (rel_up R1) (rel_up R2) rfl hfs d'.lost d'.armed d'.keep c'.lost c'.armed c'.keep
      exact bind_to q1 (bif_t rfl (bind_to q2 rfl))
  · refine bif_t ?_ rfl
    cases hf : fewB l with
    | false => rfl
    | true =>
      have : ¬ (keep.length ≤ 60 ∧ 1 ≤ n ∧ n ≤ 60) := fun h => hc ⟨hf, h⟩
      simp
      omega

end Go.Proofs.Ytondjihmmjjinaa
