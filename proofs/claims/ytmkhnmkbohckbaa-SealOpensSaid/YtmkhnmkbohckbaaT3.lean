/- SealOpens, plainly. -/
import Derived.Test.YtmkhnmkbohckbaaT2
namespace Go.Proofs.Ytmkhnmkbohckbaa
open Go Go.Eng
set_option linter.unusedVariables false
set_option linter.unusedSimpArgs false

theorem opn0 : Opn [] [] 0 := ⟨by simp, by simp, fun x hx => (by cases hx), by simp, fun x hx => (by cases hx)⟩

theorem cl {q : List T31} (h : q.length ≤ 100) : cloneM q = some q := cloneM_eq (by omega)
theorem lt_no (a : Nat) : decide ((a : Int) < (a : Int)) = false := decide_eq_false (by omega)
theorem same_no (a : Nat) : ((a : Int) != (a : Int)) = false := bne_same _

theorem m12_refl (q : List T31) (h : q.length ≤ 100) : m12 q q = some true := by
  rw [m12_eq q q (by omega), decide_eq_true rfl]

theorem sealOpens (l : List T31) (s : T31) : m6 l s = some true := by
  unfold m6
  rw [small7]
  simp only [Option.bind_some]
  obtain ⟨b, eb, hb⟩ := m9_eq l
  rw [eb]
  simp only [Option.bind_some]
  cases b with
  | false => rfl
  | true =>
    have hl := hb rfl
    by_cases hs : (List.length s.2.1 : Int) > 500
    · rw [decide_eq_true hs]; rfl
    · rw [decide_eq_false hs]
      simp only [Bool.not_true, Bool.or_false, cond_false]
      obtain ⟨p, q, hO, e⟩ := l6_1_eq l hl _ l.length FUEL 0 [] [] (by omega) (fuel_lt (by omega)) opn0
      refine Eq.trans e ?_
      have h2 := hO.l2
      have h3 := hO.l3
      have hc := cl (q := q) (by omega)
      have hd : ddF [] q = q := by rw [ddF_once q [] (by simpa using hO.once)]; rfl
      rw [hc]
      simp only [Option.bind_some]
      refine Eq.trans (l6_2_eq q (by omega) _ _ q.length FUEL 0 [] (by omega) (fuel_lt (by omega)) (by simp) (by rw [List.drop_zero]; exact hO.keys)) ?_
      rw [List.drop_zero, hd, lt_no, hc]
      simp only [cond_false, Option.bind_some, m12_refl q (by omega), Bool.not_true]
      refine Eq.trans (l6_3_eq p q (by omega) hO.holds _ _ p.length FUEL 0 (by omega) (fuel_lt (by omega))) ?_
      refine Eq.trans (cont_eq () (fun k46 => ?_)) ?_
      · by_cases h0 : q = []
        · subst h0; rfl
        · have hq0 : 0 < q.length := List.length_pos_iff.2 h0
          rw [bifT (decide_eq_true (by omega)), show decide (List.length (α := T31) q ≤ LIM) = true from lim (by omega), asrtT, wrapI (x := (q.length : Int) - 1) (by omega) (by omega),
            show (q.length : Int) - 1 = ((q.length - 1 : Nat) : Int) by omega, idx_nat, List.getElem?_eq_getElem (by omega), show (0 : Int) = ((0 : Nat) : Int) from rfl, idx_nat, List.getElem?_eq_getElem hq0]
          simp only [Option.bind_some]
          generalize hx : q[q.length - 1] = x
          generalize hy : q[0] = y
          have hxm : x ∈ q := by rw [← hx]; exact List.getElem_mem _
          have hxp : ∃ n, pos q x = some n := pos_mem.2 hxm
          obtain ⟨nn, hxp⟩ := hxp
          rw [asrtP (fun _ => lim (by simp; omega))]
          refine Eq.trans (l6_4_eq (q ++ [x]) (by simp; omega) _ _ (q ++ [x]).length FUEL 0 [] (by omega) (fuel_lt (by simp; omega)) (by simp) (by
            rw [List.drop_zero]
            intro e he
            rcases List.mem_append.1 he with c | c
            · exact hO.keys e c
            · rw [List.mem_singleton] at c; subst c; exact hO.keys _ hxm)) ?_
          have hdx : ddF [] (q ++ [x]) = q := by
            rw [ddF_app, hd]
            simp only [ddF, hxp]
          rw [List.drop_zero, hdx, bifT (decide_eq_true (by simp; omega))]
          rw [asrtP (fun _ => lim (by simp; omega))]
          exact l6_6_bad (q ++ [y, (200, [], ())]) (by simp; omega) _ _ (q ++ [y, (200, [], ())]).length FUEL 0 [] (by omega) (fuel_lt (by simp; omega)) (by simp) ⟨(200, [], ()), by simp, by unfold KeyP; simp⟩
      · have hz : KeyP 0 := by unfold KeyP; simp
        have ht : decide (s.2.1.length + ([120] : List UInt8).length ≤ 4294967296) = true := decide_eq_true (by simp; omega)
        have em : mapAt G31 (.int .i64) (s.1, s.2.1, ()) (zi 0 q) = (pos q s).map fun i => ((0 + i : Nat) : Int) := mapAt_zi _ q 0
        have em2 : mapAt G31 (.int .i64) (0, (s.2.1 ++ [120]), ()) (zi 0 q) = (pos q (0, (s.2.1 ++ [120]), ())).map fun i => ((0 + i : Nat) : Int) := mapAt_zi _ q 0
        have hcs : cloneM (q ++ [(s.1, s.2.1, ())]) = some (q ++ [(s.1, s.2.1, ())]) := cl (by simp; omega)
        have hm2 : m12 (q ++ [(s.1, s.2.1, ())]) (q ++ [(s.1, s.2.1, ())]) = some true := m12_refl _ (by simp; omega)
        have hL1 : ∀ e : T31, decide (List.length (α := T31) q + List.length (α := T31) [e] ≤ LIM) = true := fun e => lim (by simp; omega)
        simp only [hc, Option.bind_some, m21_eq, em, em2, hcs, same_no, beq_self_eq_true, cond_true, m12_refl q (by omega), hm2, Bool.not_true, Bool.or_false, cond_false, ht, asrtT, decide_eq_true hz, hL1, Bool.true_and]
        by_cases hk : KeyP s.1
        · rw [decide_eq_true hk]
          cases h1 : pos q s <;> cases h2 : pos q (0, (s.2.1 ++ [120]), ()) <;> simp [asrtT]
        · rw [decide_eq_false hk]
          cases h2 : pos q (0, (s.2.1 ++ [120]), ()) <;> simp [asrtT]

end Go.Proofs.Ytmkhnmkbohckbaa
