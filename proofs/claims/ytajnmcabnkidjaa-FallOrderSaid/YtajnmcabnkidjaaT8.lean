/- Fall: what is due comes first. -/
import Derived.Test.YtajnmcabnkidjaaT7
namespace Go.Proofs.Ytajnmcabnkidjaa
open Go Go.Eng
set_option linter.unusedVariables false
set_option linter.unusedSimpArgs false

/-- What a step takes. -/
def stepX (col : Int) (tes : List T38) (f : FS) (s : T41) : Int :=
  if s.1 = 0 then payX s.2.1 f else if s.1 = 1 then downX s.2.1 f else if s.1 = 2 then fillX s.2.2.1 f else if s.1 = 3 then (if pas col f.tr (at38 tes s.2.1) = true then 0 else f.pot) else f.pot

theorem step_tk' (col : Int) (tes : List T38) (f : FS) (s : T41) : (stepF col tes f s).tk = f.tk ++ [stepX col tes f s] := by
  unfold stepF stepX
  split
  · rfl
  · split
    · rfl
    · split
      · rfl
      · split
        · unfold trapF; split <;> rfl
        · rfl

theorem fold_pre (col : Int) (tes : List T38) : ∀ (sts : List T41) (f : FS), ∃ l, (sts.foldl (stepF col tes) f).tk = f.tk ++ l
  | [], f => ⟨[], by simp⟩
  | s :: sts, f => by
    obtain ⟨l, e⟩ := fold_pre col tes sts (stepF col tes f s)
    refine ⟨stepX col tes f s :: l, ?_⟩
    rw [List.foldl_cons, e, step_tk', List.append_assoc]; rfl

theorem fold_tk (col : Int) (tes : List T38) {sts : List T41} {f : FS} (hf : f.tk = []) {j : Nat} (hj : j < sts.length) :
    (sts.foldl (stepF col tes) f).tk[j]? = some (stepX col tes ((sts.take j).foldl (stepF col tes) f) sts[j]) := by
  have e : sts.foldl (stepF col tes) f = (sts.drop (j + 1)).foldl (stepF col tes) (stepF col tes ((sts.take j).foldl (stepF col tes) f) sts[j]) := by
    conv => lhs; rw [← List.take_append_drop j sts, List.foldl_append, List.drop_eq_getElem_cons hj, List.foldl_cons]
  obtain ⟨l, el⟩ := fold_pre col tes (sts.drop (j + 1)) (stepF col tes ((sts.take j).foldl (stepF col tes) f) sts[j])
  rw [e, el, step_tk']
  have hl : ((sts.take j).foldl (stepF col tes) f).tk.length = j := by rw [fold_tkl, hf, List.length_take]; simp; omega
  rw [List.append_assoc, List.getElem?_append_right (by omega), hl]
  simp

/-- No later step pays this tranche: what is due stays. -/
theorem due_stays {nt : Nat} {col : Int} {tes : List T38} {n : Int} (hn0 : 0 ≤ n) : ∀ (sts : List T41) (f : FS), FInv nt f → (∀ s ∈ sts, OkSt nt tes.length s) → (∀ s ∈ sts, s.1 ≠ 0 ∨ s.2.1 ≠ n) →
    (at38 (sts.foldl (stepF col tes) f).tr n).2.1 = (at38 f.tr n).2.1
  | [], f, _, _, _ => rfl
  | s :: sts, f, h, hs, hn => by
    have h1 := hs s (List.mem_cons_self ..)
    rw [List.foldl_cons, due_stays hn0 sts _ (h.step h1) (fun x hx => hs x (List.mem_cons_of_mem _ hx)) (fun x hx => hn x (List.mem_cons_of_mem _ hx))]
    have hn1 := hn s (List.mem_cons_self ..)
    have hlen := h.len
    unfold stepF
    rcases h1 with ⟨h1 | h1, n0, n1, _⟩ | ⟨h1, _, _⟩ | ⟨h1, n0, n1, _⟩ | ⟨h1, _, _⟩
    · rw [if_pos h1]
      show ((f.tr.set _ _).getD _ _).2.1 = _
      rw [getD_set (by omega), if_neg (by omega)]; rfl
    · rw [if_neg (by omega), if_pos h1]
      show ((f.tr.set _ _).getD _ _).2.1 = _
      rw [getD_set (by omega)]
      split
      · rename_i c
        show (at38 f.tr s.2.1).2.1 = (at38 f.tr n).2.1
        unfold at38; rw [c]
      · rfl
    · rw [if_neg (by omega), if_neg (by omega), if_pos h1]; rfl
    · rw [if_neg (by omega), if_neg (by omega), if_neg (by omega), if_pos h1]
      unfold trapF; split <;> rfl
    · rw [if_neg (by omega), if_neg (by omega), if_neg (by omega), if_neg (by omega)]; rfl

/-- With nothing in the pot only a step that pays takes anything, and the pot stays empty. -/
theorem dry {nt : Nat} {f : FS} (h : FInv nt f) {col : Int} {tes : List T38} {s : T41} (hs : OkSt nt tes.length s) (hp : f.pot = 0) : (stepF col tes f s).pot = 0 ∧ (s.1 ≠ 0 → stepX col tes f s = 0) ∧ (f.res = 0 → stepX col tes f s = 0 ∧ (stepF col tes f s).res = 0) := by
  have hr := h.r
  unfold stepF stepX
  rcases hs with ⟨h1 | h1, n0, n1, _⟩ | ⟨h1, _, _⟩ | ⟨h1, n0, n1, _⟩ | ⟨h1, _, _⟩
  · obtain ⟨b1, b2, b3, b4, b5, b6, b7⟩ := pay_b h n0 n1
    rw [if_pos h1, if_pos h1]
    refine ⟨?_, fun q => absurd h1 q, fun q => ?_⟩
    · show f.pot - min (payX s.2.1 f) f.pot = 0; omega
    · show payX s.2.1 f = 0 ∧ f.res - (payX s.2.1 f - min (payX s.2.1 f) f.pot) = 0; omega
  · obtain ⟨b1, b2, b3⟩ := down_b h n0 n1
    rw [if_neg (by omega), if_pos h1, if_neg (by omega), if_pos h1]
    refine ⟨?_, fun q => ?_, fun q => ⟨?_, q⟩⟩
    · show f.pot - downX s.2.1 f = 0; omega
    · omega
    · omega
  · obtain ⟨b1, b2, _⟩ := fill_b h s.2.2.1
    rw [if_neg (by omega), if_neg (by omega), if_pos h1, if_neg (by omega), if_neg (by omega), if_pos h1]
    refine ⟨?_, fun q => ?_, fun q => ⟨?_, ?_⟩⟩
    · show f.pot - fillX s.2.2.1 f = 0; omega
    · omega
    · omega
    · show f.res + fillX s.2.2.1 f = 0; omega
  · rw [if_neg (by omega), if_neg (by omega), if_neg (by omega), if_pos h1, if_neg (by omega), if_neg (by omega), if_neg (by omega), if_pos h1]
    unfold trapF
    split
    · exact ⟨hp, fun _ => rfl, fun q => ⟨rfl, q⟩⟩
    · exact ⟨rfl, fun _ => hp, fun q => ⟨hp, q⟩⟩
  · rw [if_neg (by omega), if_neg (by omega), if_neg (by omega), if_neg (by omega), if_neg (by omega), if_neg (by omega), if_neg (by omega), if_neg (by omega)]
    exact ⟨rfl, fun _ => hp, fun q => ⟨hp, q⟩⟩

def lastB (l : List T41) (n : Int) : Bool := decide (∀ t ∈ l, t.1 ≠ 0 ∨ t.2.1 ≠ n)

theorem l5_1_eq {R : Type} (d : T25) (s : T41) (hL : d.2.2.2.2.2.2.1.length ≤ 40) (k : Bool → Option R) : ∀ (m n j : Nat) (b : Bool), j + m = d.2.2.2.2.2.2.1.length → m < n →
    l5_1 d s k n b j = k (b && lastB (d.2.2.2.2.2.2.1.drop j) s.2.1)
  | 0, n + 1, j, b, hj, _ => by
    have : j = d.2.2.2.2.2.2.1.length := by omega
    subst this
    show s5_1 _ _ _ _ _ _ = _
    unfold s5_1
    rw [bifF (lt0 _), List.drop_length]
    simp [lastB]
  | m + 1, n + 1, j, b, hj, hn => by
    have hlt : j < d.2.2.2.2.2.2.1.length := by omega
    show s5_1 _ _ _ _ _ _ = _
    unfold s5_1
    rw [bifT (lt1 hlt), wrapI (x := (j : Int) + 1) (by omega) (by omega)]
    have e : ∀ g, idxG g (0, 0, 0, ()) d.2.2.2.2.2.2.1 (j : Int) = some (bif g then d.2.2.2.2.2.2.1[j] else (0, 0, 0, ())) := by
      intro g; unfold idxG; rw [idx_nat, List.getElem?_eq_getElem hlt]; cases g <;> rfl
    simp only [e, Option.bind_some]
    have ih := fun b => l5_1_eq d s hL k m n (j + 1) b (by omega) (by omega)
    rw [show ((j : Int) + 1) = ((j + 1 : Nat) : Int) by omega, ih, List.drop_eq_getElem_cons hlt]
    congr 1
    rw [Bool.and_assoc]
    cases b with
    | false => rfl
    | true =>
      simp only [beq_self_eq_true, cond_true, Bool.true_and]
      rw [Bool.eq_iff_iff]
      unfold lastB
      simp only [Bool.and_eq_true, Bool.or_eq_true, bne_iff_ne, decide_eq_true_eq, List.forall_mem_cons]
      refine and_congr_left fun _ => ?_
      by_cases c : (d.2.2.2.2.2.2.1[j]).1 = 0
      · simp [c]
      · simp [c]

theorem order (d : T25) (m : Int) : m5 d m = some true := by
  unfold m5
  rw [m7_eq, m12_eq, m8_eq]
  simp only [Option.bind_some]
  rcases run_cases d m with h | ⟨_, h⟩ | ⟨_, h, _⟩
  · rw [decide_eq_true h.r, run_ok h]
    obtain ⟨hI, hK⟩ := fin_keep h.r h.mm h.mp
    have hl : (after d m).2.2.2.2.1.length = d.2.2.2.2.1.length := hI.len
    have h40 := h.r.2.1
    simp only [Bool.not_true, bne_self_eq_false, cond_false]
    have e1 : (((fin d m).tk.length : Int) != (d.2.2.2.2.2.2.1.length : Int)) = false := by rw [fin_tk]; simp
    have e2 : (((after d m).2.2.2.2.1.length : Int) != (d.2.2.2.2.1.length : Int)) = false := by rw [hl]; simp
    rw [e1, e2]
    simp only [Bool.or_self, cond_false]
    -- the loop
    have key : ∀ (k n j : Nat) (a b : Bool), j + k = d.2.2.2.2.2.2.1.length → k < n →
        (a = true → ((d.2.2.2.2.2.2.1.take j).foldl (stepF d.1 d.2.2.2.2.2.1) (start d m)).pot = 0 ∧ ((d.2.2.2.2.2.2.1.take j).foldl (stepF d.1 d.2.2.2.2.2.1) (start d m)).res = 0) →
        (b = true → ((d.2.2.2.2.2.2.1.take j).foldl (stepF d.1 d.2.2.2.2.2.1) (start d m)).pot = 0) →
        l5_2 (fin d m).tk d (after d m) (fun y13 => some (true && ((!y13) || ((after d m).2.1 == 0)))) (some false) n a b j = some true := by
      intro k
      induction k with
      | zero =>
        intro n j a b hj hn ha hb
        obtain ⟨n, rfl⟩ : ∃ m, n = m + 1 := ⟨n - 1, by omega⟩
        have : j = d.2.2.2.2.2.2.1.length := by omega
        subst this
        show s5_2 _ _ _ _ _ _ _ _ _ = _
        unfold s5_2
        rw [fin_tk, bifF (lt0 _)]
        rw [List.take_of_length_le (Nat.le_refl _)] at ha
        cases a with
        | false => rfl
        | true =>
          have : (after d m).2.1 = 0 := (ha rfl).2
          rw [this]; rfl
      | succ k ih =>
        intro n j a b hj hn ha hb
        obtain ⟨n, rfl⟩ : ∃ m, n = m + 1 := ⟨n - 1, by omega⟩
        have hlt : j < d.2.2.2.2.2.2.1.length := by omega
        have hlt' : j < (fin d m).tk.length := by rw [fin_tk]; exact hlt
        have hst := h.r.2.2.2.2 _ (List.getElem_mem hlt)
        have hIj := (keep_fold (col := d.1) (d.2.2.2.2.2.2.1.take j) (start d m) (finv0 h.r h.mm h.mp) (fun s hs => h.r.2.2.2.2 s (List.mem_of_mem_take hs))).1
        have etk : (fin d m).tk[j] = stepX d.1 d.2.2.2.2.2.1 ((d.2.2.2.2.2.2.1.take j).foldl (stepF d.1 d.2.2.2.2.2.1) (start d m)) d.2.2.2.2.2.2.1[j] := by
          have := fold_tk d.1 d.2.2.2.2.2.1 (f := start d m) rfl hlt
          rw [show d.2.2.2.2.2.2.1.foldl (stepF d.1 d.2.2.2.2.2.1) (start d m) = fin d m from rfl, List.getElem?_eq_getElem hlt'] at this
          exact Option.some.inj this
        have efin : fin d m = (d.2.2.2.2.2.2.1.drop (j + 1)).foldl (stepF d.1 d.2.2.2.2.2.1) (stepF d.1 d.2.2.2.2.2.1 ((d.2.2.2.2.2.2.1.take j).foldl (stepF d.1 d.2.2.2.2.2.1) (start d m)) d.2.2.2.2.2.2.1[j]) := by
          unfold fin
          conv => lhs; rw [← List.take_append_drop j d.2.2.2.2.2.2.1, List.foldl_append, List.drop_eq_getElem_cons hlt, List.foldl_cons]
        have etake : (d.2.2.2.2.2.2.1.take (j + 1)).foldl (stepF d.1 d.2.2.2.2.2.1) (start d m) = stepF d.1 d.2.2.2.2.2.1 ((d.2.2.2.2.2.2.1.take j).foldl (stepF d.1 d.2.2.2.2.2.1) (start d m)) d.2.2.2.2.2.2.1[j] := by
          rw [List.take_succ_eq_append_getElem hlt, List.foldl_append]; rfl
        show s5_2 _ _ _ _ _ _ _ _ _ = _
        unfold s5_2
        rw [bifT (lt1 hlt'), ix hlt, wrapI (x := (j : Int) + 1) (by omega) (by omega)]
        have e : ∀ g, idxG g 0 (fin d m).tk (j : Int) = some (bif g then (fin d m).tk[j] else 0) := by
          intro g; unfold idxG; rw [idx_nat, List.getElem?_eq_getElem hlt']; cases g <;> rfl
        simp only [e, Option.bind_some, etk]
        have ih' := fun a b => ih n (j + 1) a b (by omega) (by omega)
        rw [etake] at ih'
        rw [show ((j : Int) + 1) = ((j + 1 : Nat) : Int) by omega]
        generalize hf : (d.2.2.2.2.2.2.1.take j).foldl (stepF d.1 d.2.2.2.2.2.1) (start d m) = f at *
        have hdrop : ∀ s ∈ d.2.2.2.2.2.2.1.drop (j + 1), OkSt d.2.2.2.2.1.length d.2.2.2.2.2.1.length s := fun s hs => h.r.2.2.2.2 s (List.mem_of_mem_drop hs)
        generalize hsj : d.2.2.2.2.2.2.1[j] = s at *
        have hdry := fun hp => dry hIj (col := d.1) hst hp
        -- neither is broken
        have hx : stepX d.1 d.2.2.2.2.2.1 f s ≠ 0 → a = false ∧ (b = true → s.1 = 0) := by
          intro hx
          constructor
          · cases a with
            | false => rfl
            | true => exact absurd ((hdry (ha rfl).1).2.2 (ha rfl).2).1 hx
          · intro hb'
            apply Classical.byContradiction
            intro q
            exact hx ((hdry (hb hb')).2.1 q)
        rw [bifF]
        case succ.h =>
          by_cases q : stepX d.1 d.2.2.2.2.2.1 f s = 0
          · rw [q]; cases a <;> cases b <;> simp <;> split <;> simp
          · obtain ⟨qa, qb⟩ := hx q
            subst qa
            cases b with
            | false => simp
            | true => simp [qb rfl]
        rw [l5_1_eq d s (by omega) _ k FUEL (j + 1) _ (by omega) (fuel_lt (by omega))]
        -- what is due
        have hdue : ((s.1 == 0) && lastB (d.2.2.2.2.2.2.1.drop (j + 1)) s.2.1) = true → 0 ≤ s.2.1 ∧ s.2.1 < ((after d m).2.2.2.2.1.length : Int) ∧ ((at38 (after d m).2.2.2.2.1 s.2.1).2.1 > 0 → (stepF d.1 d.2.2.2.2.2.1 f s).pot = 0 ∧ (stepF d.1 d.2.2.2.2.2.1 f s).res = 0) := by
          intro q
          simp only [lastB, Bool.and_eq_true, beq_iff_eq, decide_eq_true_eq] at q
          obtain ⟨q1, q2⟩ := q
          have hn : 0 ≤ s.2.1 ∧ s.2.1 < (d.2.2.2.2.1.length : Int) := by
            rcases hst with ⟨h1 | h1, n0, n1, _⟩ | ⟨h1, _, _⟩ | ⟨h1, n0, n1, _⟩ | ⟨h1, _, _⟩
            · exact ⟨n0, n1⟩
            all_goals omega
          refine ⟨hn.1, by rw [hl]; exact hn.2, ?_⟩
          show (at38 (fin d m).tr s.2.1).2.1 > 0 → _
          rw [efin, due_stays hn.1 _ _ (hIj.step hst) hdrop q2]
          have es : stepF d.1 d.2.2.2.2.2.1 f s = payF s.2.1 f := if_pos q1
          rw [es]
          show ((f.tr.set s.2.1.toNat ((at38 f.tr s.2.1).1, (at38 f.tr s.2.1).2.1 - payX s.2.1 f, ())).getD s.2.1.toNat (0, 0, ())).2.1 > 0 → f.pot - min (payX s.2.1 f) f.pot = 0 ∧ f.res - (payX s.2.1 f - min (payX s.2.1 f) f.pot) = 0
          have hlen := hIj.len
          rw [getD_set (by omega), if_pos rfl]
          show (at38 f.tr s.2.1).2.1 - payX s.2.1 f > 0 → _
          have hp := hIj.p
          have hr := hIj.r
          unfold payX
          omega
        have hshut : ((b || ((s.1 == 3) && decide ((bif ((s.1 == 3) == true) then stepX d.1 d.2.2.2.2.2.1 f s else 0) > 0))) || (s.1 == 4)) = true → (stepF d.1 d.2.2.2.2.2.1 f s).pot = 0 := by
          intro q
          cases hb' : b with
          | true => exact (hdry (hb hb')).1
          | false =>
            rw [hb'] at q
            by_cases q3 : s.1 = 3
            · have q' : stepX d.1 d.2.2.2.2.2.1 f s > 0 := by simpa [q3] using q
              unfold stepX at q'
              rw [if_neg (by omega), if_neg (by omega), if_neg (by omega), if_pos q3] at q'
              unfold stepF
              rw [if_neg (by omega), if_neg (by omega), if_neg (by omega), if_pos q3]
              unfold trapF
              split at q'
              · omega
              · rename_i c; rw [if_neg c]
            · have q4 : s.1 = 4 := by simpa [q3] using q
              unfold stepF
              rw [if_neg (by omega), if_neg (by omega), if_neg (by omega), if_neg (by omega)]
              rfl
        have hkeep : a = true → (stepF d.1 d.2.2.2.2.2.1 f s).pot = 0 ∧ (stepF d.1 d.2.2.2.2.2.1 f s).res = 0 := fun q => ⟨(hdry (ha q).1).1, ((hdry (ha q).1).2.2 (ha q).2).2⟩
        generalize ((s.1 == 0) && lastB (d.2.2.2.2.2.2.1.drop (j + 1)) s.2.1) = y9 at hdue
        simp only [cont]
        cases y9 with
        | false =>
          have eg : idxG (false == true) (0, 0, ()) (after d m).2.2.2.2.1 s.2.1 = some (0, 0, ()) := rfl
          rw [eg]
          simp only [Option.bind_some, Bool.false_and, cond_false]
          exact ih' _ _ hkeep hshut
        | true =>
          obtain ⟨n0, n1, hd⟩ := hdue rfl
          have eg : idxG (true == true) (0, 0, ()) (after d m).2.2.2.2.1 s.2.1 = some (at38 (after d m).2.2.2.2.1 s.2.1) := by
            have := ig38 (l := (after d m).2.2.2.2.1) (j := s.2.1.toNat) (by omega) true
            rw [Int.toNat_of_nonneg n0] at this
            refine Eq.trans this ?_
            show some ((after d m).2.2.2.2.1[s.2.1.toNat]'(by omega)) = _
            unfold at38
            rw [getD_get (by omega)]
          rw [eg]
          simp only [Option.bind_some, Bool.true_and]
          by_cases c : (at38 (after d m).2.2.2.2.1 s.2.1).2.1 > 0
          · rw [bifT (decide_eq_true c)]
            exact ih' _ _ (fun _ => hd c) hshut
          · rw [bifF (decide_eq_false c)]
            exact ih' _ _ hkeep hshut
    exact key d.2.2.2.2.2.2.1.length FUEL 0 false false (by omega) (fuel_lt (by omega)) (fun q => by cases q) (fun q => by cases q)
  · rw [h]; cases decide (RightD d) <;> rfl
  · rw [h]; cases decide (RightD d) <;> rfl

end Go.Proofs.Ytajnmcabnkidjaa
