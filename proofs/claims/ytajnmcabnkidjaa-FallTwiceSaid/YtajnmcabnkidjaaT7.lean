/- Fall: what is told; what is kept. -/
import Derived.Test.YtajnmcabnkidjaaT6
namespace Go.Proofs.Ytajnmcabnkidjaa
open Go Go.Eng
set_option linter.unusedVariables false
set_option linter.unusedSimpArgs false

def owed : List T38 → Int
  | [] => 0
  | t :: l => t.1 + t.2.1 + owed l

theorem owed_b : ∀ {l : List T38}, (∀ t ∈ l, OkTr t) → 0 ≤ owed l ∧ owed l ≤ 2000000000000000 * (l.length : Int)
  | [], _ => by simp [owed]
  | t :: l, h => by
    have := owed_b (l := l) (fun x hx => h x (List.mem_cons_of_mem _ hx))
    have h0 := h t (List.mem_cons_self ..)
    unfold OkTr Mny at h0
    rw [List.length_cons]
    unfold owed
    omega

theorem owed_set : ∀ {l : List T38} {i : Nat} (t : T38), i < l.length → owed (l.set i t) = owed l - ((l.getD i (0, 0, ())).1 + (l.getD i (0, 0, ())).2.1) + (t.1 + t.2.1)
  | [], i, t, h => by simp at h
  | a :: l, 0, t, h => by simp [owed]; omega
  | a :: l, i + 1, t, h => by
    have := owed_set (l := l) (i := i) t (by simpa using h)
    simp only [List.set_cons_succ, owed, List.getD_cons_succ]
    rw [this]; omega

theorem owed_fold : ∀ (l : List T38) (s : Int), l.foldl (fun s t => s + t.1 + t.2.1) s = s + owed l
  | [], s => by simp [owed]
  | t :: l, s => by rw [List.foldl_cons, owed_fold l, owed]; omega

theorem m17_eq (d : T25) (h : ∀ t ∈ d.2.2.2.2.1, OkTr t) (hl : d.2.2.2.2.1.length ≤ 40) : m17 d = some (owed d.2.2.2.2.1) := by
  unfold m17
  have := (fold_loop d.2.2.2.2.1 (fun (s : Int) t => s + t.1 + t.2.1) (fun j s => 0 ≤ s ∧ s ≤ 2000000000000000 * (j : Int)) (fun n j s => l17_1 d (fun y => some y) n s j) (fun y => some y) (by omega) (fun n j s hj hI => by
    have h0 := h _ (List.getElem_mem hj)
    unfold OkTr Mny at h0
    refine ⟨?_, by omega⟩
    show s17_1 _ _ _ _ _ = _
    unfold s17_1
    rw [bifT (lt1 hj), ix hj, wrapI (x := (j : Int) + 1) (by omega) (by omega)]
    simp only [Option.bind_some]
    rw [wrapI (x := s + _) (by omega) (by omega), wrapI (x := s + _ + _) (by omega) (by omega)]) (fun n s _ => by
    show s17_1 _ _ _ _ _ = _
    unfold s17_1
    rw [bifF (lt0 _)]) 0 ⟨by omega, by omega⟩).1
  rw [this, owed_fold, Int.zero_add]

/-- What is kept while money goes down. -/
structure Keep (f g : FS) : Prop where
  sum : g.pot + g.res + g.trp + g.eqt - owed g.tr = f.pot + f.res + f.trp + f.eqt - owed f.tr
  eqt : f.eqt ≤ g.eqt
  less : g.pot + g.res + g.trp + g.eqt ≤ f.pot + f.res + f.trp + f.eqt
  tk : (∀ x ∈ f.tk, 0 ≤ x) → ∀ x ∈ g.tk, 0 ≤ x
  tr : ∀ i : Nat, (g.tr.getD i (0, 0, ())).1 ≤ (f.tr.getD i (0, 0, ())).1 ∧ (g.tr.getD i (0, 0, ())).2.1 ≤ (f.tr.getD i (0, 0, ())).2.1

theorem Keep.rfl' (f : FS) : Keep f f := ⟨rfl, Int.le_refl _, Int.le_refl _, id, fun _ => ⟨Int.le_refl _, Int.le_refl _⟩⟩
theorem Keep.trans {f g h : FS} (a : Keep f g) (b : Keep g h) : Keep f h :=
  ⟨b.sum.trans a.sum, Int.le_trans a.eqt b.eqt, Int.le_trans b.less a.less, fun q => b.tk (a.tk q), fun i => ⟨Int.le_trans (b.tr i).1 (a.tr i).1, Int.le_trans (b.tr i).2 (a.tr i).2⟩⟩

theorem getD_set {l : List T38} {n : Nat} (h : n < l.length) (t z : T38) (i : Nat) : (l.set n t).getD i z = if n = i then t else l.getD i z := by
  rw [List.getD_eq_getElem?_getD, List.getElem?_set, List.getD_eq_getElem?_getD]
  by_cases c : n = i
  · subst c; simp [h]
  · simp [c]

theorem snoc_nn {l : List Int} {x : Int} (hx : 0 ≤ x) : (∀ y ∈ l, 0 ≤ y) → ∀ y ∈ l ++ [x], 0 ≤ y := fun h y hy => by
  rcases List.mem_append.1 hy with q | q
  · exact h y q
  · rw [List.mem_singleton.1 q]; exact hx

theorem keep_step {nt : Nat} {f : FS} (h : FInv nt f) {col : Int} {tes : List T38} {s : T41} (hs : OkSt nt tes.length s) : Keep f (stepF col tes f s) := by
  have hp := h.p
  have hr := h.r
  have hlen := h.len
  unfold stepF
  rcases hs with ⟨h1 | h1, n0, n1, _⟩ | ⟨h1, _, _⟩ | ⟨h1, n0, n1, _⟩ | ⟨h1, _, _⟩
  · rw [if_pos h1]
    obtain ⟨b1, b2, b3, b4, b5, b6, b7⟩ := pay_b h n0 n1
    have hlt : s.2.1.toNat < f.tr.length := by omega
    refine ⟨?_, Int.le_refl _, ?_, snoc_nn b1, fun i => ?_⟩
    · show f.pot - _ + (f.res - _) + f.trp + f.eqt - owed (f.tr.set _ _) = _
      rw [owed_set _ hlt]
      show f.pot - _ + (f.res - _) + f.trp + f.eqt - (owed f.tr - ((at38 f.tr s.2.1).1 + (at38 f.tr s.2.1).2.1) + ((at38 f.tr s.2.1).1 + ((at38 f.tr s.2.1).2.1 - _))) = _
      omega
    · show f.pot - min (payX s.2.1 f) f.pot + (f.res - (payX s.2.1 f - min (payX s.2.1 f) f.pot)) + f.trp + f.eqt ≤ f.pot + f.res + f.trp + f.eqt
      omega
    · show ((f.tr.set _ _).getD i _).1 ≤ _ ∧ ((f.tr.set _ _).getD i _).2.1 ≤ _
      rw [getD_set hlt]
      split
      · rename_i c; subst c
        refine ⟨Int.le_refl _, ?_⟩
        show (at38 f.tr s.2.1).2.1 - payX s.2.1 f ≤ (at38 f.tr s.2.1).2.1
        omega
      · exact ⟨Int.le_refl _, Int.le_refl _⟩
  · rw [if_neg (by omega), if_pos h1]
    obtain ⟨b1, b2, b3⟩ := down_b h n0 n1
    have hlt : s.2.1.toNat < f.tr.length := by omega
    refine ⟨?_, Int.le_refl _, ?_, snoc_nn b1, fun i => ?_⟩
    · show f.pot - _ + f.res + f.trp + f.eqt - owed (f.tr.set _ _) = _
      rw [owed_set _ hlt]
      show f.pot - _ + f.res + f.trp + f.eqt - (owed f.tr - ((at38 f.tr s.2.1).1 + (at38 f.tr s.2.1).2.1) + ((at38 f.tr s.2.1).1 - _ + ((at38 f.tr s.2.1).2.1))) = _
      omega
    · show f.pot - downX s.2.1 f + f.res + f.trp + f.eqt ≤ f.pot + f.res + f.trp + f.eqt
      omega
    · show ((f.tr.set _ _).getD i _).1 ≤ _ ∧ ((f.tr.set _ _).getD i _).2.1 ≤ _
      rw [getD_set hlt]
      split
      · rename_i c; subst c
        refine ⟨?_, Int.le_refl _⟩
        show (at38 f.tr s.2.1).1 - downX s.2.1 f ≤ (at38 f.tr s.2.1).1
        omega
      · exact ⟨Int.le_refl _, Int.le_refl _⟩
  · rw [if_neg (by omega), if_neg (by omega), if_pos h1]
    obtain ⟨b1, b2, _⟩ := fill_b h s.2.2.1
    refine ⟨?_, Int.le_refl _, ?_, snoc_nn b1, fun i => ⟨Int.le_refl _, Int.le_refl _⟩⟩
    · show f.pot - _ + (f.res + _) + f.trp + f.eqt - owed f.tr = _; omega
    · show f.pot - _ + (f.res + _) + f.trp + f.eqt ≤ _; omega
  · rw [if_neg (by omega), if_neg (by omega), if_neg (by omega), if_pos h1]
    unfold trapF
    split
    · exact ⟨rfl, Int.le_refl _, Int.le_refl _, snoc_nn (Int.le_refl 0), fun i => ⟨Int.le_refl _, Int.le_refl _⟩⟩
    · refine ⟨?_, Int.le_refl _, ?_, snoc_nn hp, fun i => ⟨Int.le_refl _, Int.le_refl _⟩⟩
      · show 0 + f.res + (f.trp + f.pot) + f.eqt - owed f.tr = _; omega
      · show 0 + f.res + (f.trp + f.pot) + f.eqt ≤ _; omega
  · rw [if_neg (by omega), if_neg (by omega), if_neg (by omega), if_neg (by omega)]
    refine ⟨?_, ?_, ?_, snoc_nn hp, fun i => ⟨Int.le_refl _, Int.le_refl _⟩⟩
    · show 0 + f.res + f.trp + (f.eqt + f.pot) - owed f.tr = _; omega
    · show f.eqt ≤ f.eqt + f.pot; omega
    · show 0 + f.res + f.trp + (f.eqt + f.pot) ≤ _; omega

theorem keep_fold {nt : Nat} {col : Int} {tes : List T38} : ∀ (sts : List T41) (f : FS), FInv nt f → (∀ s ∈ sts, OkSt nt tes.length s) → FInv nt (sts.foldl (stepF col tes) f) ∧ Keep f (sts.foldl (stepF col tes) f)
  | [], f, h, _ => ⟨h, Keep.rfl' f⟩
  | s :: sts, f, h, hs => by
    have h1 := hs s (List.mem_cons_self ..)
    obtain ⟨a, b⟩ := keep_fold sts _ (h.step (col := col) h1) (fun x hx => hs x (List.mem_cons_of_mem _ hx))
    exact ⟨a, (keep_step h h1).trans b⟩

theorem fold_tkl (col : Int) (tes : List T38) : ∀ (sts : List T41) (f : FS), (sts.foldl (stepF col tes) f).tk.length = f.tk.length + sts.length
  | [], f => rfl
  | s :: sts, f => by rw [List.foldl_cons, fold_tkl col tes sts, step_tk, List.length_cons]; omega

/-- The deal afterwards. -/
def after (d : T25) (m : Int) : T25 := (d.1, (fin d m).res, (fin d m).trp + (fin d m).pot, (fin d m).eqt, (fin d m).tr, d.2.2.2.2.2.1, d.2.2.2.2.2.2.1, ())

structure Good (d : T25) (m : Int) : Prop where
  r : RightD d
  mm : Mny m
  mp : Mny (m + d.2.2.1)
  me : Mny (fin d m).eqt
  mt : Mny ((fin d m).trp + (fin d m).pot)
  mr : Mny (fin d m).res

theorem run_ok {d : T25} {m : Int} (h : Good d m) : runS d m = (after d m, (fin d m).tk, 0, ()) := by
  unfold runS
  rw [if_pos ⟨h.r, h.mm⟩, if_pos h.mp, if_pos ⟨h.me, h.mt, h.mr⟩]
  rfl

theorem run_cases (d : T25) (m : Int) : Good d m ∨ ((¬ (RightD d ∧ Mny m) ∧ runS d m = (zero25, [], 1, ())) ∨ ((RightD d ∧ Mny m) ∧ runS d m = (zero25, [], 3, ()) ∧ ¬ (Mny (m + d.2.2.1) ∧ Mny (fin d m).eqt ∧ Mny ((fin d m).trp + (fin d m).pot) ∧ Mny (fin d m).res))) := by
  by_cases h1 : RightD d ∧ Mny m
  · by_cases h2 : Mny (m + d.2.2.1)
    · by_cases h3 : Mny (fin d m).eqt ∧ Mny ((fin d m).trp + (fin d m).pot) ∧ Mny (fin d m).res
      · exact .inl ⟨h1.1, h1.2, h2, h3.1, h3.2.1, h3.2.2⟩
      · refine .inr (.inr ⟨h1, ?_, fun q => h3 q.2⟩)
        unfold runS
        rw [if_pos h1, if_pos h2, if_neg h3]
    · refine .inr (.inr ⟨h1, ?_, fun q => h2 q.1⟩)
      unfold runS
      rw [if_pos h1, if_neg h2]
  · refine .inr (.inl ⟨h1, ?_⟩)
    unfold runS
    rw [if_neg h1]

theorem fin_keep {d : T25} {m : Int} (h : RightD d) (hm : Mny m) (hp : Mny (m + d.2.2.1)) : FInv d.2.2.2.2.1.length (fin d m) ∧ Keep (start d m) (fin d m) :=
  keep_fold _ _ (finv0 h hm hp) h.2.2.2.2

theorem fin_tk (d : T25) (m : Int) : (fin d m).tk.length = d.2.2.2.2.2.2.1.length := by
  unfold fin
  rw [fold_tkl]
  show 0 + _ = _
  omega

theorem after_right {d : T25} {m : Int} (h : Good d m) : RightD (after d m) := by
  obtain ⟨hI, hK⟩ := fin_keep h.r h.mm h.mp
  have hl : (after d m).2.2.2.2.1.length = d.2.2.2.2.1.length := hI.len
  refine ⟨⟨h.r.1.1, h.mr, h.mt, h.me⟩, ⟨by rw [hl]; exact h.r.2.1.1, h.r.2.1.2⟩, hI.ok, ?_, ?_⟩
  · rw [hl]; exact h.r.2.2.2.1
  · rw [hl]; exact h.r.2.2.2.2

theorem run_len (d : T25) (m : Int) : (runS d m).1.2.2.2.2.1.length ≤ 40 ∧ (runS d m).1.2.2.2.2.2.1.length ≤ 40 ∧ (runS d m).1.2.2.2.2.2.2.1.length ≤ 40 ∧ (runS d m).2.1.length ≤ 40 := by
  rcases run_cases d m with h | ⟨_, h⟩ | ⟨_, h, _⟩
  · rw [run_ok h]
    obtain ⟨a, b, c⟩ := (after_right h).2.1
    exact ⟨a, b, c, by show (fin d m).tk.length ≤ 40; rw [fin_tk]; exact h.r.2.1.2.2⟩
  · rw [h]; simp [zero25]
  · rw [h]; simp [zero25]

theorem tells (d : T25) (m i : Int) : m3 d m i = some true := by
  unfold m3
  rw [m7_eq]
  simp only [Option.bind_some]
  obtain ⟨a, b, c, e⟩ := run_len d m
  rw [m8_eq, m9_eq]
  simp only [Option.bind_some]
  rw [m10_self _ (by omega) (by omega) (by omega), m11_eq _ _ (by omega), m12_eq, m13_eq, m14_eq, m15_eq]
  simp

theorem l4_1_eq {R : Type} (l : List Int) (hL : l.length ≤ 1000000) (h : ∀ x ∈ l, 0 ≤ x) (k1 k2 : Option R) : l4_1 l k1 k2 FUEL 0 = k1 := by
  have := all_loop l (fun x => !decide (x < 0)) (fun n j => l4_1 l k1 k2 n j) k1 k2 hL (fun n j hj => by
    show s4_1 _ _ _ _ _ = _
    unfold s4_1
    rw [bifT (lt1 hj), ix hj, wrapI (x := (j : Int) + 1) (by omega) (by omega)]
    simp only [Option.bind_some]
    cases decide (l[j] < 0) <;> rfl) (fun n => by
    show s4_1 _ _ _ _ _ = _
    unfold s4_1
    rw [bifF (lt0 _)])
  refine Eq.trans this (if_pos fun x hx => ?_)
  have := h x hx
  rw [decide_eq_false (by omega)]; rfl

theorem l4_2_eq {R : Type} (a b : T25) (hL : a.2.2.2.2.1.length ≤ 1000000) (hl : a.2.2.2.2.1.length = b.2.2.2.2.1.length)
    (h : ∀ i : Nat, (b.2.2.2.2.1.getD i (0, 0, ())).1 ≤ (a.2.2.2.2.1.getD i (0, 0, ())).1 ∧ (b.2.2.2.2.1.getD i (0, 0, ())).2.1 ≤ (a.2.2.2.2.1.getD i (0, 0, ())).2.1) (k1 k2 : Option R) : l4_2 a b k1 k2 FUEL 0 = k1 := by
  have := cmp_loop a.2.2.2.2.1 b.2.2.2.2.1 (fun x y => !(decide (y.1 > x.1) || decide (y.2.1 > x.2.1))) (fun n j => l4_2 a b k1 k2 n j) k1 k2 hL hl (fun n j hj hj' => by
    show s4_2 _ _ _ _ _ _ = _
    unfold s4_2
    rw [bifT (lt1 hj), ix hj, ix hj', wrapI (x := (j : Int) + 1) (by omega) (by omega)]
    simp only [Option.bind_some, ig38 hj, ig38 hj']
    cases decide (b.2.2.2.2.1[j].1 > a.2.2.2.2.1[j].1)
    · simp only [beq_self_eq_true, cond_true, Bool.false_or]
      cases decide (b.2.2.2.2.1[j].2.1 > a.2.2.2.2.1[j].2.1) <;> rfl
    · rfl) (fun n => by
    show s4_2 _ _ _ _ _ _ = _
    unfold s4_2
    rw [bifF (lt0 _)])
  refine Eq.trans this (if_pos fun t ht => ?_)
  obtain ⟨i, hi, e⟩ := List.getElem_of_mem ht
  rw [List.length_zip] at hi
  rw [List.getElem_zip] at e
  subst e
  have q := h i
  rw [getD_get (by omega), getD_get (by omega)] at q
  show (!(decide (b.2.2.2.2.1[i].1 > a.2.2.2.2.1[i].1) || decide (b.2.2.2.2.1[i].2.1 > a.2.2.2.2.1[i].2.1))) = true
  rw [decide_eq_false (by omega), decide_eq_false (by omega)]; rfl

theorem keeps (d : T25) (m : Int) : m4 d m = some true := by
  unfold m4
  rw [m7_eq, m12_eq]
  simp only [Option.bind_some, m16_eq]
  rw [c2]
  simp only [Option.bind_some]
  by_cases hr : RightD d ∧ Mny m
  case neg =>
    rw [decide_eq_false hr, bifT (by simp)]
  rw [decide_eq_true hr, decide_eq_true hr.1, m8_eq]
  simp only [Bool.not_true, Bool.or_self, cond_false, Option.bind_some]
  have hm := hr.2
  have hcol := hr.1.1
  unfold Mny at hm hcol
  rcases run_cases d m with h | ⟨h, _⟩ | ⟨_, h, hn⟩
  · rw [run_ok h]
    obtain ⟨hI, hK⟩ := fin_keep h.r h.mm h.mp
    have hl : (after d m).2.2.2.2.1.length = d.2.2.2.2.1.length := hI.len
    have h40 := h.r.2.1
    simp only [bne_self_eq_false, cond_false]
    have e1 : (((fin d m).tk.length : Int) != (d.2.2.2.2.2.2.1.length : Int)) = false := by rw [fin_tk]; simp
    have e2 : (((after d m).2.2.2.2.1.length : Int) != (d.2.2.2.2.1.length : Int)) = false := by rw [hl]; simp
    rw [e1, e2]
    simp only [Bool.or_self, beq_self_eq_true, cond_true, m12_eq, decide_eq_true (after_right h), Option.bind_some, Bool.not_true, Bool.false_or]
    have e3 : ((after d m).1 != d.1) = false := by simp [after]
    have e4 : decide ((after d m).2.2.2.1 < d.2.2.2.1) = false := decide_eq_false (by have := hK.eqt; show ¬ (fin d m).eqt < d.2.2.2.1; exact Int.not_lt.2 this)
    rw [e3, e4]
    simp only [Bool.or_self, cond_false]
    rw [l4_1_eq _ (by rw [fin_tk]; omega) (hK.tk (by show ∀ x ∈ ([] : List Int), _; simp)), l4_2_eq d (after d m) (by omega) hl.symm hK.tr, m17_eq d h.r.2.2.1 (by omega), m17_eq (after d m) hI.ok (by omega)]
    simp only [Option.bind_some, Bool.true_and]
    have hs : (fin d m).pot + (fin d m).res + (fin d m).trp + (fin d m).eqt - owed (fin d m).tr = m + d.2.2.1 + d.2.1 + 0 + d.2.2.2.1 - owed d.2.2.2.2.1 := hK.sum
    have o1 := owed_b h.r.2.2.1
    have o2 := owed_b hI.ok
    have hle := hI.len
    have hmt := h.mt
    have hmr := h.mr
    have hme := h.me
    unfold Mny at hmt hmr hme
    show some ((IntKind.i64.wrap ((IntKind.i64.wrap (m + d.2.2.1)) + d.2.1)) == (IntKind.i64.wrap ((IntKind.i64.wrap ((IntKind.i64.wrap ((IntKind.i64.wrap ((IntKind.i64.wrap (owed d.2.2.2.2.1 - owed (fin d m).tr)) + ((fin d m).trp + (fin d m).pot))) + (fin d m).res)) + (fin d m).eqt)) - d.2.2.2.1))) = _
    rw [wrapI (x := m + d.2.2.1) (by omega) (by omega), wrapI (x := m + d.2.2.1 + d.2.1) (by omega) (by omega), wrapI (x := owed d.2.2.2.2.1 - owed (fin d m).tr) (by omega) (by omega), wrapI (x := owed d.2.2.2.2.1 - owed (fin d m).tr + _) (by omega) (by omega), wrapI (x := owed d.2.2.2.2.1 - owed (fin d m).tr + _ + _) (by omega) (by omega), wrapI (x := owed d.2.2.2.2.1 - owed (fin d m).tr + _ + _ + _) (by omega) (by omega), wrapI (x := _ - d.2.2.2.1) (by omega) (by omega)]
    congr 1
    rw [beq_iff_eq]
    omega
  · exact absurd hr h
  · rw [h]
    show some ((true && true) && decide _) = _
    congr 1
    rw [Bool.true_and, Bool.true_and, decide_eq_true_eq]
    rw [wrapI (x := m + d.2.2.1) (by omega) (by omega), wrapI (x := m + d.2.2.1 + _) (by omega) (by omega), wrapI (x := m + d.2.2.1 + _ + _) (by omega) (by omega)]
    apply Classical.byContradiction
    intro hc
    apply hn
    have hp : Mny (m + d.2.2.1) := by unfold Mny; omega
    obtain ⟨hI, hK⟩ := fin_keep hr.1 hr.2 hp
    have hs : (fin d m).pot + (fin d m).res + (fin d m).trp + (fin d m).eqt ≤ m + d.2.2.1 + d.2.1 + 0 + d.2.2.2.1 := hK.less
    have h1 := hI.p
    have h2 := hI.r
    have h3 := hI.t
    have h4 := hI.e
    refine ⟨hp, ?_, ?_, ?_⟩ <;> unfold Mny <;> omega

end Go.Proofs.Ytajnmcabnkidjaa
