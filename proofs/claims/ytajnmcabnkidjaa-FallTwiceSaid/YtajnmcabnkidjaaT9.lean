/- Fall: one amount after the other. -/
import Derived.Test.YtajnmcabnkidjaaT7
namespace Go.Proofs.Ytajnmcabnkidjaa
open Go Go.Eng
set_option linter.unusedVariables false
set_option linter.unusedSimpArgs false

def capS (s : T41) (l : List T38) : Int := if s.1 = 0 then (at38 l s.2.1).2.1 else (at38 l s.2.1).1
def takeS (s : T41) (x : Int) (l : List T38) : List T38 := l.set s.2.1.toNat (if s.1 = 0 then ((at38 l s.2.1).1, (at38 l s.2.1).2.1 - x, ()) else ((at38 l s.2.1).1 - x, (at38 l s.2.1).2.1, ()))
def stP (q : Int × List T38) (s : T41) : Int × List T38 := (q.1 - min (capS s q.2) q.1, takeS s (min (capS s q.2) q.1) q.2)

def K01 (s : T41) : Prop := s.1 = 0 ∨ s.1 = 1

theorem step01 {col : Int} {tes : List T38} {f : FS} {s : T41} (hr : f.res = 0) (hs : K01 s) :
    (stepF col tes f s).pot = (stP (f.pot, f.tr) s).1 ∧ (stepF col tes f s).tr = (stP (f.pot, f.tr) s).2 ∧ (stepF col tes f s).res = 0 ∧ (stepF col tes f s).trp = f.trp ∧ (stepF col tes f s).eqt = f.eqt := by
  unfold stepF stP capS takeS
  rcases hs with h | h
  · have e : payX s.2.1 f = min (at38 f.tr s.2.1).2.1 f.pot := by unfold payX; rw [hr, Int.add_zero]
    have e2 : min (payX s.2.1 f) f.pot = payX s.2.1 f := by omega
    rw [if_pos h, if_pos h]
    refine ⟨?_, ?_, ?_, rfl, rfl⟩
    · show f.pot - min (payX s.2.1 f) f.pot = _
      rw [e2, e]
    · show f.tr.set s.2.1.toNat ((at38 f.tr s.2.1).1, (at38 f.tr s.2.1).2.1 - payX s.2.1 f, ()) = _
      rw [e, if_pos h]
    · show f.res - (payX s.2.1 f - min (payX s.2.1 f) f.pot) = 0
      omega
  · rw [if_neg (by omega), if_pos h, if_neg (by omega)]
    refine ⟨rfl, ?_, hr, rfl, rfl⟩
    rw [if_neg (by omega)]
    rfl

theorem fold01 {col : Int} {tes : List T38} : ∀ (sts : List T41) (f : FS), f.res = 0 → (∀ s ∈ sts, K01 s) →
    (sts.foldl (stepF col tes) f).pot = (sts.foldl stP (f.pot, f.tr)).1 ∧ (sts.foldl (stepF col tes) f).tr = (sts.foldl stP (f.pot, f.tr)).2 ∧ (sts.foldl (stepF col tes) f).res = 0 ∧ (sts.foldl (stepF col tes) f).trp = f.trp ∧ (sts.foldl (stepF col tes) f).eqt = f.eqt
  | [], f, hr, _ => ⟨rfl, rfl, hr, rfl, rfl⟩
  | s :: sts, f, hr, hs => by
    obtain ⟨a, b, c, e, g⟩ := step01 (col := col) (tes := tes) hr (hs s (List.mem_cons_self ..))
    obtain ⟨a', b', c', e', g'⟩ := fold01 (col := col) (tes := tes) sts (stepF col tes f s) c (fun x hx => hs x (List.mem_cons_of_mem _ hx))
    rw [List.foldl_cons, List.foldl_cons, a', b', c', e', g', a, b, e, g]
    exact ⟨rfl, rfl, rfl, rfl, rfl⟩

def Nn (l : List T38) : Prop := ∀ t ∈ l, 0 ≤ t.1 ∧ 0 ≤ t.2.1
def In (l : List T38) (s : T41) : Prop := 0 ≤ s.2.1 ∧ s.2.1 < (l.length : Int)

theorem capS_nn {l : List T38} (h : Nn l) {s : T41} (hi : In l s) : 0 ≤ capS s l := by
  have := h _ (at_mem hi.1 hi.2)
  unfold capS
  split
  · exact this.2
  · exact this.1

theorem take_at {l : List T38} {s : T41} (hi : In l s) (x n : Int) : at38 (takeS s x l) n = if s.2.1.toNat = n.toNat then (if s.1 = 0 then ((at38 l s.2.1).1, (at38 l s.2.1).2.1 - x, ()) else ((at38 l s.2.1).1 - x, (at38 l s.2.1).2.1, ())) else at38 l n := by
  unfold takeS
  show List.getD (l.set _ _) _ _ = _
  rw [getD_set (by have := hi.2; have := hi.1; omega)]
  rfl

theorem take_cap {l : List T38} {s : T41} (hi : In l s) (x : Int) : capS s (takeS s x l) = capS s l - x := by
  unfold capS
  rw [take_at hi, if_pos rfl]
  split <;> rfl

theorem take_len (s : T41) (x : Int) (l : List T38) : (takeS s x l).length = l.length := by unfold takeS; exact List.length_set

theorem take_zero {l : List T38} {s : T41} (hi : In l s) : takeS s 0 l = l := by
  unfold takeS
  have e : (if s.1 = 0 then ((at38 l s.2.1).1, (at38 l s.2.1).2.1 - 0, ()) else ((at38 l s.2.1).1 - 0, (at38 l s.2.1).2.1, ()) : T38) = at38 l s.2.1 := by
    split <;> rw [Int.sub_zero]
  rw [e]
  apply List.ext_getElem? 
  intro i
  rw [List.getElem?_set]
  split
  · rename_i c
    subst c
    rw [if_pos (by have := hi.1; have := hi.2; omega), at_get hi.1 hi.2]
  · rfl

theorem take_take {l : List T38} {s : T41} (hi : In l s) (x y : Int) : takeS s y (takeS s x l) = takeS s (x + y) l := by
  have e := take_at hi x s.2.1
  rw [if_pos rfl] at e
  unfold takeS at e ⊢
  rw [e, List.set_set]
  congr 1
  split
  · show (_, _ - x - y, _) = _
    rw [Int.sub_sub]
  · show (_ - x - y, _, _) = _
    rw [Int.sub_sub]

theorem take_mono {l : List T38} {s : T41} (hi : In l s) {x : Int} (hx : 0 ≤ x) (t : T41) : capS t (takeS s x l) ≤ capS t l := by
  unfold capS
  rw [take_at hi]
  split
  · split
    · rename_i c
      have : at38 l s.2.1 = at38 l t.2.1 := by unfold at38; rw [c]
      split
      · show (at38 l s.2.1).2.1 - x ≤ _; rw [this]; omega
      · show (at38 l s.2.1).2.1 ≤ _; rw [this]; exact Int.le_refl _
    · exact Int.le_refl _
  · split
    · rename_i c
      have : at38 l s.2.1 = at38 l t.2.1 := by unfold at38; rw [c]
      split
      · show (at38 l s.2.1).1 ≤ _; rw [this]; exact Int.le_refl _
      · show (at38 l s.2.1).1 - x ≤ _; rw [this]; omega
    · exact Int.le_refl _

theorem take_nn {l : List T38} {s : T41} (h : Nn l) (hi : In l s) {x : Int} (hx : x ≤ capS s l) : Nn (takeS s x l) := by
  intro t ht
  rcases List.mem_or_eq_of_mem_set ht with q | q
  · exact h t q
  · have := h _ (at_mem hi.1 hi.2)
    unfold capS at hx
    rw [q]
    split
    · rename_i c; rw [if_pos c] at hx; exact ⟨this.1, by show 0 ≤ _ - x; omega⟩
    · rename_i c; rw [if_neg c] at hx; exact ⟨by show 0 ≤ _ - x; omega, this.2⟩

theorem fold_mono : ∀ (sts : List T41) (p : Int) (l : List T38), 0 ≤ p → Nn l → (∀ s ∈ sts, In l s) →
    0 ≤ (sts.foldl stP (p, l)).1 ∧ Nn (sts.foldl stP (p, l)).2 ∧ (sts.foldl stP (p, l)).2.length = l.length ∧ ∀ t, capS t (sts.foldl stP (p, l)).2 ≤ capS t l
  | [], p, l, hp, hn, _ => ⟨hp, hn, rfl, fun _ => Int.le_refl _⟩
  | s :: sts, p, l, hp, hn, hi => by
    have h1 := hi s (List.mem_cons_self ..)
    have hc := capS_nn hn h1
    have hlen := take_len s (min (capS s l) p) l
    obtain ⟨a, b, c, e⟩ := fold_mono sts (p - min (capS s l) p) (takeS s (min (capS s l) p) l) (by omega) (take_nn hn h1 (by omega)) (fun x hx => by have := hi x (List.mem_cons_of_mem _ hx); exact ⟨this.1, by rw [hlen]; exact this.2⟩)
    exact ⟨a, b, c.trans hlen, fun t => Int.le_trans (e t) (take_mono h1 (by omega) t)⟩

theorem fold_zero : ∀ (sts : List T41) (l : List T38), Nn l → (∀ s ∈ sts, In l s) → sts.foldl stP (0, l) = (0, l)
  | [], l, _, _ => rfl
  | s :: sts, l, hn, hi => by
    have h1 := hi s (List.mem_cons_self ..)
    have hc := capS_nn hn h1
    have e : stP (0, l) s = (0, l) := by
      unfold stP
      simp only
      rw [show min (capS s l) 0 = 0 by omega, take_zero h1]; rfl
    rw [List.foldl_cons, e]
    exact fold_zero sts l hn (fun x hx => hi x (List.mem_cons_of_mem _ hx))

theorem fold_twice (q : Int) (hq : 0 ≤ q) : ∀ (sts : List T41) (p : Int) (l : List T38), 0 ≤ p → Nn l → (∀ s ∈ sts, In l s) →
    sts.foldl stP ((sts.foldl stP (p, l)).1 + q, (sts.foldl stP (p, l)).2) = sts.foldl stP (p + q, l)
  | [], p, l, _, _, _ => rfl
  | s :: sts, p, l, hp, hn, hi => by
    have h1 := hi s (List.mem_cons_self ..)
    have hc := capS_nn hn h1
    have hiT : ∀ x y, ∀ s' ∈ sts, In (takeS x y l) s' := fun x y s' hx => by have := hi s' (List.mem_cons_of_mem _ hx); exact ⟨this.1, by rw [take_len]; exact this.2⟩
    have hiT0 : ∀ x y, In (takeS x y l) s := fun x y => ⟨h1.1, by rw [take_len]; exact h1.2⟩
    by_cases c : capS s l ≤ p
    · have e1 : stP (p, l) s = (p - capS s l, takeS s (capS s l) l) := by unfold stP; simp only; rw [show min (capS s l) p = capS s l by omega]
      have e2 : stP (p + q, l) s = (p - capS s l + q, takeS s (capS s l) l) := by unfold stP; simp only; rw [show min (capS s l) (p + q) = capS s l by omega, show p + q - capS s l = p - capS s l + q by omega]
      have hn' : Nn (takeS s (capS s l) l) := take_nn hn h1 (Int.le_refl _)
      have ih := fold_twice q hq sts (p - capS s l) (takeS s (capS s l) l) (by omega) hn' (hiT _ _)
      obtain ⟨a, b, hl, m⟩ := fold_mono sts (p - capS s l) (takeS s (capS s l) l) (by omega) hn' (hiT _ _)
      rw [List.foldl_cons, List.foldl_cons, List.foldl_cons, e1, e2, ← ih]
      congr 1
      generalize sts.foldl stP (p - capS s l, takeS s (capS s l) l) = r at *
      have m' := m s
      rw [take_cap h1, Int.sub_self] at m'
      have hir : In r.2 s := ⟨h1.1, by rw [hl, take_len]; exact h1.2⟩
      have := capS_nn b hir
      unfold stP
      simp only
      rw [show min (capS s r.2) (r.1 + q) = 0 by omega, take_zero hir, Int.sub_zero]
    · have e1 : stP (p, l) s = (0, takeS s p l) := by unfold stP; simp only; rw [show min (capS s l) p = p by omega, Int.sub_self]
      have hn' : Nn (takeS s p l) := take_nn hn h1 (by omega)
      rw [List.foldl_cons, List.foldl_cons, e1, fold_zero sts _ hn' (hiT _ _), List.foldl_cons]
      congr 1
      unfold stP
      simp only
      rw [take_cap h1, take_take h1]
      have e3 : p + min (capS s l - p) (0 + q) = min (capS s l) (p + q) := by omega
      rw [e3]
      congr 1
      omega

theorem all_loopB {α R : Type} (xs : List α) (p : α → Bool) (f : Nat → Int → Option R) (k1 k2 : Option R) (hL : xs.length ≤ 9223372036854775807)
    (hs : ∀ (n j : Nat) (hj : j < xs.length), f (n + 1) (j : Int) = bif p xs[j] then f n ((j : Int) + 1) else k2) (he : ∀ n, f (n + 1) (xs.length : Int) = k1) :
    f FUEL 0 = if ∀ x ∈ xs, p x = true then k1 else k2 := by
  have key : ∀ (m n j : Nat), j + m = xs.length → m < n → (∀ x ∈ xs.take j, p x = true) → f n (j : Int) = if ∀ x ∈ xs, p x = true then k1 else k2 := by
    intro m
    induction m with
    | zero =>
      intro n j hj hn hb
      obtain ⟨n, rfl⟩ : ∃ m, n = m + 1 := ⟨n - 1, by omega⟩
      have : j = xs.length := by omega
      subst this
      rw [he, if_pos]
      rwa [List.take_of_length_le (Nat.le_refl _)] at hb
    | succ m ih =>
      intro n j hj hn hb
      obtain ⟨n, rfl⟩ : ∃ m, n = m + 1 := ⟨n - 1, by omega⟩
      have hlt : j < xs.length := by omega
      rw [hs n j hlt]
      cases hp : p xs[j] with
      | true =>
        refine ih n (j + 1) (by omega) (by omega) ?_
        rw [List.take_succ_eq_append_getElem hlt]
        intro x hx
        rcases List.mem_append.1 hx with q | q
        · exact hb x q
        · rw [List.mem_singleton.1 q]; exact hp
      | false =>
        rw [if_neg]
        · rfl
        · intro h
          rw [h _ (List.getElem_mem hlt)] at hp; cases hp
  exact key xs.length FUEL 0 (by omega) (fuel_lt (by omega)) (by simp)

theorem l6_1_eq {R : Type} (d : T25) (hL : d.2.2.2.2.2.2.1.length ≤ 9223372036854775807) (k1 k2 : Option R) : l6_1 d k1 k2 FUEL 0 = if ∀ s ∈ d.2.2.2.2.2.2.1, (!(s.1 != 0 && s.1 != 1)) = true then k1 else k2 := by
  refine all_loopB d.2.2.2.2.2.2.1 (fun s => !(s.1 != 0 && s.1 != 1)) (fun n j => l6_1 d k1 k2 n j) k1 k2 hL (fun n j hj => ?_) (fun n => ?_)
  · show s6_1 _ _ _ _ _ = _
    unfold s6_1
    have e : ∀ g, idxG g (0, 0, 0, ()) d.2.2.2.2.2.2.1 (j : Int) = some (bif g then d.2.2.2.2.2.2.1[j] else (0, 0, 0, ())) := by
      intro g; unfold idxG; rw [idx_nat, List.getElem?_eq_getElem hj]; cases g <;> rfl
    rw [bifT (lt1 hj), ix hj, wrapI (x := (j : Int) + 1) (by omega) (by omega)]
    simp only [e, Option.bind_some]
    cases (d.2.2.2.2.2.2.1[j].1 != 0) with
    | false => rfl
    | true =>
      simp only [beq_self_eq_true, cond_true, Bool.true_and]
      cases (d.2.2.2.2.2.2.1[j].1 != 1) <;> rfl
  · show s6_1 _ _ _ _ _ = _
    unfold s6_1
    rw [bifF (lt0 _)]

theorem nn_of {d : T25} (h : RightD d) : Nn d.2.2.2.2.1 := fun t ht => ⟨(h.2.2.1 t ht).1.1, (h.2.2.1 t ht).2.1⟩

theorem in_of {d : T25} (h : RightD d) (hk : ∀ s ∈ d.2.2.2.2.2.2.1, K01 s) : ∀ s ∈ d.2.2.2.2.2.2.1, In d.2.2.2.2.1 s := by
  intro s hs
  have h1 := h.2.2.2.2 s hs
  have h2 := hk s hs
  unfold OkSt at h1
  unfold K01 at h2
  unfold In
  omega

theorem fin01 {d : T25} (m : Int) (hk : ∀ s ∈ d.2.2.2.2.2.2.1, K01 s) (hr : d.2.1 = 0) :
    (fin d m).pot = (d.2.2.2.2.2.2.1.foldl stP (m + d.2.2.1, d.2.2.2.2.1)).1 ∧ (fin d m).tr = (d.2.2.2.2.2.2.1.foldl stP (m + d.2.2.1, d.2.2.2.2.1)).2 ∧ (fin d m).res = 0 ∧ (fin d m).trp = 0 ∧ (fin d m).eqt = d.2.2.2.1 :=
  fold01 d.2.2.2.2.2.2.1 (start d m) hr hk

theorem good_of {d : T25} {m : Int} (h : RightD d) (hm : Mny m) (hp : Mny (m + d.2.2.1)) (hk : ∀ s ∈ d.2.2.2.2.2.2.1, K01 s) (hr : d.2.1 = 0) : Good d m := by
  obtain ⟨a, b, c, e, g⟩ := fin01 m hk hr
  obtain ⟨hI, hK⟩ := fin_keep h hm hp
  have hl : (fin d m).pot + (fin d m).res + (fin d m).trp + (fin d m).eqt ≤ m + d.2.2.1 + d.2.1 + 0 + d.2.2.2.1 := hK.less
  have h1 := hI.p
  refine ⟨h, hm, hp, ?_, ?_, ?_⟩
  · rw [g]; exact h.1.2.2.2
  · rw [e]; unfold Mny at hp ⊢; omega
  · rw [c]; exact ⟨Int.le_refl 0, by omega⟩

theorem twice_law (d : T25) (m1 m2 : Int) (hL : d.2.2.2.2.2.2.1.length ≤ 9223372036854775807) : m6 d m1 m2 = some true := by
  unfold m6
  rw [m7_eq]
  simp only [Option.bind_some]
  rw [l6_1_eq d hL]
  by_cases hk : ∀ s ∈ d.2.2.2.2.2.2.1, (!(s.1 != 0 && s.1 != 1)) = true
  case neg => rw [if_neg hk]
  rw [if_pos hk]
  have hk : ∀ s ∈ d.2.2.2.2.2.2.1, K01 s := fun s hs => by
    have := hk s hs
    unfold K01
    by_cases c : s.1 = 0
    · exact .inl c
    · right
      have c' : (s.1 != 0) = true := bne_iff_ne.2 c
      rw [c'] at this
      simpa using this
  simp only [m16_eq, Option.bind_some]
  rw [c2]
  simp only [Option.bind_some]
  by_cases hm : Mny m1 ∧ Mny m2
  case neg => rw [decide_eq_false hm, bifT (by simp)]
  rw [decide_eq_true hm, decide_eq_true hm.1]
  by_cases hr : d.2.1 = 0
  case neg => rw [bifT (by simpa using hr)]
  rw [hr, bifF (by rfl), m8_eq]
  simp only [Option.bind_some]
  rw [m8_eq, m8_eq]
  simp only [Option.bind_some]
  have hm1 := hm.1
  have hm2 := hm.2
  unfold Mny at hm1 hm2
  rw [wrapI (x := m1 + m2) (by omega) (by omega)]
  have bad : (runS d (m1 + m2)).2.2.1 ≠ 0 → (bif (((runS d m1).2.2.1 != 0) || ((runS (runS d m1).1 m2).2.2.1 != 0)) || ((runS d (m1 + m2)).2.2.1 != 0) then some (true && ((runS d (m1 + m2)).2.2.1 != 0)) else ((bif (true == true) then (m10 (runS (runS d m1).1 m2).1 (runS d (m1 + m2)).1) else some false).bind fun r9 =>
          some (((true && r9) && ((runS d (m1 + m2)).1.2.2.2.1 == d.2.2.2.1)) && ((runS d (m1 + m2)).1.2.1 == 0)) : Option Bool)) = some true := by
    intro q
    have q' : ((runS d (m1 + m2)).2.2.1 != 0) = true := bne_iff_ne.2 q
    rw [q', Bool.or_true]; rfl
  rcases run_cases d (m1 + m2) with h | ⟨_, h⟩ | ⟨_, h, _⟩
  · have hr0 := h.r
    have ht := hr0.1.2.2.1
    have hmp := h.mp
    have hmm := h.mm
    have hp1 : Mny (m1 + d.2.2.1) := by unfold Mny at *; omega
    have g1 : Good d m1 := good_of hr0 hm.1 hp1 hk hr
    obtain ⟨a1, b1, c1, e1, f1⟩ := fin01 m1 hk hr
    obtain ⟨a3, b3, c3, e3, f3⟩ := fin01 (m1 + m2) hk hr
    obtain ⟨hI1, hK1⟩ := fin_keep hr0 hm.1 hp1
    have hl1 : (fin d m1).pot + (fin d m1).res + (fin d m1).trp + (fin d m1).eqt ≤ m1 + d.2.2.1 + d.2.1 + 0 + d.2.2.2.1 := hK1.less
    have hk2 : ∀ s ∈ (after d m1).2.2.2.2.2.2.1, K01 s := hk
    have hr2 : (after d m1).2.1 = 0 := c1
    have r2 := after_right g1
    have hpp := hI1.p
    have hp2 : Mny (m2 + (after d m1).2.2.1) := by
      show Mny (m2 + ((fin d m1).trp + (fin d m1).pot))
      unfold Mny at *; omega
    have g2 : Good (after d m1) m2 := good_of r2 hm.2 hp2 hk2 hr2
    obtain ⟨a2, b2, c2', e2, f2⟩ := fin01 m2 hk2 hr2
    have et := fold_twice m2 hm2.1 d.2.2.2.2.2.2.1 (m1 + d.2.2.1) d.2.2.2.2.1 (by unfold Mny at hp1; omega) (nn_of hr0) (in_of hr0 hk)
    have es : (m2 + (after d m1).2.2.1, (after d m1).2.2.2.2.1) = ((d.2.2.2.2.2.2.1.foldl stP (m1 + d.2.2.1, d.2.2.2.2.1)).1 + m2, (d.2.2.2.2.2.2.1.foldl stP (m1 + d.2.2.1, d.2.2.2.2.1)).2) := by
      show (m2 + ((fin d m1).trp + (fin d m1).pot), (fin d m1).tr) = _
      rw [e1, ← a1, ← b1, Int.zero_add, Int.add_comm]
    have ed : (after d m1).2.2.2.2.2.2.1 = d.2.2.2.2.2.2.1 := rfl
    rw [ed, es, et, show m1 + d.2.2.1 + m2 = m1 + m2 + d.2.2.1 by omega] at a2 b2
    have eA : after (after d m1) m2 = after d (m1 + m2) := by
      show (d.1, (fin (after d m1) m2).res, (fin (after d m1) m2).trp + (fin (after d m1) m2).pot, (fin (after d m1) m2).eqt, (fin (after d m1) m2).tr, d.2.2.2.2.2.1, d.2.2.2.2.2.2.1, ()) = (d.1, (fin d (m1 + m2)).res, (fin d (m1 + m2)).trp + (fin d (m1 + m2)).pot, (fin d (m1 + m2)).eqt, (fin d (m1 + m2)).tr, d.2.2.2.2.2.1, d.2.2.2.2.2.2.1, ())
      rw [c2', e2, a2, b2, f2, c3, e3, a3, b3, f3]
      show _ = (d.1, (0 : Int), _, _, _, _, _, ())
      have : (after d m1).2.2.2.1 = d.2.2.2.1 := f1
      rw [this]
    rw [run_ok g1]
    simp only []
    rw [run_ok g2, run_ok h, eA]
    have ha := (after_right h).2.1
    simp only [bne_self_eq_false, Bool.or_self, cond_false, beq_self_eq_true, cond_true]
    rw [m10_self _ (by omega) (by omega) (by omega)]
    have q1 : (after d (m1 + m2)).2.2.2.1 = d.2.2.2.1 := f3
    have q2 : (after d (m1 + m2)).2.1 = 0 := c3
    simp only [Option.bind_some, q1, q2]
    simp
  · exact bad (by rw [h]; simp)
  · exact bad (by rw [h]; simp)

end Go.Proofs.Ytajnmcabnkidjaa
