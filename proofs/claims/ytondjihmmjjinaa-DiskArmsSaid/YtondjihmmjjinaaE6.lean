/- The engine, part 6: loads, stores, places, fields. -/
import Derived.Test.YtondjihmmjjinaaE5
namespace Go.Eng
open Go
set_option linter.unusedVariables false
set_option linter.unusedSimpArgs false

/-- What an operation's run comes to. -/
def Out {R : Type} (B : Base) (X : HS) (K : Kont R) (r : R) (run : Result Value) : Prop :=
  ∃ X' h' v val, run = .ok val X'.w ∧ Ext X X' ∧ HRep B X' h' ∧ Rep X' v .val [val] ∧ K v h' = some r

def OutU {R : Type} (B : Base) (X : HS) (K : Kont R) (r : R) (run : Result Unit) : Prop :=
  ∃ X' h', run = .ok () X'.w ∧ Ext X X' ∧ HRep B X' h' ∧ K unitV h' = some r

theorem Out.here {R : Type} {B : Base} {X : HS} {h : List SO} {K : Kont R} {r : R} {run : Result Value} {v : SV} {val : Value} (H : HRep B X h) (hr : run = .ok val X.w) (hv : Rep X v .val [val])
    (hk : K v h = some r) : Out B X K r run := ⟨X, h, v, val, hr, Ext.refl X, H, hv, hk⟩

theorem stor_size : ∀ (v : SV), v.stor = true → v.isAgg = false → v.size = 1
  | .dat g x, _, h => by cases g <;> simp_all [SV.isAgg, GT.isAgg, SV.size, GT.size]
  | .nils, _, _ => rfl
  | .emp, _, _ => rfl
  | .nilp, _, _ => rfl
  | .nilm, _, _ => rfl
  | .nilfn, _, _ => rfl
  | .nsl _ _, _, _ => rfl
  | .box _ _ _, _, _ => rfl
  | .el _ _ _ _ _, _, _ => rfl
  | .rd _ _, _, _ => rfl
  | .own _, _, _ => rfl
  | .mp _, _, _ => rfl
  | .vw _ _ _ _, _, _ => rfl
  | .fn _ _, _, _ => rfl
  | .snil, h, _ => by simp [SV.stor] at h
  | .scons _ _, h, _ => by simp [SV.stor] at h
  | .agg _, _, h => by simp [SV.isAgg] at h
  | .tup _, h, _ => by simp [SV.stor] at h

theorem fits_spec {P : Program} {t : TypeId} {v : SV} (h : fits P t v = true) : tyShape P t = some (v.isAgg, v.size) ∧ v.stor = true := by
  unfold fits at h
  split at h
  · rename_i a n hs
    simp only [Bool.and_eq_true, beq_iff_eq, Nat.beq_eq] at h
    obtain ⟨⟨rfl, rfl⟩, h3⟩ := h
    exact ⟨hs, h3⟩
  · cases h

theorem bif_some {α : Type} {c : Bool} {x : Option α} {r : α} (h : (bif c then x else none) = some r) : c = true ∧ x = some r := by
  cases c
  · simp at h
  · exact ⟨rfl, by simpa using h⟩

theorem asrt_true {R : Type} {c : Bool} {k : Option R} {r : R} (h : asrt true c k = some r) : c = true ∧ k = some r := by
  unfold asrt at h
  exact bif_some (by simpa using h)

/-- A value whose cells lie at a place is loaded. -/
theorem load_at {P : Program} {t : TypeId} {X : HS} {u : SV} {cs : List Value} (hf : fits P t u = true) (hr : Rep X u .cells cs) {a : Addr} (ha : a.spot = none)
    (hc : ∀ (j : Nat) (v : Value), cs[j]? = some v → cellAt X.w.heap a.block (a.off + j) = some v) :
    (Instr.loadAt t (.pointer (some a))).run P X.w = .ok (mkV u.isAgg cs) X.w ∧ Rep X u .val [mkV u.isAgg cs] := by
  obtain ⟨h1, h2⟩ := fits_spec hf
  have hl := Rep_len u cs hr
  rw [← hl] at h1
  exact ⟨run_loadAt h1 (fun e => by rw [hl]; exact stor_size u h2 e) X.w a ha hc, Rep_of_cells u cs h2 hr⟩

theorem get_take_drop {cs : List Value} {o n j : Nat} {v : Value} (h : ((cs.drop o).take n)[j]? = some v) : cs[o + j]? = some v := by
  rw [List.getElem?_take] at h
  split at h
  · rwa [List.getElem?_drop] at h
  · cases h

theorem loadK_sees {R : Type} {P : Program} {t : TypeId} {B : Base} {X : HS} {h : List SO} {p : SV} {pv : Value} {K : Kont R} {r : R} (H : HRep B X h) (hp : Rep X p .val [pv])
    (hk : loadK P t true p h K = some r) : ∃ v val, (Instr.loadAt t pv).run P X.w = .ok val X.w ∧ Rep X v .val [val] ∧ K v h = some r := by
  unfold loadK at hk
  split at hk
  · rename_i g x
    obtain ⟨hf, hk⟩ := bif_some hk
    obtain ⟨a, cs, h1, h2, h3, h4, h5⟩ := hp
    cases h2
    obtain ⟨e1, e2⟩ := load_at (u := .dat g x) hf h1 h3 h5
    exact ⟨_, _, e1, e2, hk⟩
  · rename_i n path off
    split at hk
    · rename_i v hn
      obtain ⟨ho, hk⟩ := bif_some hk
      simp only [Nat.beq_eq] at ho
      split at hk
      · rename_i u hu
        obtain ⟨hf, hk⟩ := bif_some hk
        obtain ⟨b, h1, h2⟩ := hp
        cases h2
        obtain ⟨b', cs, T, k1, k2, k3⟩ := H.obj n _ hn
        rw [h1] at k1
        cases k1
        obtain ⟨j1, j2⟩ := sub_rep path v u cs k3 hu
        obtain ⟨e1, e2⟩ := load_at (a := ⟨b, off, none⟩) hf j2 rfl (fun j w hj => by
          simp only [cellAt, k2]
          have := get_take_drop hj
          rw [ho] at this
          simpa using this)
        exact ⟨_, _, e1, e2, hk⟩
      · cases hk
    · cases hk
  · rename_i n g i path off
    split at hk
    · rename_i g' xs hn
      split at hk
      · rename_i ys hc
        obtain ⟨e, rfl⟩ := castD_some hc
        cases e
        simp only [cond_true] at hk
        obtain ⟨x, hx, hk⟩ := Option.bind_eq_some_iff.1 hk
        obtain ⟨ho, hk⟩ := bif_some hk
        simp only [Nat.beq_eq] at ho
        split at hk
        · rename_i u hu
          obtain ⟨hf, hk⟩ := bif_some hk
          obtain ⟨b, o, len, cap, h1, h2⟩ := hp
          cases h2
          rcases H.obj n _ hn with ⟨base, k1, k2⟩ | ⟨b', o', cap', cells, T, fz, k1, k2, k3, k4, k5, k6, k7, k8⟩
          · subst k2; simp at hx
          · rw [h1] at k1
            cases k1
            obtain ⟨cs, q1, q2⟩ := k8 i x hx
            obtain ⟨j1, j2⟩ := sub_rep (X := X) path (.dat g x) u cs q1 hu
            obtain ⟨e1, e2⟩ := load_at (a := ⟨b, o + i * g.size + off, none⟩) hf j2 rfl (fun j w hj => by
              simp only [cellAt, k3]
              have := q2 _ _ (get_take_drop hj)
              rw [ho] at this
              rw [← Nat.add_assoc] at this
              exact this)
            exact ⟨_, _, e1, e2, hk⟩
        · cases hk
      · cases hk
    · rename_i g' xs j u hn
      obtain ⟨hg, hk2⟩ := bif_some hk
      clear hk
      have eg : g' = g := GT.beq_eq hg
      clear hg
      subst eg
      obtain ⟨hj, hk⟩ := asrt_true hk2
      clear hk2
      have ej : i = j := Nat.eq_of_beq_eq_true hj
      clear hj
      subst ej
      obtain ⟨ho, hk⟩ := bif_some hk
      simp only [Nat.beq_eq] at ho
      split at hk
      · rename_i w hw
        obtain ⟨hf, hk⟩ := bif_some hk
        obtain ⟨b, o, len, cap, h1, h2⟩ := hp
        cases h2
        obtain ⟨b', o', cap', cells, T, fz, k1, k2, k3, k4, k5, k6, k7, k8, k9, k10⟩ := H.obj n _ hn
        rw [h1] at k1
        cases k1
        obtain ⟨cs, q1, q2⟩ := k10 i xs[i] (List.getElem?_eq_getElem k9)
        rw [Nat.beq_refl, cond_true] at q1
        obtain ⟨j1, j2⟩ := sub_rep path u w cs q1 hw
        obtain ⟨e1, e2⟩ := load_at (a := ⟨b, o + i * g'.size + off, none⟩) hf j2 rfl (fun j w hj => by
          simp only [cellAt, k3]
          have := q2 _ _ (get_take_drop hj)
          rw [ho] at this
          rw [← Nat.add_assoc] at this
          exact this)
        exact ⟨_, _, e1, e2, hk⟩
      · cases hk
    · rename_i g' xs j u0 hn
      split at hk
      · rename_i ys hc
        obtain ⟨e, rfl⟩ := castD_some hc
        cases e
        simp only [cond_true] at hk
        obtain ⟨x, hx, hk⟩ := Option.bind_eq_some_iff.1 hk
        cases hij : Nat.beq i j with
        | true => rw [hij] at hx; cases hx
        | false =>
        rw [hij, cond_false] at hx
        obtain ⟨ho, hk⟩ := bif_some hk
        simp only [Nat.beq_eq] at ho
        split at hk
        · rename_i u hu
          obtain ⟨hf, hk⟩ := bif_some hk
          obtain ⟨b, o, len, cap, h1, h2⟩ := hp
          cases h2
          obtain ⟨b', o', cap', cells, T, fz, k1, k2, k3, k4, k5, k6, k7, k8, k9, k10⟩ := H.obj n _ hn
          rw [h1] at k1
          cases k1
          obtain ⟨cs, q1, q2⟩ := k10 i x hx
          rw [hij, cond_false] at q1
          obtain ⟨j1, j2⟩ := sub_rep (X := X) path (.dat g x) u cs q1 hu
          obtain ⟨e1, e2⟩ := load_at (a := ⟨b, o + i * g.size + off, none⟩) hf j2 rfl (fun j w hj => by
            simp only [cellAt, k3]
            have := q2 _ _ (get_take_drop hj)
            rw [ho] at this
            rw [← Nat.add_assoc] at this
            exact this)
          exact ⟨_, _, e1, e2, hk⟩
        · cases hk
      · cases hk
    · cases hk
  · cases hk

theorem loadK_sound {R : Type} {P : Program} {t : TypeId} {B : Base} {X : HS} {h : List SO} {p : SV} {pv : Value} {K : Kont R} {r : R} (H : HRep B X h) (hp : Rep X p .val [pv])
    (hk : loadK P t true p h K = some r) : Out B X K r ((Instr.loadAt t pv).run P X.w) := by
  obtain ⟨v, val, e1, e2, e3⟩ := loadK_sees H hp hk
  exact Out.here H e1 e2 e3

/-- An own block is written, and its object changes. -/
theorem HRep.write {B : Base} {X : HS} {h : List SO} (H : HRep B X h) {n : Nat} {o o' : SO} (hn : nth h n = some o) (hl : o.live = true) {b : Nat} (hb : blkOf X n = some b) {w' : World}
    (hos : w'.os = X.w.os) (ht : w'.tape = X.w.tape) (hu : w'.output = X.w.output) (hz : w'.heap.size = X.w.heap.size) (hs : ∀ k : Nat, k ≠ b → w'.heap[k]? = X.w.heap[k]?)
    (ho : Ext X ⟨X.ρ, X.Ok, w'⟩ → RepO ⟨X.ρ, X.Ok, w'⟩ n o') : HRep B ⟨X.ρ, X.Ok, w'⟩ (setN h n o') ∧ Ext X ⟨X.ρ, X.Ok, w'⟩ := by
  have hsep := H.sep n o hn hl b hb
  have hown := H.ownNew n o b hn hl hb
  have H1 := H.drop n
  have other : ∀ m o1, nth (setN h n .dead) m = some o1 → o1.live = true → blkOf X m ≠ some b := by
    intro m o1 hm l1 b1
    rcases nth_setN hm with ⟨_, rfl⟩ | ⟨hne, h1⟩
    · cases l1
    · exact hne (H.inj m n o1 o h1 hn l1 hl b b1 hb)
  obtain ⟨H2, E2⟩ := H1.world (w' := w') hos ht hu (by omega) (fun k hk => hs k (fun e => hsep (e ▸ hk))) (fun m o1 k hm l1 b1 => hs k (fun e => other m o1 hm l1 (e ▸ b1)))
    (fun k hk hno => hs k (fun e => by subst e; rcases hown with h1 | h1; · exact hno h1
                                       · omega))
  have hlen : n < h.length := by rw [nth_eq] at hn; exact (List.getElem?_eq_some_iff.1 hn).1
  have hd : nth (setN h n SO.dead) n = some .dead := by rw [nth_eq, setN_eq]; simp [hlen]
  have H3 := H2.revive (n := n) (o := o') hd (fun b' _ hb' => by
    have e : b' = b := by
      have : blkOf X n = some b' := hb'
      rw [hb] at this; exact (Option.some.inj this).symm
    subst e
    exact ⟨hsep, hown, fun m o1 hm l1 => other m o1 hm l1⟩) (ho E2)
  refine ⟨?_, E2⟩
  have : setN (setN h n SO.dead) n o' = setN h n o' := by simp [setN_eq]
  rwa [this] at H3

theorem setRow_size (w : World) (g : Nat) (cs : Array Value) : (w.setRow g cs).heap.size = w.heap.size := size_setRow w g cs
theorem setRow_ne (w : World) (g k : Nat) (cs : Array Value) (h : k ≠ g) : (w.setRow g cs).heap[k]? = w.heap[k]? := setRow_other w g k cs h

theorem kill_keep {h : List SO} : ∀ (ns : List Nat) {n : Nat} {o : SO}, n ∉ ns → nth h n = some o → nth (kill h ns) n = some o
  | [], n, o, _, hn => hn
  | m :: ns, n, o, hi, hn => by
    simp only [kill]
    refine kill_keep ns (by simp at hi; exact hi.2) ?_
    rw [nth_eq, setN_eq, List.getElem?_set_ne (by simp at hi; exact fun e => hi.1 e.symm), ← nth_eq]
    exact hn

theorem ow_get {cs vs : List Value} {off : Nat} (h : off + vs.length ≤ cs.length) (k : Nat) :
    (ow cs off vs)[k]? = if k < off then cs[k]? else if k < off + vs.length then vs[k - off]? else cs[k]? := by
  simp only [ow, List.getElem?_append, List.length_take, List.getElem?_take, List.getElem?_drop]
  rw [Nat.min_eq_left (by omega)]
  repeat' split
  all_goals first
    | rfl
    | (exfalso; omega)
    | (congr 1; omega)

theorem storeK_sound {R : Type} {P : Program} {t : TypeId} {B : Base} {X : HS} {h : List SO} {p v : SV} {pv vv : Value} {K : Kont R} {r : R} (H : HRep B X h) (hp : Rep X p .val [pv]) (hv : Rep X v .val [vv])
    (hk : storeK P t p v h K = some r) : OutU B X K r ((Instr.storeAt t pv vv).run P X.w) := by
  unfold storeK at hk
  split at hk
  · rename_i n path off
    split at hk
    · rename_i c hn
      obtain ⟨hc, hk⟩ := bif_some hk
      simp only [Bool.and_eq_true, Nat.beq_eq] at hc
      obtain ⟨ho, hf⟩ := hc
      split at hk
      · rename_i c' hc'
        obtain ⟨b, h1, h2⟩ := hp
        cases h2
        obtain ⟨b', cs, T, k1, k2, k3⟩ := H.obj n _ hn
        rw [h1] at k1
        cases k1
        obtain ⟨f1, f2⟩ := fits_spec hf
        obtain ⟨vv', e, hvc, _⟩ := Rep_val_one v _ f2 hv
        cases e
        have hvl := Rep_len v _ hvc
        obtain ⟨u1, u2⟩ := upd_rep hvc path c c' cs k3 hc'
        rw [ho] at u1 u2
        have hrun := run_storeAt (P := P) (t := t) (ag := v.isAgg) vv (by rw [f1]; congr 2; rw [← hvl]; simp) X.w b off T (0, 0) cs.toArray k2 (u := false) (cp := 0) ⟨by intro j hj; simp, fun _ => ⟨rfl, Nat.zero_le _⟩⟩
          (by simp only [Array.length_toList] at u1; simpa using u1) (Rep_one v _ hvc)
        obtain ⟨H', E'⟩ := H.write (w' := X.w.setRow b (ow cs off vv.cells.toList).toArray) (o' := .box c') hn rfl (b := b) (by simp [blkOf, h1, Value.blk]) rfl rfl rfl (setRow_size _ _ _) (fun k hk => setRow_ne _ _ _ _ hk)
          (fun E => ⟨b, _, T, h1, setRow_at _ _ _ _ _ _ k2, Rep_mono E c' .cells _ u2⟩)
        exact ⟨_, _, hrun, E', H', hk⟩
      · cases hk
    · cases hk
  · rename_i n g i path off
    split at hk
    · rename_i g' xs hn
      split at hk
      · rename_i ys hc
        obtain ⟨e, rfl⟩ := castD_some hc
        cases e
        obtain ⟨x, hx, hk⟩ := Option.bind_eq_some_iff.1 hk
        obtain ⟨hc, hk⟩ := bif_some hk
        simp only [Bool.and_eq_true, Nat.beq_eq] at hc
        obtain ⟨ho, hf⟩ := hc
        split at hk
        · rename_i y hy
          split at hk
          · rename_i z hz
            cases hin : y.owns.any (Nat.beq n) with
            | true => rw [hin] at hk; cases hk
            | false =>
              rw [hin] at hk
              simp only [cond_false] at hk
              have hnin : n ∉ y.owns := by
                intro hmem
                have : y.owns.any (Nat.beq n) = true := List.any_eq_true.2 ⟨n, hmem, by simp⟩
                rw [hin] at this; cases this
              obtain ⟨b, o, len, cap, h1, h2⟩ := hp
              cases h2
              rcases H.obj n _ hn with ⟨base, k1, k2⟩ | ⟨b', o', cap', cells, T, fz, k1, k2, k3, k4, k5, k6, k7, k8⟩
              · subst k2; simp at hx
              · rw [h1] at k1
                cases k1
                obtain ⟨cs, q1, q2⟩ := k8 i x hx
                obtain ⟨f1, f2⟩ := fits_spec hf
                obtain ⟨vv', e, hvc, _⟩ := Rep_val_one v _ f2 hv
                cases e
                have hvl := Rep_len v _ hvc
                have hcl := RepD_len g x cs q1
                obtain ⟨u1, u2⟩ := upd_rep (X := X) hvc path (.dat g x) y cs q1 hy
                rw [ho] at u1 u2
                have hzr := coe_rep H y g z _ hz u2
                have hi : i < List.length xs := (List.getElem?_eq_some_iff.1 hx).1
                have hmul : (i + 1) * g.size ≤ cap * g.size := Nat.mul_le_mul_right _ (by omega)
                rw [Nat.add_mul, Nat.one_mul] at hmul
                have hfit : o + i * g.size + off + vv.cells.size ≤ cells.size := by
                  simp only [Array.length_toList] at u1
                  omega
                have hrun := run_storeAt (P := P) (t := t) (ag := v.isAgg) vv (by rw [f1]; congr 2; rw [← hvl]; simp) X.w b (o + i * g.size + off) T fz cells k3 k4 hfit (Rep_one v _ hvc)
                obtain ⟨H1, E1⟩ := kill_seal H y.owns
                have hn1 := kill_keep y.owns hnin hn
                obtain ⟨c, rfl⟩ : ∃ c, cap = c + 1 := ⟨cap - 1, by omega⟩
                obtain ⟨H', E'⟩ := H1.write (w' := X.w.setRow b (ow cells.toList (o + i * g.size + off) vv.cells.toList).toArray) (o' := .arr g (List.set xs i z)) hn1 rfl (b := b) (by simp [blkOf, h1, Value.blk]) rfl rfl rfl
                  (setRow_size _ _ _) (fun k hk => setRow_ne _ _ _ _ hk)
                  (fun E => .inr ⟨b, o, c + 1, _, T, fz, by simpa using h1, k2, setRow_at _ _ _ _ _ _ k3, by
                      rw [List.size_toArray, ow_len (by simpa using hfit)]; simpa using k4, by simpa using k5, by
                      rw [List.size_toArray, ow_len (by simpa using hfit)]; simpa using k6, k7, by
                    intro i' x' hx'
                    rw [List.getElem?_set] at hx'
                    simp only [List.getElem?_toArray]
                    by_cases hii : i = i'
                    · subst hii
                      rw [if_pos rfl, if_pos hi] at hx'
                      cases hx'
                      refine ⟨_, RepD_mono E.ok E.st g z _ hzr, ?_⟩
                      intro j w' hj
                      rw [ow_get (by simpa using hfit)]
                      rw [ow_get (by simpa using u1)] at hj
                      simp only [Array.length_toList] at hj u1 ⊢
                      split at hj
                      · rw [if_pos (by omega)]
                        simpa using q2 j w' hj
                      · split at hj
                        · rw [if_neg (by omega), if_pos (by omega)]
                          rw [show o + i * g.size + j - (o + i * g.size + off) = j - off by omega]
                          exact hj
                        · rw [if_neg (by omega), if_neg (by omega)]
                          simpa using q2 j w' hj
                    · rw [if_neg hii] at hx'
                      obtain ⟨cs', p1, p2⟩ := k8 i' x' hx'
                      have hcl' := RepD_len g x' cs' p1
                      refine ⟨cs', RepD_mono E.ok E.st g x' _ (RepD_mono E1.ok E1.st g x' _ p1), ?_⟩
                      intro j w' hj
                      have hjl : j < g.size := by rw [← hcl']; exact (List.getElem?_eq_some_iff.1 hj).1
                      rw [ow_get (by simpa using hfit)]
                      simp only [Array.length_toList] at u1 ⊢
                      rw [hcl] at u1
                      have hpos : i' * g.size + g.size ≤ i * g.size ∨ i * g.size + g.size ≤ i' * g.size := by
                        rcases Nat.lt_or_gt_of_ne hii with hlt | hgt
                        · right
                          have := Nat.mul_le_mul_right g.size (show i + 1 ≤ i' by omega)
                          rw [Nat.add_mul, Nat.one_mul] at this
                          exact this
                        · left
                          have := Nat.mul_le_mul_right g.size (show i' + 1 ≤ i by omega)
                          rw [Nat.add_mul, Nat.one_mul] at this
                          exact this
                      have hq := p2 j w' hj
                      rw [← Array.getElem?_toList] at hq
                      split
                      · exact hq
                      · split
                        · exfalso; omega
                        · exact hq⟩)
                exact ⟨_, _, hrun, E1.trans E', H', hk⟩
          · cases hk
        · cases hk
      · cases hk
    · rename_i g' xs j u hn
      obtain ⟨hc, hk2⟩ := bif_some hk
      clear hk
      rw [Bool.and_eq_true, Bool.and_eq_true] at hc
      obtain ⟨hg, ho, hf⟩ := hc
      have eg : g' = g := GT.beq_eq hg
      clear hg
      subst eg
      obtain ⟨hj, hk⟩ := asrt_true hk2
      clear hk2
      have ej : i = j := Nat.eq_of_beq_eq_true hj
      clear hj
      subst ej
      simp only [Nat.beq_eq] at ho
      split at hk
      · rename_i u' hu'
        obtain ⟨b, o, len, cap, h1, h2⟩ := hp
        cases h2
        obtain ⟨b', o', cap', cells, T, fz, k1, k2, k3, k4, k5, k6, k7, k8, k9, k10⟩ := H.obj n _ hn
        rw [h1] at k1
        cases k1
        obtain ⟨cs, q1, q2⟩ := k10 i xs[i] (List.getElem?_eq_getElem k9)
        rw [Nat.beq_refl, cond_true] at q1
        obtain ⟨f1, f2⟩ := fits_spec hf
        obtain ⟨vv', e, hvc, _⟩ := Rep_val_one v _ f2 hv
        cases e
        have hvl := Rep_len v _ hvc
        have hcl := Rep_len u cs q1
        rw [k8] at hcl
        obtain ⟨u1, u2⟩ := upd_rep hvc path u u' cs q1 hu'
        rw [ho] at u1 u2
        have hul := Rep_len u' _ u2
        rw [ow_len (by simpa using u1), hcl] at hul
        have hmul : (i + 1) * g'.size ≤ cap * g'.size := Nat.mul_le_mul_right _ (by omega)
        rw [Nat.add_mul, Nat.one_mul] at hmul
        have hfit : o + i * g'.size + off + vv.cells.size ≤ cells.size := by
          simp only [Array.length_toList] at u1
          omega
        have hrun := run_storeAt (P := P) (t := t) (ag := v.isAgg) vv (by rw [f1]; congr 2; rw [← hvl]; simp) X.w b (o + i * g'.size + off) T fz cells k3 k4 hfit (Rep_one v _ hvc)
        obtain ⟨c, rfl⟩ : ∃ c, cap = c + 1 := ⟨cap - 1, by omega⟩
        obtain ⟨H', E'⟩ := H.write (w' := X.w.setRow b (ow cells.toList (o + i * g'.size + off) vv.cells.toList).toArray) (o' := .hole true g' xs i u') hn rfl (b := b) (by simp [blkOf, h1, Value.blk]) rfl rfl rfl
          (setRow_size _ _ _) (fun k hk => setRow_ne _ _ _ _ hk)
          (fun E => ⟨b, o, c + 1, _, T, fz, h1, k2, setRow_at _ _ _ _ _ _ k3, by
              rw [List.size_toArray, ow_len (by simpa using hfit)]; simpa using k4, k5, by
              rw [List.size_toArray, ow_len (by simpa using hfit)]; simpa using k6, k7, by omega, k9, by
            intro i' x' hx'
            simp only [List.getElem?_toArray]
            by_cases hii : i' = i
            · subst hii
              rw [Nat.beq_refl, cond_true]
              refine ⟨_, Rep_mono E u' .cells _ u2, ?_⟩
              intro j w' hj
              rw [ow_get (by simpa using hfit)]
              rw [ow_get (by simpa using u1)] at hj
              simp only [Array.length_toList] at hj u1 ⊢
              split at hj
              · rw [if_pos (by omega)]
                simpa using q2 j w' hj
              · split at hj
                · rw [if_neg (by omega), if_pos (by omega)]
                  rw [show o + i' * g'.size + j - (o + i' * g'.size + off) = j - off by omega]
                  exact hj
                · rw [if_neg (by omega), if_neg (by omega)]
                  simpa using q2 j w' hj
            · obtain ⟨cs', p1, p2⟩ := k10 i' x' hx'
              have hb : Nat.beq i' i = false := by
                cases hb : Nat.beq i' i with
                | false => rfl
                | true => exact absurd (Nat.eq_of_beq_eq_true hb) hii
              rw [hb, cond_false] at p1 ⊢
              have hcl' := Rep_len _ cs' p1
              simp only [SV.size] at hcl'
              refine ⟨cs', Rep_mono E _ _ _ p1, ?_⟩
              intro j w' hj
              have hjl : j < g'.size := by rw [← hcl']; exact (List.getElem?_eq_some_iff.1 hj).1
              rw [ow_get (by simpa using hfit)]
              simp only [Array.length_toList] at u1 ⊢
              rw [hcl] at u1
              have hpos : i' * g'.size + g'.size ≤ i * g'.size ∨ i * g'.size + g'.size ≤ i' * g'.size := by
                rcases Nat.lt_or_gt_of_ne hii with hlt | hgt
                · left
                  have := Nat.mul_le_mul_right g'.size (show i' + 1 ≤ i by omega)
                  rw [Nat.add_mul, Nat.one_mul] at this
                  exact this
                · right
                  have := Nat.mul_le_mul_right g'.size (show i + 1 ≤ i' by omega)
                  rw [Nat.add_mul, Nat.one_mul] at this
                  exact this
              have hq := p2 j w' hj
              rw [← Array.getElem?_toList] at hq
              split
              · exact hq
              · split
                · exfalso; omega
                · exact hq⟩)
        exact ⟨_, _, hrun, E', H', hk⟩
      · cases hk
    · rename_i g' xs jj uu hn
      split at hk
      · rename_i ys hc
        obtain ⟨e, rfl⟩ := castD_some hc
        cases e
        obtain ⟨x, hx, hk⟩ := Option.bind_eq_some_iff.1 hk
        cases hij : Nat.beq i jj with
        | true => rw [hij] at hx; cases hx
        | false =>
        rw [hij, cond_false] at hx
        obtain ⟨hc, hk⟩ := bif_some hk
        simp only [Bool.and_eq_true, Nat.beq_eq] at hc
        obtain ⟨ho, hf⟩ := hc
        split at hk
        · rename_i y hy
          split at hk
          · rename_i z hz
            cases hin : y.owns.any (Nat.beq n) with
            | true => rw [hin] at hk; cases hk
            | false =>
              rw [hin] at hk
              simp only [cond_false] at hk
              have hnin : n ∉ y.owns := by
                intro hmem
                have : y.owns.any (Nat.beq n) = true := List.any_eq_true.2 ⟨n, hmem, by simp⟩
                rw [hin] at this; cases this
              obtain ⟨b, o, len, cap, h1, h2⟩ := hp
              cases h2
              obtain ⟨b', o', cap', cells, T, fz, k1, k2, k3, k4, k5, k6, k7, k8, k9, k10⟩ := H.obj n _ hn
              rw [h1] at k1
              cases k1
              obtain ⟨cs, q1, q2⟩ := k10 i x hx
              rw [hij, cond_false] at q1
              obtain ⟨f1, f2⟩ := fits_spec hf
              obtain ⟨vv', e, hvc, _⟩ := Rep_val_one v _ f2 hv
              cases e
              have hvl := Rep_len v _ hvc
              have hcl := RepD_len g x cs q1
              obtain ⟨u1, u2⟩ := upd_rep (X := X) hvc path (.dat g x) y cs q1 hy
              rw [ho] at u1 u2
              have hzr := coe_rep H y g z _ hz u2
              have hi : i < List.length xs := (List.getElem?_eq_some_iff.1 hx).1
              have hmul : (i + 1) * g.size ≤ cap * g.size := Nat.mul_le_mul_right _ (by omega)
              rw [Nat.add_mul, Nat.one_mul] at hmul
              have hfit : o + i * g.size + off + vv.cells.size ≤ cells.size := by
                simp only [Array.length_toList] at u1
                omega
              have hrun := run_storeAt (P := P) (t := t) (ag := v.isAgg) vv (by rw [f1]; congr 2; rw [← hvl]; simp) X.w b (o + i * g.size + off) T fz cells k3 k4 hfit (Rep_one v _ hvc)
              obtain ⟨H1, E1⟩ := kill_seal H y.owns
              have hn1 := kill_keep y.owns hnin hn
              obtain ⟨c, rfl⟩ : ∃ c, cap = c + 1 := ⟨cap - 1, by omega⟩
              obtain ⟨H', E'⟩ := H1.write (w' := X.w.setRow b (ow cells.toList (o + i * g.size + off) vv.cells.toList).toArray) (o' := .hole false g (List.set xs i z) jj uu) hn1 rfl (b := b) (by simp [blkOf, h1, Value.blk]) rfl rfl rfl
                (setRow_size _ _ _) (fun k hk => setRow_ne _ _ _ _ hk)
                (fun E => ⟨b, o, c + 1, _, T, fz, by simpa using h1, k2, setRow_at _ _ _ _ _ _ k3, by
                    rw [List.size_toArray, ow_len (by simpa using hfit)]; simpa using k4, by simpa using k5, by
                    rw [List.size_toArray, ow_len (by simpa using hfit)]; simpa using k6, k7, k8, by simpa using k9, by
                  intro i' x' hx'
                  rw [List.getElem?_set] at hx'
                  simp only [List.getElem?_toArray]
                  by_cases hii : i = i'
                  · subst hii
                    rw [if_pos rfl, if_pos hi] at hx'
                    cases hx'
                    rw [hij, cond_false]
                    refine ⟨_, RepD_mono E.ok E.st g z _ hzr, ?_⟩
                    intro j w' hj
                    rw [ow_get (by simpa using hfit)]
                    rw [ow_get (by simpa using u1)] at hj
                    simp only [Array.length_toList] at hj u1 ⊢
                    split at hj
                    · rw [if_pos (by omega)]
                      simpa using q2 j w' hj
                    · split at hj
                      · rw [if_neg (by omega), if_pos (by omega)]
                        rw [show o + i * g.size + j - (o + i * g.size + off) = j - off by omega]
                        exact hj
                      · rw [if_neg (by omega), if_neg (by omega)]
                        simpa using q2 j w' hj
                  · rw [if_neg hii] at hx'
                    obtain ⟨cs', p1, p2⟩ := k10 i' x' hx'
                    have hcl' : cs'.length = g.size := by
                      have := Rep_len _ cs' p1
                      cases hb : Nat.beq i' jj with
                      | true => rw [hb, cond_true] at this; omega
                      | false => rw [hb, cond_false] at this; exact this
                    refine ⟨cs', Rep_mono (E1.trans E) _ _ _ p1, ?_⟩
                    intro j w' hj
                    have hjl : j < g.size := by rw [← hcl']; exact (List.getElem?_eq_some_iff.1 hj).1
                    rw [ow_get (by simpa using hfit)]
                    simp only [Array.length_toList] at u1 ⊢
                    rw [hcl] at u1
                    have hpos : i' * g.size + g.size ≤ i * g.size ∨ i * g.size + g.size ≤ i' * g.size := by
                      rcases Nat.lt_or_gt_of_ne hii with hlt | hgt
                      · right
                        have := Nat.mul_le_mul_right g.size (show i + 1 ≤ i' by omega)
                        rw [Nat.add_mul, Nat.one_mul] at this
                        exact this
                      · left
                        have := Nat.mul_le_mul_right g.size (show i' + 1 ≤ i by omega)
                        rw [Nat.add_mul, Nat.one_mul] at this
                        exact this
                    have hq := p2 j w' hj
                    rw [← Array.getElem?_toList] at hq
                    split
                    · exact hq
                    · split
                      · exfalso; omega
                      · exact hq⟩)
              exact ⟨_, _, hrun, E1.trans E', H', hk⟩
          · cases hk
        · cases hk
      · cases hk
    · cases hk
  · cases hk

theorem HRep.swap {B : Base} {X : HS} {h : List SO} (H : HRep B X h) {n : Nat} {o o' : SO} (hn : nth h n = some o) (hl : o.live = true) (hr : RepO X n o') : HRep B X (setN h n o') := by
  have hlt : n < h.length := by
    rw [nth_eq] at hn
    exact (List.getElem?_eq_some_iff.1 hn).1
  have hd : nth (setN h n .dead) n = some .dead := by
    rw [nth_eq, setN_eq, List.getElem?_set_self hlt]
  have hf := (H.drop n).revive (n := n) (o := o') hd (by
    intro b _ hb
    refine ⟨H.sep n o hn hl b hb, H.ownNew n o b hn hl hb, ?_⟩
    intro m o2 hm hlive hbm
    rcases nth_setN hm with ⟨rfl, rfl⟩ | ⟨hne, hm'⟩
    · cases hlive
    · exact hne (H.inj m n _ _ hm' hn hlive hl b hbm hb)) hr
  have e : setN (setN h n .dead) n o' = setN h n o' := by
    rw [setN_eq, setN_eq, setN_eq, List.set_set]
  rw [e] at hf
  exact hf

theorem kill_nth {h : List SO} : ∀ (ns : List Nat) (n : Nat), n ∉ ns → nth (kill h ns) n = nth h n
  | [], _, _ => rfl
  | m :: ns, n, hn => by
    simp only [List.mem_cons, not_or] at hn
    simp only [kill]
    rw [kill_nth (h := setN h m .dead) ns n hn.2, nth_eq, nth_eq, setN_eq, List.getElem?_set, if_neg (fun e => hn.1 e.symm)]

theorem storeN_sound {R : Type} {P : Program} {t : TypeId} {B : Base} {X : HS} {h : List SO} {p v : SV} {pv vv : Value} {K : Kont R} {r : R} (H : HRep B X h) (hp : Rep X p .val [pv]) (hv : Rep X v .val [vv])
    (hk : storeN P t p v h K = some r) : OutU B X K r ((Instr.storeAt t pv vv).run P X.w) := by
  unfold storeN at hk
  split at hk
  · exact storeK_sound H hp hv hk
  · rename_i g hg
    split at hk
    · refine storeK_sound H hp ?_ hk
      simp only [Rep, List.cons.injEq, and_true] at hv
      subst hv
      exact ⟨⟨none, 0, rfl, Nat.le_refl _, fun _ => rfl, rfl⟩, fun _ => rfl⟩
    · obtain ⟨hc, hk⟩ := bif_some hk
      simp only [Bool.and_eq_true, Bool.not_eq_true'] at hc
      split at hk
      · rename_i ys hys
        obtain ⟨hne, hk⟩ := asrt_true hk
        obtain ⟨u, e, h3, h4⟩ := Rep_val_one v _ hc.1 hv
        cases e
        have hd := coe_rep H v (.sl g) ys _ hys h3
        obtain ⟨H1, E1⟩ := kill_seal H v.owns
        have hu : Rep ⟨X.ρ, okS X h v.owns, X.w⟩ (.nsl g ys) .val [vv] := by
          refine ⟨?_, fun e => ?_⟩
          · rw [hc.2] at h4
            have h5 := RepD_len (.sl g) ys _ hd
            have h6 : vv.cells.toList = [vv] := by
              match hl : vv.cells.toList, h5 with
              | [c], _ =>
                rw [hl] at h4
                simp only [mkV, List.headD_cons] at h4
                rw [h4]
            rw [h6] at hd
            exact hd
          · have e' : (show List g.ty from ys) = [] := e
            rw [e'] at hne
            cases hne
        obtain ⟨X', h', k1, k2, k3, k4⟩ := storeK_sound H1 (Rep_mono E1 p _ _ hp) hu hk
        exact ⟨X', h', k1, E1.trans k2, k3, k4⟩
      · cases hk

end Go.Eng
