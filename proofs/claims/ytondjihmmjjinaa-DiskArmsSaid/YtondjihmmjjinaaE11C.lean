/- The engine, part 11c: views of own slices, and copy. -/
import Derived.Test.YtondjihmmjjinaaE11B
namespace Go.Eng
open Go
set_option linter.unusedVariables false
set_option linter.unusedSimpArgs false

theorem viewK_sound {R : Type} {P : Program} {t : TypeId} {B : Base} {X : HS} {h : List SO} {x : SV} {lo hi mx : Option SV} {xv : Value} {lov hiv mxv : Option Value} {K : Kont R} {r : R} (H : HRep B X h)
    (hx : Rep X x .val [xv]) (hlo : RepOpt X lo lov) (hhi : RepOpt X hi hiv) (hmx : RepOpt X mx mxv)
    (hk : viewK P t true x lo hi mx h K = some r) : Out B X K r ((Instr.sliceAt t xv lov hiv mxv).run P X.w) := by
  unfold viewK at hk
  split at hk
  · rename_i e a b ht ha hb
    have ha' := optI_rep ha hlo
    have hb' := optI_rep hb hhi
    cases mxv with
    | some _ => exact hmx.elim
    | none =>
      split at hk
      · rename_i n
        split at hk
        · rename_i g xs hn
          obtain ⟨he, hk⟩ := bif_some hk
          obtain ⟨e1, e2⟩ := elemOK_spec he
          obtain ⟨hc, hk⟩ := asrt_true hk
          obtain ⟨v, hv1, hv2, _⟩ := hx
          cases hv2
          have c3' := hc
          simp only [bounds, Bool.and_eq_true, decide_eq_true_eq] at c3'
          obtain ⟨⟨c1, c2⟩, c3⟩ := c3'
          have hob : ∃ base cap, xv = .slice base (List.length xs) cap ∧ List.length xs ≤ cap ∧ (0 < List.length xs → ∃ b o, base = some ⟨b, o, none⟩) := by
            rcases H.obj n _ hn with ⟨base, k1, k2⟩ | ⟨bb, o, cap, cells, T, fz, k1, k2, k3, k4, k5, k6⟩
            · rw [k1] at hv1
              cases hv1
              subst k2
              exact ⟨base, 0, rfl, Nat.le_refl _, fun h => absurd h (Nat.lt_irrefl 0)⟩
            · rw [k1] at hv1
              cases hv1
              exact ⟨_, cap, rfl, k5, fun _ => ⟨bb, o, rfl⟩⟩
          obtain ⟨base, cap, rfl, hcap, hbase⟩ := hob
          have hcut := run_cut (P := P) (w := X.w) (sl := true) ha' hb' hc hcap
          generalize a.getD 0 = p at *
          generalize b.getD (List.length xs : Int) = q at *
          refine Out.here H (v := .vw n g p.toNat (q.toNat - p.toNat)) (val := .slice (if cap = p.toNat then base else base.map (·.add (p.toNat * g.size))) (q.toNat - p.toNat) (cap - p.toNat)) ?_
            ⟨base, _, cap, _, _, hv1, rfl, fun hpos => ?_, fun hz => ?_, by omega, by omega⟩ hk
          · simp [Instr.sliceAt, Instr.slice, run_underlying ht, hcut, run_sizeOf e1]
          · have hq : q.toNat ≤ List.length xs := by omega
            obtain ⟨bb, o, rfl⟩ := hbase (by omega)
            have hcp : ¬ cap = p.toNat := by omega
            rw [if_neg hcp]
            exact ⟨bb, o, rfl, by simp [add_none]⟩
          · by_cases hcp : cap = p.toNat
            · omega
            · rw [if_neg hcp] at hz
              cases base with
              | none =>
                rcases H.obj n _ hn with ⟨base2, k1, k2⟩ | ⟨b2, o2, cap2, cells2, T2, fz2, k1, _⟩
                · subst k2
                  rw [k1] at hv1
                  simp at hv1
                  omega
                · rw [k1] at hv1; simp at hv1
              | some a => cases hz
        · cases hk
      · cases hk
  · cases hk

theorem take_drop_len {α : Type} {xs : List α} {lo len : Nat} (h : lo + len ≤ xs.length) : ((xs.drop lo).take len).length = len := by
  rw [List.length_take, List.length_drop]; omega

theorem someCells {P : Program} {X : HS} {g : GT} (ys : List g.ty) (a : Addr) (len cap k : Nat)
    (hk : ∀ (i : Nat) (y : g.ty), ys[i]? = some y → ∃ cs, RepD X.Ok X.w.heap g y cs ∧ a.spot = none ∧ ∀ (j : Nat) (v : Value), cs[j]? = some v → cellAt X.w.heap a.block (a.off + i * g.size + j) = some v) (hle : k ≤ ys.length) :
    ∃ news : List Value, (Builtin.firstCells g.size k (.slice (some a) len cap)).run P X.w = .ok news.toArray X.w ∧ Elems X g (ys.take k) news := by
  have hk' : ∀ (i : Nat) (y : g.ty), (ys.take k)[i]? = some y → ∃ cs, RepD X.Ok X.w.heap g y cs ∧ a.spot = none ∧ ∀ (j : Nat) (v : Value), cs[j]? = some v → cellAt X.w.heap a.block (a.off + i * g.size + j) = some v := by
    intro i y hy
    rw [List.getElem?_take] at hy
    split at hy
    · exact hk i y hy
    · cases hy
  obtain ⟨news, n1, n2, n3⟩ := row_cells (R := RepD X.Ok X.w.heap g) (fun y cs r => RepD_len g y cs r) (ys.take k) (cellAt X.w.heap a.block) a.off (fun i y hy => by
    obtain ⟨cs, r, _, k⟩ := hk' i y hy
    exact ⟨cs, r, k⟩)
  have hl : (ys.take k).length = k := by rw [List.length_take]; omega
  refine ⟨news, ?_, ⟨n1, n2⟩⟩
  refine run_firstCells_some X.w g.size k a len cap news (by rw [n1, hl]) (fun j v hj => ?_)
  have hsp : a.spot = none := by
    match hys : ys.take k with
    | [] => rw [hys] at n1; simp at n1; subst n1; simp at hj
    | y :: ys' => obtain ⟨_, _, e, _⟩ := hk' 0 y (by rw [hys]; rfl); exact e
  rw [add_none hsp, cell_cellAt]
  exact n3 j v hj

/-- What copy reads. -/
theorem srcK_cells {R : Type} {P : Program} {B : Base} {X : HS} {h : List SO} (H : HRep B X h) {g : GT} (hs : 0 < g.size) {x : SV} {xv : Value} {K : List g.ty → Option R} {r : R} (hx : Rep X x .val [xv]) (hk : srcK h x g K = some r) :
    ∃ ys, K ys = some r ∧ (Builtin.lenOf xv).run P X.w = .ok ys.length X.w ∧ ∀ k, k ≤ ys.length → ∃ news : List Value, (Builtin.firstCells g.size k xv).run P X.w = .ok news.toArray X.w ∧ Elems X g (ys.take k) news := by
  have nil : ∀ base cap k, k ≤ ([] : List g.ty).length → ∃ news : List Value, (Builtin.firstCells g.size k (.slice base 0 cap)).run P X.w = .ok news.toArray X.w ∧ Elems X g (([] : List g.ty).take k) news := by
    intro base cap k hk
    have : k = 0 := by simpa using hk
    subst this
    refine ⟨[], ?_, ⟨by simp, by simp⟩⟩
    cases base <;> simp [Builtin.firstCells, loadCells, loadCellsFrom]
  have obj : ∀ (n : Nat) (xs : List g.ty) (v : Value) (o : SO), nth h n = some (.arr g xs) → X.ρ[n]? = some v → ∃ base cap, v = .slice base xs.length cap ∧ (0 < xs.length → ∃ b o, base = some ⟨b, o, none⟩ ∧ ∀ (i : Nat) (y : g.ty), xs[i]? = some y → ∃ cs, RepD X.Ok X.w.heap g y cs ∧ ∀ (j : Nat) (u : Value), cs[j]? = some u → cellAt X.w.heap b (o + i * g.size + j) = some u) := by
    intro n xs v _ hn hv1
    rcases H.obj n _ hn with ⟨base, k1, k2⟩ | ⟨b, o, cap, cells, T, fz, k1, k2, k3, k4, k5, k6, k7, k8⟩
    · rw [k1] at hv1
      cases hv1
      subst k2
      exact ⟨base, 0, rfl, fun h => absurd h (Nat.lt_irrefl 0)⟩
    · rw [k1] at hv1
      cases hv1
      refine ⟨_, cap, rfl, fun _ => ⟨b, o, rfl, fun i y hy => ?_⟩⟩
      obtain ⟨cs, q1, q2⟩ := k8 i y hy
      refine ⟨cs, q1, fun j v hj => ?_⟩
      simp only [cellAt, k3]
      exact q2 j v hj
  have fromList : ∀ ys, listV h x g = some ys → ∃ base cap, xv = .slice base ys.length cap ∧ ∀ k, k ≤ ys.length → ∃ news : List Value, (Builtin.firstCells g.size k xv).run P X.w = .ok news.toArray X.w ∧ Elems X g (ys.take k) news := by
    intro ys hc
    unfold listV at hc
    split at hc
    · rename_i g' xs
      obtain ⟨e, rfl⟩ := castD_some hc
      cases e
      obtain ⟨cs, ⟨base, cap, rfl, hcap, hb0, hrow⟩, hxv⟩ := hx
      simp only [GT.isAgg, mkV, List.headD_cons, List.cons.injEq, and_true] at hxv
      subst hxv
      cases base with
      | none =>
        have : xs = [] := hrow
        subst this
        exact ⟨_, _, rfl, nil _ _⟩
      | some a =>
        refine ⟨_, _, rfl, fun k hk => someCells xs a _ cap k (fun i y hy => ?_) hk⟩
        obtain ⟨cs, q1, q2, q3⟩ := hrow i y hy
        exact ⟨cs, q1, (q2 hs).2, q3⟩
    · cases hc
      simp only [Rep, List.cons.injEq, and_true] at hx
      subst hx
      exact ⟨_, _, rfl, nil _ _⟩
    · cases hc
      obtain ⟨b, hb⟩ := hx
      simp only [List.cons.injEq, and_true] at hb
      subst hb
      exact ⟨_, _, rfl, nil _ _⟩
    · rename_i n
      split at hc
      · rename_i g' xs hn
        obtain ⟨e, rfl⟩ := castD_some hc
        cases e
        obtain ⟨v, hv1, hv2, _⟩ := hx
        cases hv2
        obtain ⟨base, cap, rfl, hb⟩ := obj n xs _ .dead hn hv1
        refine ⟨base, cap, rfl, ?_⟩
        by_cases h0 : 0 < List.length xs
        · obtain ⟨b, o, rfl, hcs⟩ := hb h0
          exact fun k hk => someCells xs ⟨b, o, none⟩ _ cap k (fun i y hy => by
            obtain ⟨cs, q1, q2⟩ := hcs i y hy
            exact ⟨cs, q1, rfl, q2⟩) hk
        · have : xs = [] := List.eq_nil_of_length_eq_zero (by omega)
          subst this
          exact nil _ _
      · cases hc
    · rename_i n g2 lo len
      split at hc
      · rename_i g' xs hn
        split at hc
        · rename_i xs' hcast
          obtain ⟨e, rfl⟩ := castD_some hcast
          cases e
          obtain ⟨hg, hc⟩ := bif_some hc
          have hg := GT.beq_eq hg
          subst hg
          have hc := Option.some.inj hc
          subst hc
          obtain ⟨base, l, cap, base', c, hv1, hv2, h0, hz, hcc, hl⟩ := hx
          cases hv2
          obtain ⟨base2, cap2, e, hb⟩ := obj n xs _ .dead hn hv1
          cases e
          have hlen := take_drop_len hl
          refine ⟨base', c, by rw [hlen], ?_⟩
          by_cases hp : 0 < len
          · obtain ⟨b, o, rfl, rfl⟩ := h0 hp
            obtain ⟨b2, o2, e, hcs⟩ := hb (by omega)
            cases e
            refine fun k hk => someCells _ ⟨b, o + lo * g2.size, none⟩ _ c k (fun i y hy => ?_) hk
            rw [List.getElem?_take] at hy
            split at hy
            · rw [List.getElem?_drop] at hy
              obtain ⟨cs, q1, q2⟩ := hcs (lo + i) y hy
              refine ⟨cs, q1, rfl, fun j v hj => ?_⟩
              have := q2 j v hj
              rw [Nat.add_mul] at this
              show cellAt X.w.heap b (o + lo * g2.size + i * g2.size + j) = some v
              rw [← this]
              congr 1
              omega
            · cases hy
          · have hl0 : len = 0 := by omega
            subst hl0
            have e0 : (List.drop lo xs).take 0 = [] := rfl
            rw [e0]
            exact nil _ _
        · cases hc
      · cases hc
    · cases hc
  unfold srcK at hk
  split at hk
  · rename_i n g' lo len
    split at hk
    · rename_i g2 xs hn
      split at hk
      · rename_i xs' hcast
        obtain ⟨e, rfl⟩ := castD_some hcast
        cases e
        obtain ⟨hg, hk⟩ := bif_some hk
        have hg := GT.beq_eq hg
        subst hg
        obtain ⟨hle, hk⟩ := asrt_true hk
        simp only [decide_eq_true_eq] at hle
        obtain ⟨base, l, cap, base', c, hv1, hv2, hpos, _⟩ := hx
        cases hv2
        have hlen := take_drop_len hle
        refine ⟨_, hk, by rw [hlen]; rfl, ?_⟩
        obtain ⟨base2, cap2, e, hb⟩ := obj n xs _ .dead hn hv1
        cases e
        by_cases h0 : 0 < len
        · obtain ⟨b, o, rfl, rfl⟩ := hpos h0
          have hxs : 0 < List.length xs := by have : lo + len ≤ List.length xs := hle; omega
          obtain ⟨b2, o2, e, hcs⟩ := hb hxs
          cases e
          refine fun k hk => someCells _ ⟨b, o + lo * g'.size, none⟩ _ c k (fun i y hy => ?_) hk
          rw [List.getElem?_take] at hy
          split at hy
          · rw [List.getElem?_drop] at hy
            obtain ⟨cs, q1, q2⟩ := hcs (lo + i) y hy
            refine ⟨cs, q1, rfl, fun j v hj => ?_⟩
            have := q2 j v hj
            rw [Nat.add_mul] at this
            show cellAt X.w.heap b (o + lo * g'.size + i * g'.size + j) = some v
            rw [← this]
            congr 1
            omega
          · cases hy
        · have : len = 0 := by omega
          subst this
          have e0 : (List.drop lo xs).take 0 = [] := rfl
          rw [e0]
          exact nil _ _
      · cases hk
    · cases hk
  · rename_i l
    split at hk
    · rename_i ys hys
      obtain ⟨e, rfl⟩ := castD_some hys
      cases e
      obtain ⟨cs, hcs, hxv⟩ := hx
      simp only [RepD] at hcs
      subst hcs
      simp only [GT.isAgg, mkV, List.headD_cons, List.cons.injEq, and_true] at hxv
      subst hxv
      refine ⟨_, hk, by simp [Builtin.lenOf, ByteArray.size], fun k hkl => ⟨(List.take k l).map fun c => .int .u8 (c.toNat : Int), ?_, ⟨by simp [GT.size], ?_⟩⟩⟩
      · simp [Builtin.firstCells]
      · intro i y hy
        refine ⟨[.int .u8 y], rfl, fun j v hj => ?_⟩
        cases j with
        | zero =>
          simp only [List.getElem?_cons_zero, Option.some.injEq] at hj
          subst hj
          rw [List.getElem?_take] at hy
          split at hy
          · rename_i hik
            obtain ⟨c, hc, rfl⟩ := by simpa using hy
            simp [GT.size, hik, hc]
          · cases hy
        | succ j => simp at hj
    · cases hk
  · split at hk
    · rename_i ys hys
      obtain ⟨base, cap, e, hh⟩ := fromList ys hys
      exact ⟨ys, hk, by rw [e]; rfl, hh⟩
    · cases hk

theorem patch_get {α : Type} {xs : List α} {lo len : Nat} {ys : List α} (h : lo + len ≤ xs.length) (i : Nat) :
    (patch xs lo len ys)[i]? = if i < lo then xs[i]? else if i < lo + min ys.length len then ys[i - lo]? else xs[i]? := by
  unfold patch
  simp only [List.getElem?_append, List.length_take, List.getElem?_take, List.getElem?_drop]
  rw [Nat.min_eq_left (by omega : lo ≤ xs.length)]
  by_cases h1 : i < lo
  · simp only [if_pos h1]
  · simp only [if_neg h1]
    by_cases h2 : i < lo + min ys.length len
    · rw [if_pos h2, if_pos (by omega), if_pos (by omega)]
    · rw [if_neg h2, if_neg (by omega)]
      congr 1
      omega

theorem patch_len {α : Type} {xs : List α} {lo len : Nat} {ys : List α} (h : lo + len ≤ xs.length) : (patch xs lo len ys).length = xs.length := by
  unfold patch
  simp only [List.length_append, List.length_take, List.length_drop]
  omega

theorem patch_nil {α : Type} {xs : List α} {lo len : Nat} {ys : List α} (h : min ys.length len = 0) : patch xs lo len ys = xs := by
  unfold patch
  have : ys.take len = [] := by
    apply List.eq_nil_of_length_eq_zero
    rw [List.length_take]; omega
  rw [this, h]
  simp

theorem copy_into {R : Type} {P : Program} {t u ty e : TypeId} {g : GT} {B : Base} {X : HS} {h : List SO} {n lo dLen c : Nat} {xs ys : List g.ty} {base base' : Option Addr} {l cap : Nat} {sv : Value} {K : Kont R} {r : R} (H : HRep B X h)
    (ht : P.underlying t = some (.slice e)) (he : elemOK P e g = true) (hn : nth h n = some (.arr g xs)) (hρ : X.ρ[n]? = some (.slice base l cap))
    (hd : 0 < dLen → ∃ b o, base = some ⟨b, o, none⟩ ∧ base' = some ⟨b, o + lo * g.size, none⟩) (hle : lo + dLen ≤ xs.length)
    (hlen : (Builtin.lenOf sv).run P X.w = .ok ys.length X.w) (hsrc : ∀ k, k ≤ ys.length → ∃ news : List Value, (Builtin.firstCells g.size k sv).run P X.w = .ok news.toArray X.w ∧ Elems X g (ys.take k) news)
    (hk : K (.dat (.int .i64) ((min ys.length dLen : Nat) : Int)) (setN h n (.arr g (patch xs lo dLen ys))) = some r) :
    Out B X K r ((Builtin.copy_ #[t, u] ty #[.slice base' dLen c, sv]).run P X.w) := by
  obtain ⟨e1, e2⟩ := elemOK_spec he
  obtain ⟨news, hf, hE⟩ := hsrc (min ys.length dLen) (Nat.min_le_left _ _)
  have hmin : Nat.min ys.length dLen = min ys.length dLen := rfl
  by_cases h0 : min ys.length dLen = 0
  · have hnews : news = [] := List.eq_nil_of_length_eq_zero (by rw [hE.len, h0]; simp)
    subst hnews
    rw [h0] at hf
    have hrun : (Builtin.copy_ #[t, u] ty #[.slice base' dLen c, sv]).run P X.w = .ok (goInt 0) X.w := by
      cases base' with
      | none => simp [Builtin.copy_, run_underlying ht, hlen, hmin, h0, run_sizeOf e1, hf]
      | some a => simp [Builtin.copy_, run_underlying ht, hlen, hmin, h0, run_sizeOf e1, hf, storeCells]
    rw [patch_nil h0, h0] at hk
    have es : setN h n (.arr g xs) = h := by
      rw [setN_eq]
      rw [nth_eq] at hn
      obtain ⟨hl, hv⟩ := List.getElem?_eq_some_iff.1 hn
      rw [← hv]
      exact List.set_getElem_self hl
    rw [es] at hk
    exact Out.here H hrun int_rep hk
  · obtain ⟨b, o, rfl, rfl⟩ := hd (by omega)
    rcases H.obj n _ hn with ⟨base, k1, k2⟩ | ⟨b', o', cap', cells, T, fz, k1, k2, k3, k4, k5, k6, k7, k8⟩
    · subst k2
      simp at hle
      omega
    · rw [hρ] at k1
      cases k1
      have hk0 : (ys.take (min ys.length dLen)).length = min ys.length dLen := by rw [List.length_take]; omega
      have hnl : news.length = min ys.length dLen * g.size := by rw [hE.len, hk0]
      have hmul : (lo + min ys.length dLen) * g.size ≤ cap * g.size := Nat.mul_le_mul_right _ (by have := k5; omega)
      rw [Nat.add_mul] at hmul
      have hfit : o + lo * g.size + 0 + news.length ≤ cells.size := by rw [hnl]; omega
      have hst := run_storeC (P := P) b (o + lo * g.size) T fz news 0 cells X.w k3 k4 hfit hE.one
      rw [Nat.add_zero] at hst
      have hrun : (Builtin.copy_ #[t, u] ty #[.slice (some ⟨b, o + lo * g.size, none⟩) dLen c, sv]).run P X.w = .ok (goInt (min ys.length dLen : Nat)) (X.w.setRow b (ow cells.toList (o + lo * g.size) news).toArray) := by
        simp [Builtin.copy_, run_underlying ht, hlen, hmin, run_sizeOf e1, hf, hst]
      have hfit' : o + lo * g.size + news.length ≤ cells.toList.length := by simpa using hfit
      have hbk : blkOf X n = some b := by
        obtain ⟨c', rfl⟩ : ∃ c, cap = c + 1 := ⟨cap - 1, by omega⟩
        simp [blkOf, hρ, Value.blk]
      obtain ⟨H', E'⟩ := H.write (w' := X.w.setRow b (ow cells.toList (o + lo * g.size) news).toArray) (o' := .arr g (patch xs lo dLen ys)) hn rfl (b := b) hbk rfl rfl rfl (setRow_size _ _ _) (fun k hk => setRow_ne _ _ _ _ hk)
        (fun E => .inr ⟨b, o, cap, _, T, fz, by rw [patch_len hle]; exact hρ, k2, setRow_at _ _ _ _ _ _ k3, by
            rw [List.size_toArray, ow_len hfit']; simpa using k4, by rw [patch_len hle]; exact k5, by
            rw [List.size_toArray, ow_len hfit']; simpa using k6, k7, by
          intro i y hy
          rw [patch_get hle] at hy
          simp only [List.getElem?_toArray]
          have old : ∀ y : g.ty, xs[i]? = some y → (i < lo ∨ lo + min ys.length dLen ≤ i) → ∃ cs, RepD X.Ok (X.w.setRow b (ow cells.toList (o + lo * g.size) news).toArray).heap g y cs ∧ ∀ (j : Nat) (v : Value), cs[j]? = some v → (ow cells.toList (o + lo * g.size) news)[o + i * g.size + j]? = some v := by
            intro y hy hpos
            obtain ⟨cs, p1, p2⟩ := k8 i y hy
            have hcl := RepD_len g y cs p1
            refine ⟨cs, RepD_mono E.ok E.st g y _ p1, fun j w' hj => ?_⟩
            have hjl : j < g.size := by rw [← hcl]; exact (List.getElem?_eq_some_iff.1 hj).1
            rw [ow_get hfit']
            have hq := p2 j w' hj
            rw [← Array.getElem?_toList] at hq
            rcases hpos with hlt | hge
            · have := Nat.mul_le_mul_right g.size (show i + 1 ≤ lo by omega)
              rw [Nat.add_mul, Nat.one_mul] at this
              rw [if_pos (by omega)]
              exact hq
            · have := Nat.mul_le_mul_right g.size hge
              rw [Nat.add_mul] at this
              rw [if_neg (by omega), if_neg (by omega)]
              exact hq
          split at hy
          · rename_i hlt
            exact old y hy (.inl hlt)
          · split at hy
            · rename_i h1 h2
              obtain ⟨cs, p1, p2⟩ := hE.at' (i - lo) y (by rw [List.getElem?_take, if_pos (by omega)]; exact hy)
              have hcl := RepD_len g y cs p1
              refine ⟨cs, RepD_mono E.ok E.st g y _ p1, fun j w' hj => ?_⟩
              have hjl : j < g.size := by rw [← hcl]; exact (List.getElem?_eq_some_iff.1 hj).1
              have hq := p2 j w' hj
              have hlt := (List.getElem?_eq_some_iff.1 hq).1
              have e3 : lo * g.size + (i - lo) * g.size = i * g.size := by rw [← Nat.add_mul]; congr 1; omega
              rw [ow_get hfit', if_neg (by omega), if_pos (by omega), show o + i * g.size + j - (o + lo * g.size) = (i - lo) * g.size + j by omega]
              exact hq
            · rename_i h1 h2
              exact old y hy (.inr (by omega))⟩)
      exact ⟨_, _, _, _, hrun, E', H', int_rep, hk⟩

theorem copyK_sound {R : Type} {P : Program} {ts : List TypeId} {un : Bool} {ty : TypeId} {B : Base} {X : HS} {h : List SO} {d s : SV} {dv sv : Value} {K : Kont R} {r : R} (H : HRep B X h) (hd : Rep X d .val [dv]) (hs : Rep X s .val [sv])
    (hk : copyK P ts un d s h K = some r) : Out B X K r ((Builtin.copy_ ts.toArray ty #[dv, sv]).run P X.w) := by
  unfold copyK at hk
  split at hk
  · rename_i t u
    split at hk
    · rename_i e ht
      split at hk
      · rename_i g hg
        obtain ⟨hc, hk⟩ := bif_some hk
        simp only [Bool.and_eq_true] at hc
        obtain ⟨_, he⟩ := hc
        obtain ⟨ys, hk2, hlen, hsrc⟩ := srcK_cells (P := P) H (elemOK_spec he).2 hs hk
        clear hk
        simp only at hk2
        split at hk2
        · rename_i n
          split at hk2
          · rename_i g' xs hn
            split at hk2
            · rename_i xs' hcast
              obtain ⟨eg, rfl⟩ := castD_some hcast
              cases eg
              obtain ⟨v, hv1, hv2, _⟩ := hd
              cases hv2
              have hob : ∃ base cap, dv = .slice base (List.length xs) cap ∧ (0 < List.length xs → ∃ b o, base = some ⟨b, o, none⟩) := by
                rcases H.obj n _ hn with ⟨base, k1, k2⟩ | ⟨bb, o, cap, cells, T, fz, k1, k2, k3, k4, k5, k6⟩
                · rw [k1] at hv1
                  cases hv1
                  subst k2
                  exact ⟨base, 0, rfl, fun h => absurd h (Nat.lt_irrefl 0)⟩
                · rw [k1] at hv1
                  cases hv1
                  exact ⟨_, cap, rfl, fun _ => ⟨bb, o, rfl⟩⟩
              obtain ⟨base, cap, rfl, hbase⟩ := hob
              exact copy_into (lo := 0) (base' := base) H ht he hn hv1 (fun h0 => by
                obtain ⟨b, o, rfl⟩ := hbase h0
                exact ⟨b, o, rfl, by simp⟩) (by simp) hlen hsrc hk2
            · cases hk2
          · cases hk2
        · rename_i n g2 lo len
          split at hk2
          · rename_i g' xs hn
            split at hk2
            · rename_i xs' hcast
              obtain ⟨eg, rfl⟩ := castD_some hcast
              cases eg
              obtain ⟨hg2, hk2⟩ := bif_some hk2
              have hg2 := GT.beq_eq hg2
              subst hg2
              obtain ⟨hle, hk2⟩ := asrt_true hk2
              simp only [decide_eq_true_eq] at hle
              obtain ⟨base, l, cap, base', c, hv1, hv2, hpos, _⟩ := hd
              cases hv2
              exact copy_into H ht he hn hv1 hpos hle hlen hsrc hk2
            · cases hk2
          · cases hk2
        · cases hk2
      · cases hk
    · cases hk
  · cases hk

theorem zeroCells_elems {X : HS} {g : GT} {v : Value} (hcz : v.cells.toList = cellsZ g) (n : Nat) : Elems X g (List.replicate n g.dflt) (Builtin.zeroCells v.cells n).toList := by
  have hs : v.cells.size = g.size := by rw [← Array.length_toList, hcz, cellsZ_len]
  refine ⟨by simp [Builtin.zeroCells, hs], ?_⟩
  intro i y hy
  rw [List.getElem?_replicate] at hy
  split at hy
  · rename_i hin
    cases hy
    refine ⟨cellsZ g, cellsZ_rep g, fun j u hj => ?_⟩
    have hjl : j < g.size := by rw [← cellsZ_len g]; exact (List.getElem?_eq_some_iff.1 hj).1
    have h1 : i * g.size + j < n * g.size := by
      have := Nat.mul_le_mul_right g.size (show i + 1 ≤ n by omega)
      rw [Nat.add_mul, Nat.one_mul] at this
      omega
    have h2 : (i * g.size + j) % g.size = j := by rw [Nat.add_comm, Nat.add_mul_mod_self_right, Nat.mod_eq_of_lt hjl]
    simp only [Builtin.zeroCells, hs, Array.toList_map, Array.toList_range, List.getElem?_map, List.getElem?_range h1, Option.map_some, h2]
    rw [← hcz] at hj
    obtain ⟨hl, hv⟩ := List.getElem?_eq_some_iff.1 hj
    have hl' : j < v.cells.size := by simpa using hl
    rw [getElem!_pos v.cells j hl']
    simpa using hv
  · cases hy

theorem clearK_sound {R : Type} {P : Program} {ts : List TypeId} {un : Bool} {ty : TypeId} {B : Base} {X : HS} {h : List SO} {d : SV} {dv : Value} {K : Kont R} {r : R} (H : HRep B X h) (hd : Rep X d .val [dv])
    (hk : clearK P ts un d h K = some r) : Out B X K r ((Builtin.clear_ ts.toArray ty #[dv]).run P X.w) := by
  unfold clearK at hk
  split at hk
  · rename_i t
    split at hk
    · rename_i e n g lo len ht
      split at hk
      · rename_i g' xs hn
        split at hk
        · rename_i xs' hcast
          obtain ⟨eg, rfl⟩ := castD_some hcast
          cases eg
          obtain ⟨hc, hk⟩ := bif_some hk
          simp only [Bool.and_eq_true] at hc
          obtain ⟨⟨_, he⟩, hz⟩ := hc
          obtain ⟨hle, hk⟩ := asrt_true hk
          simp only [decide_eq_true_eq] at hle
          obtain ⟨e1, e2⟩ := elemOK_spec he
          obtain ⟨iz, zv, hi, hv, hcz⟩ := zeroOK_spec hz
          have hzv : (zeroValue e).run P X.w = .ok zv X.w := by simp [zeroValue, typeInfo, hi, hv]
          obtain ⟨base, l, cap, base', c, hρ, hv2, hpos, hnone, _⟩ := hd
          cases hv2
          by_cases h0 : len = 0
          · subst h0
            have hrun : (Builtin.clear_ #[t] ty #[.slice base' 0 c]).run P X.w = .ok (.tuple #[]) X.w := by
              cases base' <;> simp [Builtin.clear_, run_underlying ht]
            rw [show patch xs lo 0 (List.replicate 0 g.dflt) = xs from patch_nil (by simp)] at hk
            have es : setN h n (.arr g xs) = h := by
              rw [setN_eq]
              rw [nth_eq] at hn
              obtain ⟨hl, hv⟩ := List.getElem?_eq_some_iff.1 hn
              rw [← hv]
              exact List.set_getElem_self hl
            rw [es] at hk
            exact Out.here (v := unitV) H hrun ⟨[], rfl, rfl⟩ hk
          · obtain ⟨b, o, rfl, rfl⟩ := hpos (by omega)
            rcases H.obj n _ hn with ⟨base, k1, k2⟩ | ⟨b', o', cap', cells, T, fz, k1, k2, k3, k4, k5, k6, k7, k8⟩
            · subst k2
              simp at hle
              omega
            · rw [hρ] at k1
              cases k1
              have hE := zeroCells_elems (X := X) (g := g) hcz len
              generalize hnews : (Builtin.zeroCells zv.cells len).toList = news at hE
              have hnl : news.length = len * g.size := by rw [hE.len]; simp
              have hmul : (lo + len) * g.size ≤ cap * g.size := Nat.mul_le_mul_right _ (by have := k5; omega)
              rw [Nat.add_mul] at hmul
              have hfit : o + lo * g.size + 0 + news.length ≤ cells.size := by rw [hnl]; omega
              have hst := run_storeC (P := P) b (o + lo * g.size) T fz news 0 cells X.w k3 k4 hfit hE.one
              rw [Nat.add_zero] at hst
              have hrun : (Builtin.clear_ #[t] ty #[.slice (some ⟨b, o + lo * g.size, none⟩) len c]).run P X.w = .ok (.tuple #[]) (X.w.setRow b (ow cells.toList (o + lo * g.size) news).toArray) := by
                obtain ⟨m, rfl⟩ : ∃ m, len = m + 1 := ⟨len - 1, by omega⟩
                simp [Builtin.clear_, run_underlying ht, hzv, hnews, hst]
              have hfit' : o + lo * g.size + news.length ≤ cells.toList.length := by simpa using hfit
              have hbk : blkOf X n = some b := by
                obtain ⟨c', rfl⟩ : ∃ c, cap = c + 1 := ⟨cap - 1, by omega⟩
                simp [blkOf, hρ, Value.blk]
              obtain ⟨ys, hys, hyl⟩ : ∃ ys : List g.ty, ys = List.replicate len g.dflt ∧ ys.length = len := ⟨_, rfl, by simp⟩
              rw [← hys] at hk hE
              have hmin : min ys.length len = len := by omega
              obtain ⟨H', E'⟩ := H.write (w' := X.w.setRow b (ow cells.toList (o + lo * g.size) news).toArray) (o' := .arr g (patch xs lo len ys)) hn rfl (b := b) hbk rfl rfl rfl (setRow_size _ _ _) (fun k hk => setRow_ne _ _ _ _ hk)
                (fun E => .inr ⟨b, o, cap, _, T, fz, by rw [patch_len hle]; exact hρ, k2, setRow_at _ _ _ _ _ _ k3, by
                    rw [List.size_toArray, ow_len hfit']; simpa using k4, by rw [patch_len hle]; exact k5, by
                    rw [List.size_toArray, ow_len hfit']; simpa using k6, k7, by
                  intro i y hy
                  rw [patch_get hle, hmin] at hy
                  simp only [List.getElem?_toArray]
                  have old : ∀ y : g.ty, xs[i]? = some y → (i < lo ∨ lo + len ≤ i) → ∃ cs, RepD X.Ok (X.w.setRow b (ow cells.toList (o + lo * g.size) news).toArray).heap g y cs ∧ ∀ (j : Nat) (v : Value), cs[j]? = some v → (ow cells.toList (o + lo * g.size) news)[o + i * g.size + j]? = some v := by
                    intro y hy hpos
                    obtain ⟨cs, p1, p2⟩ := k8 i y hy
                    have hcl := RepD_len g y cs p1
                    refine ⟨cs, RepD_mono E.ok E.st g y _ p1, fun j w' hj => ?_⟩
                    have hjl : j < g.size := by rw [← hcl]; exact (List.getElem?_eq_some_iff.1 hj).1
                    rw [ow_get hfit']
                    have hq := p2 j w' hj
                    rw [← Array.getElem?_toList] at hq
                    rcases hpos with hlt | hge
                    · have := Nat.mul_le_mul_right g.size (show i + 1 ≤ lo by omega)
                      rw [Nat.add_mul, Nat.one_mul] at this
                      rw [if_pos (by omega)]
                      exact hq
                    · have := Nat.mul_le_mul_right g.size hge
                      rw [Nat.add_mul] at this
                      rw [if_neg (by omega), if_neg (by omega)]
                      exact hq
                  split at hy
                  · rename_i hlt
                    exact old y hy (.inl hlt)
                  · split at hy
                    · rename_i h1 h2
                      obtain ⟨cs, p1, p2⟩ := hE.at' (i - lo) y hy
                      have hcl := RepD_len g y cs p1
                      refine ⟨cs, RepD_mono E.ok E.st g y _ p1, fun j w' hj => ?_⟩
                      have hjl : j < g.size := by rw [← hcl]; exact (List.getElem?_eq_some_iff.1 hj).1
                      have hq := p2 j w' hj
                      have hlt := (List.getElem?_eq_some_iff.1 hq).1
                      have e3 : lo * g.size + (i - lo) * g.size = i * g.size := by rw [← Nat.add_mul]; congr 1; omega
                      rw [ow_get hfit', if_neg (by omega), if_pos (by omega), show o + i * g.size + j - (o + lo * g.size) = (i - lo) * g.size + j by omega]
                      exact hq
                    · rename_i h1 h2
                      exact old y hy (.inr (by omega))⟩)
              exact ⟨_, _, unitV, _, hrun, E', H', ⟨[], rfl, rfl⟩, hk⟩
        · cases hk
      · cases hk
    · cases hk
  · cases hk

end Go.Eng
