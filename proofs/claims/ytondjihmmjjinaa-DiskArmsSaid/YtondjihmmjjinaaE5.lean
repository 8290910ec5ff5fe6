/- The engine, part 5: reading a value as plain data; the model's loads and stores run. -/
import Derived.Test.YtondjihmmjjinaaE4
namespace Go.Eng
open Go
set_option linter.unusedVariables false
set_option linter.unusedSimpArgs false

theorem castD_some {a b : GT} {x : a.ty} {y : b.ty} (h : castD a b x = some y) : ∃ e : a = b, y = e ▸ x := by
  unfold castD at h
  split at h
  · rename_i hb
    simp only [Option.some.injEq] at h
    exact ⟨GT.beq_eq hb, h.symm⟩
  · cases h

def blkS (X : HS) (h : List SO) (ns : List Nat) (b : Nat) : Prop := ∃ n o, n ∈ ns ∧ nth h n = some o ∧ o.live = true ∧ blkOf X n = some b

def okS (X : HS) (h : List SO) (ns : List Nat) (b : Nat) : Prop := X.Ok b ∨ blkS X h ns b

theorem RowRep_emp {Ok : Nat → Prop} {hp : Array Obj} {α : Type} {sz : Nat} {R : α → List Value → Prop} {base : Option Addr} : RowRep Ok hp sz R base ([] : List α) := by
  cases base with
  | none => rfl
  | some a => intro i x hx; simp at hx

theorem own_list {B : Base} {X : HS} {h : List SO} (H : HRep B X h) {n : Nat} {g : GT} {xs : List g.ty} (hn : nth h n = some (.arr g xs)) {cs : List Value} (hr : Rep X (.own n) .cells cs) :
    RepD (okS X h [n]) X.w.heap (.sl g) xs cs := by
  obtain ⟨v, hv, rfl, _⟩ := hr
  rcases H.obj n _ hn with ⟨base, h1, rfl⟩ | ⟨b, o, cap, cells, T, fz, h1, h2, h3, h4, h5, h6, h7, h8⟩
  · rw [h1] at hv; cases hv
    exact ⟨base, 0, rfl, Nat.le_refl _, fun _ => rfl, RowRep_emp⟩
  · rw [h1] at hv; cases hv
    refine ⟨_, cap, rfl, h5, (fun e => by cases e), ?_⟩
    intro i x hx
    obtain ⟨cs, k1, k2⟩ := h8 i x hx
    refine ⟨cs, RepD_mono (fun b hb => .inl hb) (fun _ _ => rfl) g x cs k1, fun _ => ⟨.inr ⟨n, _, by simp, hn, rfl, ?_⟩, rfl⟩, ?_⟩
    · obtain ⟨c, rfl⟩ : ∃ c, cap = c + 1 := ⟨cap - 1, by omega⟩
      simp [blkOf, h1, Value.blk]
    · intro j v hj
      simp only [cellAt, h3]
      exact k2 j v hj

theorem vw_list {B : Base} {X : HS} {h : List SO} (H : HRep B X h) {n : Nat} {g : GT} {xs : List g.ty} {lo len : Nat} (hn : nth h n = some (.arr g xs)) {cs : List Value} (hr : Rep X (.vw n g lo len) .cells cs) :
    RepD (okS X h [n]) X.w.heap (.sl g) ((xs.drop lo).take len) cs := by
  obtain ⟨base, l, cap, base', c, hv, rfl, h0, hz, hc, hl⟩ := hr
  rcases H.obj n _ hn with ⟨base2, h1, rfl⟩ | ⟨b, o, cap2, cells, T, fz, h1, h2, h3, h4, h5, h6, h7, h8⟩
  · rw [h1] at hv; cases hv
    have : len = 0 := by omega
    subst this
    exact ⟨base', c, by simp, by simp, hz, by simp only [List.take_zero]; exact RowRep_emp⟩
  · rw [h1] at hv; cases hv
    have hlen : ((xs.drop lo).take len).length = len := by rw [List.length_take, List.length_drop]; omega
    refine ⟨base', c, by rw [hlen], by rw [hlen]; exact hc, hz, ?_⟩
    by_cases hp : 0 < len
    · obtain ⟨b2, o2, e1, rfl⟩ := h0 hp
      cases e1
      intro i x hx
      rw [List.getElem?_take] at hx
      split at hx
      · rw [List.getElem?_drop] at hx
        obtain ⟨cs, k1, k2⟩ := h8 (lo + i) x hx
        refine ⟨cs, RepD_mono (fun b hb => .inl hb) (fun _ _ => rfl) g x cs k1, fun _ => ⟨.inr ⟨n, _, by simp, hn, rfl, ?_⟩, rfl⟩, ?_⟩
        · obtain ⟨c, rfl⟩ : ∃ c, cap = c + 1 := ⟨cap - 1, by omega⟩
          simp [blkOf, h1, Value.blk]
        · intro j v hj
          simp only [cellAt, h3]
          have := k2 j v hj
          rw [Nat.add_mul] at this
          rw [← this]
          congr 1
          omega
      · cases hx
    · have : len = 0 := by omega
      subst this
      simp only [List.take_zero]
      exact RowRep_emp

theorem okS_mono {X : HS} {h : List SO} {l m : List Nat} (hs : ∀ n ∈ l, n ∈ m) (b : Nat) : okS X h l b → okS X h m b := by
  rintro (k | ⟨n, o, k1, k2⟩)
  · exact .inl k
  · exact .inr ⟨n, o, hs n k1, k2⟩

/-- A value read as plain data. -/
theorem coe_rep {B : Base} {X : HS} {h : List SO} (H : HRep B X h) : ∀ (v : SV) (g : GT) (x : g.ty) (cs : List Value), coe h v g = some x → Rep X v .cells cs →
    RepD (okS X h v.owns) X.w.heap g x cs
  | .dat g' y, g, x, cs, hc, hr => by
    simp only [coe] at hc
    obtain ⟨rfl, rfl⟩ := castD_some hc
    exact RepD_mono (fun b hb => .inl hb) (fun _ _ => rfl) _ _ cs hr
  | .nils, g, x, cs, hc, hr => by
    cases g <;> simp only [coe] at hc <;> try (cases hc; done)
    · simp only [Rep] at hr
      cases hc; subst hr
      exact ⟨none, 0, rfl, Nat.le_refl _, fun _ => rfl, rfl⟩
    · simp only [Rep] at hr
      cases hc; subst hr
      exact ⟨rfl, rfl⟩
  | .emp, g, x, cs, hc, hr => by
    cases g <;> simp only [coe] at hc <;> try (cases hc; done)
    obtain ⟨b, rfl⟩ := hr
    cases hc
    exact ⟨b, 0, rfl, Nat.le_refl _, fun _ => rfl, RowRep_emp⟩
  | .own n, g, x, cs, hc, hr => by
    cases g <;> simp only [coe] at hc <;> try (cases hc; done)
    split at hc
    · rename_i g' xs hn
      obtain ⟨e, rfl⟩ := castD_some hc
      cases e
      exact own_list H hn hr
    · cases hc
  | .vw n g2 lo len, g, x, cs, hc, hr => by
    cases g <;> simp only [coe] at hc <;> try (cases hc; done)
    split at hc
    · rename_i g' xs hn
      cases hb : GT.beq g2 g' with
      | false => rw [hb] at hc; cases hc
      | true =>
        rw [hb] at hc
        simp only [cond_true] at hc
        split at hc
        · rename_i ys hys
          obtain ⟨e, rfl⟩ := castD_some hys
          cases e
          have hb := GT.beq_eq hb
          subst hb
          have hc := Option.some.inj hc
          subst hc
          exact vw_list H hn hr
        · cases hc
    · cases hc
  | .agg l, g, x, cs, hc, hr => by
    simp only [coe] at hc
    exact coe_rep H l g x cs hc hr
  | .scons a b, g, x, cs, hc, hr => by
    cases g <;> simp only [coe] at hc <;> try (cases hc; done)
    rename_i ga gb
    split at hc
    · rename_i y hy
      split at hc
      · rename_i z hz
        simp only [Option.some.injEq] at hc
        subst hc
        obtain ⟨c1, c2, rfl, h1, h2⟩ := hr
        refine ⟨c1, c2, rfl, ?_, ?_⟩
        · exact RepD_mono (okS_mono (by simp [SV.owns]; exact fun n hn => .inl hn)) (fun _ _ => rfl) ga _ _ (coe_rep H a ga y c1 hy h1)
        · exact RepD_mono (okS_mono (by simp [SV.owns]; exact fun n hn => .inr hn)) (fun _ _ => rfl) gb _ _ (coe_rep H b gb z c2 hz h2)
      · cases hc
    · cases hc
  | .snil, g, x, cs, hc, hr => by
    cases g <;> simp only [coe] at hc <;> try (cases hc; done)
    exact hr
  | .nilp, g, x, cs, hc, hr => by cases g <;> simp [coe] at hc
  | .nilm, g, x, cs, hc, hr => by cases g <;> simp [coe] at hc
  | .nilfn, g, x, cs, hc, hr => by cases g <;> simp [coe] at hc
  | .nsl g' ys, g, x, cs, hc, hr => by
    cases g <;> simp only [coe] at hc <;> try (cases hc; done)
    obtain ⟨e, rfl⟩ := castD_some hc
    cases e
    exact RepD_mono (fun b hb => .inl hb) (fun _ _ => rfl) (.sl _) _ cs hr.1
  | .box _ _ _, g, x, cs, hc, hr => by cases g <;> simp [coe] at hc
  | .el _ _ _ _ _, g, x, cs, hc, hr => by cases g <;> simp [coe] at hc
  | .rd _ _, g, x, cs, hc, hr => by cases g <;> simp [coe] at hc
  | .mp _, g, x, cs, hc, hr => by cases g <;> simp [coe] at hc
  | .fn _ _, g, x, cs, hc, hr => by cases g <;> simp [coe] at hc
  | .tup _, g, x, cs, hc, hr => by cases g <;> simp [coe] at hc

theorem kill_live {h : List SO} : ∀ (ns : List Nat) {n : Nat} {o : SO}, nth (kill h ns) n = some o → o.live = true → n ∉ ns ∧ nth h n = some o
  | [], n, o, hn, _ => ⟨by simp, hn⟩
  | m :: ns, n, o, hn, hl => by
    simp only [kill] at hn
    obtain ⟨h1, h2⟩ := kill_live ns hn hl
    rcases nth_setN h2 with ⟨_, rfl⟩ | ⟨hne, h3⟩
    · cases hl
    · exact ⟨by simp [hne, h1], h3⟩

theorem kill_len {h : List SO} : ∀ (ns : List Nat), (kill h ns).length = h.length
  | [] => rfl
  | m :: ns => by
    have ih : ∀ (h : List SO), (kill h ns).length = h.length := fun h => kill_len ns
    simp [kill, ih, setN_eq]

theorem kill_drop {B : Base} {X : HS} : ∀ (ns : List Nat) {h : List SO}, HRep B X h → HRep B X (kill h ns)
  | [], _, H => H
  | n :: ns, _, H => kill_drop ns (H.drop n)

/-- The own slices of these names are fixed from now on. -/
theorem kill_seal {B : Base} {X : HS} {h : List SO} (H : HRep B X h) (ns : List Nat) :
    HRep B ⟨X.ρ, okS X h ns, X.w⟩ (kill h ns) ∧ Ext X ⟨X.ρ, okS X h ns, X.w⟩ := by
  refine (kill_drop ns H).okMore (blkS X h ns) ?_ ?_ ?_
  · rintro b ⟨n, o, _, h2, h3, h4⟩; exact H.lt h2 h3 h4
  · rintro b ⟨n, o, _, h2, h3, h4⟩; exact H.ownNew n o b h2 h3 h4
  · rintro n o hn hl b hb ⟨m, o', h1, h2, h3, h4⟩
    obtain ⟨k1, k2⟩ := kill_live ns hn hl
    have := H.inj n m o o' k2 h2 hl h3 b hb h4
    subst this
    exact k1 h1

/-! ### Runs of the model -/

theorem tyShape_spec {P : Program} {t : TypeId} {ag : Bool} {n : Nat} (h : tyShape P t = some (ag, n)) :
    ∃ d i, P.underlying t = some d ∧ P.info? t = some i ∧ i.size = n ∧ (match d with | .struct _ => true | .array _ _ => true | _ => false) = ag := by
  unfold tyShape at h
  split at h
  · rename_i fs i h1 h2
    simp only [Option.some.injEq, Prod.mk.injEq] at h
    exact ⟨_, i, h1, h2, h.2, h.1⟩
  · rename_i a b i h1 h2
    simp only [Option.some.injEq, Prod.mk.injEq] at h
    exact ⟨_, i, h1, h2, h.2, h.1⟩
  · rename_i d i h0 h0' h1 h2
    simp only [Option.some.injEq, Prod.mk.injEq] at h
    refine ⟨d, i, h1, h2, h.2, ?_⟩
    rw [← h.1]
    cases d <;> first | rfl | exact (h0 _ rfl).elim | exact (h0' _ _ rfl).elim
  · cases h

theorem run_isAgg {P : Program} {t : TypeId} {ag : Bool} {n : Nat} (h : tyShape P t = some (ag, n)) (w : World) : (isAgg t).run P w = .ok ag w := by
  obtain ⟨d, i, h1, h2, h3, h4⟩ := tyShape_spec h
  cases d <;> simp_all [isAgg, run_underlying h1]

theorem run_sizeOf {P : Program} {t : TypeId} {ag : Bool} {n : Nat} (h : tyShape P t = some (ag, n)) (w : World) : (sizeOf t).run P w = .ok n w := by
  obtain ⟨d, i, h1, h2, h3, h4⟩ := tyShape_spec h
  simp [sizeOf, typeInfo, h2, h3]

theorem add_none {a : Addr} (h : a.spot = none) (n : Nat) : a.add n = ⟨a.block, a.off + n, none⟩ := by
  unfold Addr.add
  split
  · rename_i e; subst e; cases a; simp_all
  · rfl

theorem cell_cellAt (w : World) (b o : Nat) : w.cell? ⟨b, o, none⟩ = cellAt w.heap b o := by
  simp only [World.cell?, cellAt]
  cases w.heap[b]? with
  | none => rfl
  | some x => cases x <;> simp

/-- A variable's cells, loaded. -/
theorem run_loadAt {P : Program} {t : TypeId} {ag : Bool} {cs : List Value} (h : tyShape P t = some (ag, cs.length)) (h1 : ag = false → cs.length = 1) (w : World) (a : Addr) (ha : a.spot = none)
    (hc : ∀ (j : Nat) (v : Value), cs[j]? = some v → cellAt w.heap a.block (a.off + j) = some v) :
    (Instr.loadAt t (.pointer (some a))).run P w = .ok (mkV ag cs) w := by
  have hl := run_loadCells_list (P := P) w a cs (fun j v hj => by rw [add_none ha, cell_cellAt]; exact hc j v hj)
  cases ag with
  | true => simp [Instr.loadAt, Instr.sureAddr, loadVar, run_isAgg h, run_sizeOf h, hl, mkV]
  | false =>
    have hlen := h1 rfl
    match cs, hlen with
    | [c], _ =>
      have h0 := hc 0 c (by simp)
      simp only [Nat.add_zero] at h0
      have e : w.cell? a = some c := by
        have : a = ⟨a.block, a.off, none⟩ := by cases a; simp_all
        rw [this, cell_cellAt]; exact h0
      simp [Instr.loadAt, Instr.sureAddr, loadVar, run_isAgg h, e, mkV]

theorem setCell_setRow (w : World) (g o : Nat) (cs : Array Value) (t : TypeId) (fz : Nat × Nat) (v : Value) (hg : w.heap[g]? = some (.cells cs t fz)) :
    w.setCell ⟨g, o, none⟩ v = w.setRow g (cs.setIfInBounds o v) := setCell_eq_setRow w g o cs t fz v hg

theorem oneC_eq (v : Value) : v.oneC = v.oneCell' := by cases v <;> rfl

/-- A row's cells, written one after the other. -/
theorem run_storeC {P : Program} {u : Bool} {cp : Nat} (g o : Nat) (t : TypeId) (fz : Nat × Nat) : ∀ (vs : List Value) (i : Nat) (cur : Array Value) (w : World), w.heap[g]? = some (.cells cur t fz) → notFz u cp cur.size fz →
    o + i + vs.length ≤ cur.size → (∀ v ∈ vs, v.oneC = true) →
    (storeCells ⟨g, o, none⟩ vs i).run P w = .ok () (w.setRow g (ow cur.toList (o + i) vs).toArray)
  | [], i, cur, w, hg, _, _, _ => by
    simp only [storeCells, ow, List.nil_append, List.length_nil, Nat.add_zero, List.take_append_drop, Array.toArray_toList]
    rw [setRow_self w g cur t fz hg]
    rfl
  | v :: rest, i, cur, w, hg, hz, hl, h1 => by
    have hi : o + i < cur.size := by simp at hl; omega
    have hadd : (⟨g, o, none⟩ : Addr).add i = ⟨g, o + i, none⟩ := add_none rfl i
    have hcell : w.cell? ⟨g, o + i, none⟩ = some cur[o + i] := by simp [World.cell?, hg, hi]
    have hfro : w.frozen? ⟨g, o + i, none⟩ = false := by
      simp only [World.frozen?, hg]
      have := hz.1 (o + i) hi
      obtain ⟨lo, hi'⟩ := fz
      simp only [Bool.and_eq_false_iff, decide_eq_false_iff_not] at this ⊢
      omega
    have hst : (store ((⟨g, o, none⟩ : Addr).add i) v).run P w = .ok () (w.setRow g (cur.setIfInBounds (o + i) v)) := by
      rw [hadd, run_store P w _ v _ (by rw [← oneC_eq]; exact h1 v (by simp)), hcell]
      simp [hfro, setCell_setRow w g (o + i) cur t fz v hg]
    have ih := run_storeC (P := P) g o t fz rest (i + 1) (cur.setIfInBounds (o + i) v) (w.setRow g (cur.setIfInBounds (o + i) v)) (setRow_heap w g cur _ t _ hg) (by simpa using hz) (by simp at hl ⊢; omega) (fun x hx => h1 x (by simp [hx]))
    simp only [storeCells, Sem.run_bind, hst, Result.andThen_ok, ih, setRow_setRow]
    congr 3
    simp only [ow, Array.toList_setIfInBounds]
    apply List.ext_getElem?
    intro n
    have hlen : o + i < cur.toList.length := by simpa using hi
    simp only [List.getElem?_append, List.length_take, List.getElem?_take, List.getElem?_drop, List.length_set, List.getElem?_set, List.length_cons, List.getElem?_cons]
    rw [Nat.min_eq_left (by simp at hl ⊢; omega), Nat.min_eq_left (by omega)]
    simp only [List.length_cons, Array.length_toList] at hl hlen
    repeat' split
    all_goals first
      | rfl
      | (exfalso; omega)
      | (congr 1; omega)
      | simp_all

theorem run_storeAt {P : Program} {u : Bool} {cp : Nat} {t : TypeId} {ag : Bool} (v : Value) (h : tyShape P t = some (ag, v.cells.size)) (w : World) (g o : Nat) (T : TypeId) (fz : Nat × Nat) (cur : Array Value)
    (hg : w.heap[g]? = some (.cells cur T fz)) (hz : notFz u cp cur.size fz) (hl : o + v.cells.size ≤ cur.size) (h1 : ∀ u ∈ v.cells.toList, u.oneC = true) :
    (Instr.storeAt t (.pointer (some ⟨g, o, none⟩)) v).run P w = .ok () (w.setRow g (ow cur.toList o v.cells.toList).toArray) := by
  have hst := run_storeC (P := P) g o T fz v.cells.toList 0 cur w hg hz (by simpa using hl) h1
  simp only [Nat.add_zero] at hst
  simp [Instr.storeAt, Instr.sureAddr, storeVar, run_sizeOf h, hst]

theorem setRow_at (w : World) (g : Nat) (old cs : Array Value) (t : TypeId) (fz : Nat × Nat) (hg : w.heap[g]? = some (.cells old t fz)) : (w.setRow g cs).heap[g]? = some (.cells cs t fz) :=
  setRow_heap w g old cs t fz hg

end Go.Eng
