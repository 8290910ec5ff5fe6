/- The engine, part 11b: maps. -/
import Derived.Test.YtadinocaadlgmaaE11
import Derived.WideKeyRuns
namespace Go.Eng
open Go
set_option linter.unusedVariables false
set_option linter.unusedSimpArgs false

mutual
theorem chkTy {P : Program} {Ok : Nat → Prop} {hp : Array Obj} (em : Bool) : ∀ (n : Nat) (t : TypeId) (g : GT), eqTy P n t g = true → ∀ d, n ≤ d → ∀ (x : g.ty) (cx : List Value),
    RepD Ok hp g x cx → ∀ w, (Instr.checkKey em d t (mkV g.isAgg cx)).run P w = .ok () w
  | 0, t, g, h => by simp [eqTy] at h
  | n + 1, t, g, h => by
    intro d hd x cx hx w
    obtain ⟨d, rfl⟩ : ∃ e, d = e + 1 := ⟨d - 1, by omega⟩
    simp only [eqTy] at h
    split at h
    · rename_i ht
      simp only [RepD] at hx
      subst hx
      simp [GT.isAgg, mkV, Instr.checkKey, run_underlying ht]
    · rename_i k k' ht
      simp only [RepD] at hx
      subst hx
      simp [GT.isAgg, mkV, Instr.checkKey, run_underlying ht]
    · rename_i ht
      simp only [RepD] at hx
      subst hx
      simp [GT.isAgg, mkV, Instr.checkKey, run_underlying ht]
    · rename_i fs ht
      simp only [Bool.and_eq_true, Bool.not_eq_true'] at h
      obtain ⟨⟨h1, h2⟩, h3⟩ := h
      have each := chkFields em n fs.toList 0 _ h3 d (by omega) x cx hx [] rfl w
      rw [h2]
      simp only [mkV]
      rw [Instr.checkKey]
      simp only [Sem.run_bind, run_underlying ht, Result.andThen_ok]
      rw [← Array.forIn_toList]
      simp only [List.nil_append] at each
      generalize fs.toList = L at each
      clear h3
      induction L with
      | nil => simp
      | cons f L ih =>
        obtain ⟨hn, a, p1, p2⟩ := each f (by simp)
        simp only [List.forIn_cons, Sem.run_bind, hn, ne_eq, not_false_eq_true, if_true, Result.andThen_ok, p1, p2, Sem.run_pure]
        exact ih (fun y hy => each y (by simp [hy]))
    · cases h
theorem chkFields {P : Program} {Ok : Nat → Prop} {hp : Array Obj} (em : Bool) : ∀ (n : Nat) (fs : List Field) (off : Nat) (g : GT), eqFieldsB P n fs off g = true → ∀ d, n ≤ d → ∀ (x : g.ty) (cx : List Value),
    RepD Ok hp g x cx → ∀ (px : List Value), px.length = off → ∀ w, ∀ f ∈ fs, f.name ≠ "_" ∧ ∃ a, (part f.type (px ++ cx).toArray f.offset).run P w = .ok a w ∧ (Instr.checkKey em d f.type a).run P w = .ok () w
  | 0, fs, off, g, h => by simp [eqFieldsB] at h
  | n + 1, [], off, g, h => by
    intro d hd x cx hx px hpx w f hf
    cases hf
  | n + 1, f :: l, off, g, h => by
    intro d hd x cx hx px hpx w f' hf'
    cases g <;> simp only [eqFieldsB] at h <;> try (cases h; done)
    rename_i a b
    simp only [Bool.and_eq_true, decide_eq_true_eq, Nat.beq_eq] at h
    obtain ⟨⟨⟨⟨h1, h2⟩, h3⟩, h4⟩, h5⟩ := h
    obtain ⟨c1, c2, rfl, q1, q2⟩ := hx
    have hl1 := RepD_len a _ _ q1
    split at h4
    · rename_i ag s hs
      simp only [Bool.and_eq_true, beq_iff_eq, Nat.beq_eq] at h4
      obtain ⟨rfl, rfl⟩ := h4
      rcases List.mem_cons.1 hf' with rfl | hf'
      · have p1 := part_run (c := c1) (by rw [hl1]; exact hs) (fun e => by rw [hl1]; exact agg_false_size a e) px c2 w
        rw [hpx] at p1
        rw [h2]
        exact ⟨h1, _, p1, chkTy em n _ a h3 d (by omega) x.1 c1 q1 w⟩
      · have ih := chkFields em n l (off + a.size) b h5 d (by omega) x.2 c2 q2 (px ++ c1) (by simp [hpx, hl1]) w f' hf'
        simpa [List.append_assoc] using ih
    · cases h4
end

/-- Entries bear a list. -/
def Ents (Ok : Nat → Prop) (hp : Array Obj) (k v : GT) (es : List (k.ty × v.ty)) (l : List MapEntry) : Prop :=
  l.length = es.length ∧ ∀ (i : Nat) (e : k.ty × v.ty), es[i]? = some e → ∃ me ck cv, l[i]? = some me ∧ RepD Ok hp k e.1 ck ∧ me.key = mkV k.isAgg ck ∧ RepD Ok hp v e.2 cv ∧ me.val = mkV v.isAgg cv

theorem findAsk {P : Program} {Ok : Nat → Prop} {hp : Array Obj} {kt : TypeId} {k v : GT} (he : eqTy P 40 kt k = true) {x : k.ty} {cx : List Value} (hx : RepD Ok hp k x cx) (w : World) :
    ∀ (es : List (k.ty × v.ty)) (l : List MapEntry) (i : Nat), Ents Ok hp k v es l →
      (mapAt k v x es = none ∧ (Instr.findAsking kt (mkV k.isAgg cx) l i).run P w = .ok none w) ∨
      ∃ y j cv, mapAt k v x es = some y ∧ (Instr.findAsking kt (mkV k.isAgg cx) l i).run P w = .ok (some (j, mkV v.isAgg cv)) w ∧ RepD Ok hp v y cv
  | [], l, i, h => by
    have : l = [] := List.eq_nil_of_length_eq_zero h.1
    subst this
    exact .inl ⟨rfl, by simp [Instr.findAsking]⟩
  | e :: es, [], i, h => by have := h.1; simp at this
  | e :: es, me :: l, i, h => by
    obtain ⟨me', ck, cv, h1, h2, h3, h4, h5⟩ := h.2 0 e rfl
    cases h1
    have key := eqTy_sound (P := P) (Ok := Ok) (hp := hp) 40 kt k he 10000 (by omega) x e.1 cx ck hx h2 w
    have hrest : Ents Ok hp k v es l := ⟨by have := h.1; simpa using this, fun j e' hj => by
      have := h.2 (j + 1) e' (by simpa using hj)
      simpa using this⟩
    simp only [mapAt]
    cases hq : k.eqv x e.1 with
    | true =>
      rw [hq] at key
      refine .inr ⟨e.2, i, cv, rfl, ?_, h4⟩
      simp only [Instr.findAsking, h3, Sem.run_bind, Op.equal, Op.maxDepth, key, Result.andThen_ok, if_true, Sem.run_pure, h5]
    | false =>
      rw [hq] at key
      have ih := findAsk (v := v) he hx w es l (i + 1) hrest
      simp only [cond_false]
      simp only [Instr.findAsking, h3, Sem.run_bind, Op.equal, Op.maxDepth, key, Result.andThen_ok, Bool.false_eq_true, if_false]
      exact ih

theorem zeroV_spec {P : Program} {t : TypeId} {g : GT} (h : zeroV P t g = true) (w : World) : (zeroValue t).run P w = .ok (mkV g.isAgg (cellsZ g)) w := by
  unfold zeroV at h
  split at h
  · rename_i i hi
    split at h
    · rename_i v hv
      split at h
      · rename_i c hc
        simp only [Bool.and_eq_true, Bool.not_eq_true'] at h
        have := sameV_eq h.2
        simp [zeroValue, typeInfo, hi, hv, this, hc, h.1, mkV]
      · cases h
    · cases h
  · cases h

theorem ents_of {X : HS} {n : Nat} {k v : GT} {es : List (k.ty × v.ty)} (h : RepO X n (.map k v es)) : ∃ r ents clock, X.ρ[n]? = some (.map (some r)) ∧ X.w.heap[r]? = some (.map ents clock) ∧ Ents X.Ok X.w.heap k v es ents.toList ∧
      (∀ (i : Nat) me, ents[i]? = some me → me.born < clock) ∧ (∀ (i j : Nat) me mf, ents[i]? = some me → ents[j]? = some mf → me.born = mf.born → i = j) := by
  obtain ⟨r, ents, clock, h1, h2, h3, h4, h5, h6⟩ := h
  exact ⟨r, ents, clock, h1, h2, ⟨by simpa using h3, fun i e he => by
    obtain ⟨me, ck, cv, k1, k2⟩ := h4 i e he
    exact ⟨me, ck, cv, by simpa using k1, k2⟩⟩, h5, h6⟩

theorem lookupK_sound {R : Type} {P : Program} {t : TypeId} {co : Bool} {B : Base} {X : HS} {h : List SO} {x i : SV} {xv iv : Value} {K : Kont R} {r : R} (H : HRep B X h) (hx : Rep X x .val [xv]) (hi : Rep X i .val [iv])
    (hk : lookupK P t x i co h K = some r) : Out B X K r ((Instr.lookup t xv iv co).run P X.w) := by
  unfold lookupK at hk
  split at hk
  · rename_i kt vt n g a ht
    split at hk
    · rename_i k v es hn
      split at hk
      · rename_i a' ha
        obtain ⟨e, rfl⟩ := castD_some ha
        cases e
        obtain ⟨hc, hk⟩ := bif_some hk
        simp only [Bool.and_eq_true] at hc
        obtain ⟨⟨hw, he⟩, hz⟩ := hc
        obtain ⟨rr, ents, clock, o1, o2, o3, _, _⟩ := ents_of (H.obj n _ hn)
        obtain ⟨xv', q1, q2, _⟩ := hx
        rw [o1] at q1
        cases q1
        cases q2
        obtain ⟨cx, hx', e⟩ := hi
        cases e
        have c1 := chkTy (P := P) ents.isEmpty 40 kt g he 10000 (by omega) a cx hx' X.w
        have c2 := run_findKey_eq (P := P) X.w (k := kt) (by unfold wideKey at hw; exact hw) (mkV g.isAgg cx) ents.toList
        have c3 := zeroV_spec hz X.w
        have hgo : ∃ ok : Bool, ∃ cv y, (mapAt g v a es).getD v.dflt = y ∧ (mapAt g v a es).isSome = ok ∧ RepD X.Ok X.w.heap v y cv ∧
            (Instr.lookup t (.map (some rr)) (mkV g.isAgg cx) co).run P X.w = .ok (if co then .tuple #[mkV v.isAgg cv, .bool ok] else mkV v.isAgg cv) X.w := by
          have hg : (getObj rr).run P X.w = .ok (.map ents clock) X.w := by simp [getObj, Sem.run, o2]
          rcases findAsk (v := v) he hx' X.w es ents.toList 0 o3 with ⟨f1, f2⟩ | ⟨y, j, cv, f1, f2, f3⟩
          · refine ⟨false, cellsZ v, v.dflt, by rw [f1]; rfl, by rw [f1]; rfl, cellsZ_rep v, ?_⟩
            rw [f2] at c2
            simp [Instr.lookup, run_underlying ht, hg, c1, c2, c3]
          · refine ⟨true, cv, y, by rw [f1]; rfl, by rw [f1]; rfl, f3, ?_⟩
            rw [f2] at c2
            simp [Instr.lookup, run_underlying ht, hg, c1, c2]
        obtain ⟨ok, cv, y, g1, g2, g3, g4⟩ := hgo
        rw [g1, g2] at hk
        cases co with
        | true =>
          simp only [if_true] at g4
          exact Out.here (v := .tup (.scons (.dat v y) (.scons (.dat .bool ok) .snil))) H g4 ⟨[mkV v.isAgg cv, .bool ok], ⟨_, _, rfl, ⟨cv, g3, rfl⟩, _, _, rfl, bool_rep, rfl⟩, rfl⟩ hk
        | false =>
          simp only [Bool.false_eq_true, if_false] at g4
          exact Out.here (v := .dat v y) H g4 ⟨cv, g3, rfl⟩ hk
      · cases hk
    · cases hk
  · cases hk

theorem makeMapK_sound {R : Type} {P : Program} {t : TypeId} {un : Bool} {B : Base} {X : HS} {h : List SO} {K : Kont R} {r : R} (H : HRep B X h) (hk : makeMapK P t un h K = some r) : Out B X K r ((Instr.makeMap t none).run P X.w) := by
  unfold makeMapK at hk
  split at hk
  · split at hk
    · rename_i k v _ _
      obtain ⟨_, hk⟩ := bif_some hk
      have hrun : (Instr.makeMap t none).run P X.w = .ok (.map (some X.w.heap.size)) (X.w.alloc (.map #[] 0)) := rfl
      obtain ⟨H', E'⟩ := H.new (w' := X.w.alloc (.map #[] 0)) (val := .map (some X.w.heap.size)) (o := .map k v []) rfl rfl rfl rfl
        (fun b hb => by simpa [Value.blk] using hb.symm) (fun _ => ⟨X.w.heap.size, #[], 0, new_rep H.len _, by show (X.w.heap.push _)[X.w.heap.size]? = _; simp, rfl, fun i e he => by simp at he, fun i me hm => by simp at hm, fun i j me mf hm => by simp at hm⟩)
      exact ⟨_, _, .mp h.length, _, hrun, E', H', ⟨_, new_rep H.len _, rfl, rfl⟩, hk⟩
    · cases hk
  · cases hk

theorem mapUpdateK_sound {R : Type} {P : Program} {t : TypeId} {B : Base} {X : HS} {h : List SO} {m x y : SV} {mv xv yv : Value} {K : Kont R} {r : R} (H : HRep B X h) (hm : Rep X m .val [mv]) (hx : Rep X x .val [xv]) (hy : Rep X y .val [yv])
    (hk : mapUpdateK P t m x y h K = some r) : OutU B X K r ((Instr.mapUpdate t mv xv yv).run P X.w) := by
  unfold mapUpdateK at hk
  split at hk
  · rename_i kt vt n g a g' b ht
    split at hk
    · rename_i k v es hn
      split at hk
      · rename_i a' b' ha hb
        obtain ⟨e, rfl⟩ := castD_some ha
        cases e
        obtain ⟨e, rfl⟩ := castD_some hb
        cases e
        obtain ⟨hc, hk⟩ := bif_some hk
        simp only [Bool.and_eq_true] at hc
        obtain ⟨hw, he⟩ := hc
        obtain ⟨hno, hk⟩ := asrt_true hk
        obtain ⟨rr, ents, clock, o1, o2, o3, o4, o5⟩ := ents_of (H.obj n _ hn)
        obtain ⟨xv', q1, q2, _⟩ := hm
        rw [o1] at q1
        cases q1
        cases q2
        obtain ⟨cx, hx', e⟩ := hx
        cases e
        obtain ⟨cy, hy', e⟩ := hy
        cases e
        have c1 := chkTy (P := P) false 40 kt g he 10000 (by omega) a cx hx' X.w
        have c2 := run_findKey_eq (P := P) X.w (k := kt) (by unfold wideKey at hw; exact hw) (mkV g.isAgg cx) ents.toList
        rcases findAsk (v := g') he hx' X.w es ents.toList 0 o3 with ⟨f1, f2⟩ | ⟨y, j, cv, f1, f2, f3⟩
        · rw [f2] at c2
          have hlt : rr < X.w.heap.size := (Array.getElem?_eq_some_iff.1 o2).1
          have hg : (getObj rr).run P X.w = .ok (.map ents clock) X.w := by simp [getObj, Sem.run, o2]
          have hs : ∀ o, (setObj rr o).run P X.w = .ok () { X.w with heap := X.w.heap.setIfInBounds rr o } := fun o => by simp [setObj, Sem.run, o2]
          have hrun : (Instr.mapUpdate t (.map (some rr)) (mkV g.isAgg cx) (mkV g'.isAgg cy)).run P X.w = .ok () { X.w with heap := X.w.heap.setIfInBounds rr (.map (ents.push { key := mkV g.isAgg cx, val := mkV g'.isAgg cy, born := clock }) (clock + 1)) } := by
            simp [Instr.mapUpdate, run_underlying ht, hg, hs, c1, c2]
          obtain ⟨H', E'⟩ := H.write (w' := { X.w with heap := X.w.heap.setIfInBounds rr (.map (ents.push { key := mkV g.isAgg cx, val := mkV g'.isAgg cy, born := clock }) (clock + 1)) }) (o' := .map g g' (es ++ [(a, b)])) hn rfl (b := rr) (by simp [blkOf, o1, Value.blk]) rfl rfl rfl (by simp) (fun q hq => by simp [Array.getElem?_setIfInBounds, Ne.symm hq])
            (fun E => ⟨rr, ents.push { key := mkV g.isAgg cx, val := mkV g'.isAgg cy, born := clock }, clock + 1, o1, by simp [hlt], by have := o3.1; simp at this ⊢; exact this, fun i e hi => by
              rw [List.getElem?_append] at hi
              split at hi
              · rename_i hil
                obtain ⟨me, ck, cv, k1, k2, k3, k4, k5⟩ := o3.2 i e hi
                have hil2 : i < ents.size := by have := o3.1; simp at this; omega
                refine ⟨me, ck, cv, ?_, RepD_mono E.ok E.st _ _ _ k2, k3, RepD_mono E.ok E.st _ _ _ k4, k5⟩
                rw [Array.getElem?_push, if_neg (by omega)]
                simpa using k1
              · rename_i hil
                have hes : ents.size = es.length := by have := o3.1; simpa using this
                have : i = es.length := by
                  have := (List.getElem?_eq_some_iff.1 hi).1
                  simp at this
                  omega
                subst this
                simp only [Nat.sub_self, List.getElem?_cons_zero, Option.some.injEq] at hi
                subst hi
                refine ⟨_, cx, cy, by rw [Array.getElem?_push, if_pos hes.symm], RepD_mono E.ok E.st _ _ _ hx', rfl, RepD_mono E.ok E.st _ _ _ hy', rfl⟩, fun i me hme => by
              rw [Array.getElem?_push] at hme
              split at hme
              · cases hme; exact Nat.lt_succ_self _
              · exact Nat.lt_succ_of_lt (o4 i me hme), fun i j me mf h1 h2 hb => by
              rw [Array.getElem?_push] at h1 h2
              split at h1 <;> split at h2
              · omega
              · cases h1; have := o4 j mf h2; simp only at hb; omega
              · cases h2; have := o4 i me h1; simp only at hb; omega
              · exact o5 i j me mf h1 h2 hb⟩)
          exact ⟨_, _, hrun, E', H', hk⟩
        · rw [f1] at hno; cases hno
      · cases hk
    · cases hk
  · cases hk

end Go.Eng
