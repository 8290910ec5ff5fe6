/- The engine, part 11b: maps. -/
import Derived.Test.YtondjihmmjjinaaE11
import Derived.WideKeyRuns
import GoSem.Instr.MapEntry
import GoSem.Builtin.Delete
namespace Go.Eng
open Go
set_option linter.unusedVariables false
set_option linter.unusedSimpArgs false

mutual
theorem chkTy {P : Program} {Ok : Nat → Prop} {hp : Array Obj} (em : Bool) : ∀ (n : Nat) (t : TypeId) (g : GT), eqTy P n t g = true → ∀ d, n ≤ d → ∀ (x : g.ty) (cx : List Value),
    RepD Ok hp g x cx → ∀ w, (Instr.checkKey em d t (mkV g.isAgg cx)).run P w = .ok () w
  | 0, t, g, h => by simp [eqTy] at h
  | n + 1, t, g, h => by
    intro d hd x cx hx w
    obtain ⟨d, rfl⟩ : ∃ e, d = e + 1 := ⟨d - 1, by omega⟩
    simp only [eqTy] at h
    split at h
    · rename_i ht
      simp only [RepD] at hx
      subst hx
      simp [GT.isAgg, mkV, Instr.checkKey, run_underlying ht]
    · rename_i k k' ht
      simp only [RepD] at hx
      subst hx
      simp [GT.isAgg, mkV, Instr.checkKey, run_underlying ht]
    · rename_i ht
      simp only [RepD] at hx
      subst hx
      simp [GT.isAgg, mkV, Instr.checkKey, run_underlying ht]
    · rename_i fs ht
      simp only [Bool.and_eq_true, Bool.not_eq_true'] at h
      obtain ⟨⟨h1, h2⟩, h3⟩ := h
      have each := chkFields em n fs.toList 0 _ h3 d (by omega) x cx hx [] rfl w
      rw [h2]
      simp only [mkV]
      rw [Instr.checkKey]
      simp only [Sem.run_bind, run_underlying ht, Result.andThen_ok]
      rw [← Array.forIn_toList]
      simp only [List.nil_append] at each
      generalize fs.toList = L at each
      clear h3
      induction L with
      | nil => simp
      | cons f L ih =>
        obtain ⟨hn, a, p1, p2⟩ := each f (by simp)
        simp only [List.forIn_cons, Sem.run_bind, hn, ne_eq, not_false_eq_true, if_true, Result.andThen_ok, p1, p2, Sem.run_pure]
        exact ih (fun y hy => each y (by simp [hy]))
    · cases h
theorem chkFields {P : Program} {Ok : Nat → Prop} {hp : Array Obj} (em : Bool) : ∀ (n : Nat) (fs : List Field) (off : Nat) (g : GT), eqFieldsB P n fs off g = true → ∀ d, n ≤ d → ∀ (x : g.ty) (cx : List Value),
    RepD Ok hp g x cx → ∀ (px : List Value), px.length = off → ∀ w, ∀ f ∈ fs, f.name ≠ "_" ∧ ∃ a, (part f.type (px ++ cx).toArray f.offset).run P w = .ok a w ∧ (Instr.checkKey em d f.type a).run P w = .ok () w
  | 0, fs, off, g, h => by simp [eqFieldsB] at h
  | n + 1, [], off, g, h => by
    intro d hd x cx hx px hpx w f hf
    cases hf
  | n + 1, f :: l, off, g, h => by
    intro d hd x cx hx px hpx w f' hf'
    cases g <;> simp only [eqFieldsB] at h <;> try (cases h; done)
    rename_i a b
    simp only [Bool.and_eq_true, decide_eq_true_eq, Nat.beq_eq] at h
    obtain ⟨⟨⟨⟨h1, h2⟩, h3⟩, h4⟩, h5⟩ := h
    obtain ⟨c1, c2, rfl, q1, q2⟩ := hx
    have hl1 := RepD_len a _ _ q1
    split at h4
    · rename_i ag s hs
      simp only [Bool.and_eq_true, beq_iff_eq, Nat.beq_eq] at h4
      obtain ⟨rfl, rfl⟩ := h4
      rcases List.mem_cons.1 hf' with rfl | hf'
      · have p1 := part_run (c := c1) (by rw [hl1]; exact hs) (fun e => by rw [hl1]; exact agg_false_size a e) px c2 w
        rw [hpx] at p1
        rw [h2]
        exact ⟨h1, _, p1, chkTy em n _ a h3 d (by omega) x.1 c1 q1 w⟩
      · have ih := chkFields em n l (off + a.size) b h5 d (by omega) x.2 c2 q2 (px ++ c1) (by simp [hpx, hl1]) w f' hf'
        simpa [List.append_assoc] using ih
    · cases h4
end

/-- Entries bear a list. -/
def Ents (Ok : Nat → Prop) (hp : Array Obj) (k v : GT) (es : List (k.ty × v.ty)) (l : List MapEntry) : Prop :=
  l.length = es.length ∧ ∀ (i : Nat) (e : k.ty × v.ty), es[i]? = some e → ∃ me ck cv, l[i]? = some me ∧ RepD Ok hp k e.1 ck ∧ me.key = mkV k.isAgg ck ∧ RepD Ok hp v e.2 cv ∧ me.val = mkV v.isAgg cv

theorem findAsk {P : Program} {Ok : Nat → Prop} {hp : Array Obj} {kt : TypeId} {k v : GT} (he : eqTy P 40 kt k = true) {x : k.ty} {cx : List Value} (hx : RepD Ok hp k x cx) (w : World) :
    ∀ (es : List (k.ty × v.ty)) (l : List MapEntry) (i : Nat), Ents Ok hp k v es l →
      (mapAt k v x es = none ∧ (Instr.findAsking kt (mkV k.isAgg cx) l i).run P w = .ok none w) ∨
      ∃ y j cv, mapAt k v x es = some y ∧ (Instr.findAsking kt (mkV k.isAgg cx) l i).run P w = .ok (some (j, mkV v.isAgg cv)) w ∧ RepD Ok hp v y cv
  | [], l, i, h => by
    have : l = [] := List.eq_nil_of_length_eq_zero h.1
    subst this
    exact .inl ⟨rfl, by simp [Instr.findAsking]⟩
  | e :: es, [], i, h => by have := h.1; simp at this
  | e :: es, me :: l, i, h => by
    obtain ⟨me', ck, cv, h1, h2, h3, h4, h5⟩ := h.2 0 e rfl
    cases h1
    have key := eqTy_sound (P := P) (Ok := Ok) (hp := hp) 40 kt k he 10000 (by omega) x e.1 cx ck hx h2 w
    have hrest : Ents Ok hp k v es l := ⟨by have := h.1; simpa using this, fun j e' hj => by
      have := h.2 (j + 1) e' (by simpa using hj)
      simpa using this⟩
    simp only [mapAt]
    cases hq : k.eqv x e.1 with
    | true =>
      rw [hq] at key
      refine .inr ⟨e.2, i, cv, rfl, ?_, h4⟩
      simp only [Instr.findAsking, h3, Sem.run_bind, Op.equal, Op.maxDepth, key, Result.andThen_ok, if_true, Sem.run_pure, h5]
    | false =>
      rw [hq] at key
      have ih := findAsk (v := v) he hx w es l (i + 1) hrest
      simp only [cond_false]
      simp only [Instr.findAsking, h3, Sem.run_bind, Op.equal, Op.maxDepth, key, Result.andThen_ok, Bool.false_eq_true, if_false]
      exact ih

theorem zeroV_spec {P : Program} {t : TypeId} {g : GT} (h : zeroV P t g = true) (w : World) : (zeroValue t).run P w = .ok (mkV g.isAgg (cellsZ g)) w := by
  unfold zeroV at h
  split at h
  · rename_i i hi
    split at h
    · rename_i v hv
      split at h
      · rename_i b hb
        simp only [Bool.and_eq_true, beq_iff_eq] at h
        obtain ⟨rfl, h2⟩ := h
        have h3 := sameVs_eq h2
        have : v = mkV g.isAgg (cellsZ g) := by
          rw [h3]
          cases v <;> simp only [valAgg, Option.some.injEq, reduceCtorEq] at hb <;> simp [← hb, mkV, Value.cells]
        simp [zeroValue, typeInfo, hi, hv, this]
      · cases h
    · cases h
  · cases h

theorem eqv_cells {Ok : Nat → Prop} {hp : Array Obj} : ∀ (g : GT) (x y : g.ty) (c d : List Value), g.eqv x y = true → RepD Ok hp g x c → RepD Ok hp g y d → c = d ∧ ∀ v ∈ c, Instr.sameBits 9999 v v = true
  | .int k, x, y, c, d, h, hx, hy => by
    simp only [RepD] at hx hy
    simp only [GT.eqv, beq_iff_eq] at h
    subst hx; subst hy; subst h
    exact ⟨rfl, fun v hv => by simp at hv; subst hv; simp [Instr.sameBits]⟩
  | .bool, x, y, c, d, h, hx, hy => by
    simp only [RepD] at hx hy
    simp only [GT.eqv, beq_iff_eq] at h
    subst hx; subst hy; subst h
    exact ⟨rfl, fun v hv => by simp at hv; subst hv; simp [Instr.sameBits]⟩
  | .str, x, y, c, d, h, hx, hy => by
    simp only [RepD] at hx hy
    simp only [GT.eqv, beq_iff_eq] at h
    subst hx; subst hy; subst h
    exact ⟨rfl, fun v hv => by simp at hv; subst hv; simp [Instr.sameBits, beq_toListBytes]⟩
  | .nil, x, y, c, d, h, hx, hy => by
    simp only [RepD] at hx hy
    subst hx; subst hy
    exact ⟨rfl, fun v hv => by simp at hv⟩
  | .cons a b, x, y, c, d, h, hx, hy => by
    simp only [GT.eqv, Bool.and_eq_true] at h
    obtain ⟨c1, c2, rfl, p1, p2⟩ := hx
    obtain ⟨d1, d2, rfl, q1, q2⟩ := hy
    obtain ⟨e1, s1⟩ := eqv_cells a _ _ _ _ h.1 p1 q1
    obtain ⟨e2, s2⟩ := eqv_cells b _ _ _ _ h.2 p2 q2
    refine ⟨by rw [e1, e2], fun v hv => ?_⟩
    rcases List.mem_append.1 hv with hv | hv
    · exact s1 v hv
    · exact s2 v hv
  | .sl _, x, y, c, d, h, hx, hy => by simp [GT.eqv] at h
  | .opq, x, y, c, d, h, hx, hy => by simp [GT.eqv] at h

theorem sameBits_zip : ∀ (c : List Value), (∀ v ∈ c, Instr.sameBits 9999 v v = true) → ((c.zip c).all fun p => Instr.sameBits 9999 p.1 p.2) = true
  | [], _ => rfl
  | v :: c, h => by
    simp only [List.zip_cons_cons, List.all_cons, Bool.and_eq_true]
    exact ⟨h v (by simp), sameBits_zip c (fun u hu => h u (by simp [hu]))⟩

theorem keyStays {P : Program} {Ok : Nat → Prop} {hp : Array Obj} {k : GT} {x y : k.ty} {c d : List Value} (h : k.eqv x y = true) (hx : RepD Ok hp k x c) (hy : RepD Ok hp k y d) (w : World) :
    (Instr.keyThatStays (mkV k.isAgg d) (mkV k.isAgg c)).run P w = .ok (mkV k.isAgg c) w := by
  obtain ⟨rfl, hs⟩ := eqv_cells k x y c d h hx hy
  have : Instr.sameBits 10000 (mkV k.isAgg c) (mkV k.isAgg c) = true := by
    cases hg : k.isAgg with
    | true =>
      have := sameBits_zip c hs
      simp only [mkV]
      rw [Instr.sameBits]
      simpa using this
    | false =>
      have hl := RepD_len k x c hx
      have h1 : k.size = 1 := by cases k <;> simp_all [GT.isAgg, GT.size]
      rw [h1] at hl
      match c, hl with
      | [v], _ =>
        have := hs v (by simp)
        have ho := RepD_one k x _ hx v (by simp)
        simp only [mkV, List.headD_cons]
        cases v <;> simp_all [Instr.sameBits, Value.oneC, GT.isAgg]
        all_goals (cases k <;> simp_all [RepD, GT.isAgg, GT.eqv])
  simp [Instr.keyThatStays, this]

/-- Looking for a key, whatever its kind. -/
theorem findKey_any {P : Program} {Ok : Nat → Prop} {hp : Array Obj} {kt : TypeId} {k v : GT} (he : eqTy P 40 kt k = true) {x : k.ty} {cx : List Value} (hx : RepD Ok hp k x cx) (w : World) (es : List (k.ty × v.ty)) (l : List MapEntry)
    (hl : Ents Ok hp k v es l) : (Instr.findKey kt (mkV k.isAgg cx) l).run P w = (Instr.findAsking kt (mkV k.isAgg cx) l).run P w := by
  have now : ∀ (d : TypeDesc), P.underlying kt = some d → (∀ (e : k.ty) (ce : List Value), RepD Ok hp k e ce → Instr.sameNow d (mkV k.isAgg cx) (mkV k.isAgg ce) = some (k.eqv x e)) →
      (Instr.findKey kt (mkV k.isAgg cx) l).run P w = (Instr.findAsking kt (mkV k.isAgg cx) l).run P w := by
    intro d hd hs
    have key : ∀ (es : List (k.ty × v.ty)) (l : List MapEntry) (i : Nat), Ents Ok hp k v es l → ∃ r, Instr.findNow d (mkV k.isAgg cx) l i = some r ∧ (Instr.findAsking kt (mkV k.isAgg cx) l i).run P w = .ok r w := by
      intro es
      induction es with
      | nil =>
        intro l i h
        have : l = [] := List.eq_nil_of_length_eq_zero h.1
        subst this
        exact ⟨none, rfl, by simp [Instr.findAsking]⟩
      | cons e es ih =>
        intro l i h
        cases l with
        | nil => have := h.1; simp at this
        | cons me l =>
        obtain ⟨me', ck, cv, h1, h2, h3, h4, h5⟩ := h.2 0 e rfl
        cases h1
        have key := eqTy_sound (P := P) (Ok := Ok) (hp := hp) 40 kt k he 10000 (by omega) x e.1 cx ck hx h2 w
        have hrest : Ents Ok hp k v es l := ⟨by have := h.1; simpa using this, fun j e' hj => by
          have := h.2 (j + 1) e' (by simpa using hj)
          simpa using this⟩
        have hs1 := hs e.1 ck h2
        cases hq : k.eqv x e.1 with
        | true =>
          rw [hq] at key hs1
          refine ⟨some (i, me.val), by simp only [Instr.findNow, h3, hs1], ?_⟩
          simp only [Instr.findAsking, h3, Sem.run_bind, Op.equal, Op.maxDepth, key, Result.andThen_ok, if_true, Sem.run_pure]
        | false =>
          rw [hq] at key hs1
          obtain ⟨r, r1, r2⟩ := ih l (i + 1) hrest
          refine ⟨r, by simp only [Instr.findNow, h3, hs1]; exact r1, ?_⟩
          simp only [Instr.findAsking, h3, Sem.run_bind, Op.equal, Op.maxDepth, key, Result.andThen_ok, Bool.false_eq_true, if_false]
          exact r2
    obtain ⟨r, r1, r2⟩ := key es l 0 hl
    rw [r2]
    simp [Instr.findKey, run_underlying hd, r1]
  have he' := he
  simp only [eqTy] at he'
  split at he'
  · rename_i ht
    refine now _ ht (fun e ce hce => ?_)
    simp only [RepD] at hx hce
    subst hx; subst hce
    rfl
  · rename_i q q' ht
    refine now _ ht (fun e ce hce => ?_)
    simp only [RepD] at hx hce
    subst hx; subst hce
    simp [mkV, GT.isAgg, Instr.sameNow, GT.eqv]
  · rename_i ht
    refine now _ ht (fun e ce hce => ?_)
    simp only [RepD] at hx hce
    subst hx; subst hce
    simp [mkV, GT.isAgg, Instr.sameNow, GT.eqv, beq_toListBytes]
  · rename_i fs ht
    exact run_findKey_eq (P := P) w (k := kt) (by simp [ht]) _ l
  · cases he'

/-- Where the key lies. -/
theorem findAt {P : Program} {Ok : Nat → Prop} {hp : Array Obj} {kt : TypeId} {k v : GT} (he : eqTy P 40 kt k = true) {x : k.ty} {cx : List Value} (hx : RepD Ok hp k x cx) (w : World) :
    ∀ (es : List (k.ty × v.ty)) (l : List MapEntry) (i : Nat), Ents Ok hp k v es l →
      ((∀ y, putM k v x y es = es ++ [(x, y)]) ∧ mapAt k v x es = none ∧ (Instr.findAsking kt (mkV k.isAgg cx) l i).run P w = .ok none w) ∨
      ∃ p e me, es[p]? = some e ∧ l[p]? = some me ∧ k.eqv x e.1 = true ∧ (∀ y, putM k v x y es = es.set p (x, y)) ∧ mapAt k v x es = some e.2 ∧ (Instr.findAsking kt (mkV k.isAgg cx) l i).run P w = .ok (some (i + p, me.val)) w
  | [], l, i, h => by
    have : l = [] := List.eq_nil_of_length_eq_zero h.1
    subst this
    exact .inl ⟨fun _ => rfl, rfl, by simp [Instr.findAsking]⟩
  | e :: es, [], i, h => by have := h.1; simp at this
  | e :: es, me :: l, i, h => by
    obtain ⟨me', ck, cv, h1, h2, h3, h4, h5⟩ := h.2 0 e rfl
    cases h1
    have key := eqTy_sound (P := P) (Ok := Ok) (hp := hp) 40 kt k he 10000 (by omega) x e.1 cx ck hx h2 w
    have hrest : Ents Ok hp k v es l := ⟨by have := h.1; simpa using this, fun j e' hj => by
      have := h.2 (j + 1) e' (by simpa using hj)
      simpa using this⟩
    simp only [putM, mapAt]
    cases hq : k.eqv x e.1 with
    | true =>
      rw [hq] at key
      refine .inr ⟨0, e, me, rfl, rfl, hq, fun _ => rfl, rfl, ?_⟩
      simp only [Instr.findAsking, h3, Sem.run_bind, Op.equal, Op.maxDepth, key, Result.andThen_ok, if_true, Sem.run_pure, Nat.add_zero]
    | false =>
      rw [hq] at key
      rcases findAt he hx w es l (i + 1) hrest with ⟨p1, p2, p3⟩ | ⟨p, e', me', p1, p2, p3, p4, p5, p6⟩
      · refine .inl ⟨fun y => by rw [cond_false, p1]; rfl, p2, ?_⟩
        simp only [Instr.findAsking, h3, Sem.run_bind, Op.equal, Op.maxDepth, key, Result.andThen_ok, Bool.false_eq_true, if_false]
        exact p3
      · refine .inr ⟨p + 1, e', me', p1, p2, p3, fun y => by rw [cond_false, p4]; rfl, p5, ?_⟩
        simp only [Instr.findAsking, h3, Sem.run_bind, Op.equal, Op.maxDepth, key, Result.andThen_ok, Bool.false_eq_true, if_false]
        rw [p6, show i + 1 + p = i + (p + 1) by omega]

theorem ents_of {X : HS} {n : Nat} {k v : GT} {es : List (k.ty × v.ty)} (h : RepO X n (.map k v es)) : ∃ r ents clock, X.ρ[n]? = some (.map (some r)) ∧ X.w.heap[r]? = some (.map ents clock) ∧ Ents X.Ok X.w.heap k v es ents.toList ∧
      (∀ (i : Nat) me, ents[i]? = some me → me.born < clock) ∧ (∀ (i j : Nat) me mf, ents[i]? = some me → ents[j]? = some mf → me.born = mf.born → i = j) := by
  obtain ⟨r, ents, clock, h1, h2, h3, h4, h5, h6⟩ := h
  exact ⟨r, ents, clock, h1, h2, ⟨by simpa using h3, fun i e he => by
    obtain ⟨me, ck, cv, k1, k2⟩ := h4 i e he
    exact ⟨me, ck, cv, by simpa using k1, k2⟩⟩, h5, h6⟩

theorem lookupK_sound {R : Type} {P : Program} {t : TypeId} {co : Bool} {B : Base} {X : HS} {h : List SO} {x i : SV} {xv iv : Value} {K : Kont R} {r : R} (H : HRep B X h) (hx : Rep X x .val [xv]) (hi : Rep X i .val [iv])
    (hk : lookupK P t x i co h K = some r) : Out B X K r ((Instr.lookup t xv iv co).run P X.w) := by
  unfold lookupK at hk
  split at hk
  · rename_i kt vt n g a ht
    split at hk
    · rename_i k v es hn
      split at hk
      · rename_i a' ha
        obtain ⟨e, rfl⟩ := castD_some ha
        cases e
        obtain ⟨hc, hk⟩ := bif_some hk
        simp only [Bool.and_eq_true] at hc
        obtain ⟨he, hz⟩ := hc
        obtain ⟨rr, ents, clock, o1, o2, o3, _, _⟩ := ents_of (H.obj n _ hn)
        obtain ⟨xv', q1, q2, _⟩ := hx
        rw [o1] at q1
        cases q1
        cases q2
        obtain ⟨cx, hx', e⟩ := hi
        cases e
        have c1 := chkTy (P := P) ents.isEmpty 40 kt g he 10000 (by omega) a cx hx' X.w
        have c2 := findKey_any (P := P) he hx' X.w es ents.toList o3
        have c3 := zeroV_spec hz X.w
        have hgo : ∃ ok : Bool, ∃ cv y, (mapAt g v a es).getD v.dflt = y ∧ (mapAt g v a es).isSome = ok ∧ RepD X.Ok X.w.heap v y cv ∧
            (Instr.lookup t (.map (some rr)) (mkV g.isAgg cx) co).run P X.w = .ok (if co then .tuple #[mkV v.isAgg cv, .bool ok] else mkV v.isAgg cv) X.w := by
          have hg : (getObj rr).run P X.w = .ok (.map ents clock) X.w := by simp [getObj, Sem.run, o2]
          rcases findAsk (v := v) he hx' X.w es ents.toList 0 o3 with ⟨f1, f2⟩ | ⟨y, j, cv, f1, f2, f3⟩
          · refine ⟨false, cellsZ v, v.dflt, by rw [f1]; rfl, by rw [f1]; rfl, cellsZ_rep v, ?_⟩
            rw [f2] at c2
            simp [Instr.lookup, run_underlying ht, hg, c1, c2, c3]
          · refine ⟨true, cv, y, by rw [f1]; rfl, by rw [f1]; rfl, f3, ?_⟩
            rw [f2] at c2
            simp [Instr.lookup, run_underlying ht, hg, c1, c2]
        obtain ⟨ok, cv, y, g1, g2, g3, g4⟩ := hgo
        rw [g1, g2] at hk
        cases co with
        | true =>
          simp only [if_true] at g4
          exact Out.here (v := .tup (.scons (.dat v y) (.scons (.dat .bool ok) .snil))) H g4 ⟨[mkV v.isAgg cv, .bool ok], ⟨_, _, rfl, ⟨cv, g3, rfl⟩, _, _, rfl, bool_rep, rfl⟩, rfl⟩ hk
        | false =>
          simp only [Bool.false_eq_true, if_false] at g4
          exact Out.here (v := .dat v y) H g4 ⟨cv, g3, rfl⟩ hk
      · cases hk
    · cases hk
  · cases hk

theorem makeMapK_sound {R : Type} {P : Program} {t : TypeId} {un : Bool} {B : Base} {X : HS} {h : List SO} {K : Kont R} {r : R} (H : HRep B X h) (hk : makeMapK P t un h K = some r) : Out B X K r ((Instr.makeMap t none).run P X.w) := by
  unfold makeMapK at hk
  split at hk
  · split at hk
    · rename_i k v _ _
      obtain ⟨_, hk⟩ := bif_some hk
      have hrun : (Instr.makeMap t none).run P X.w = .ok (.map (some X.w.heap.size)) (X.w.alloc (.map #[] 0)) := rfl
      obtain ⟨H', E'⟩ := H.new (w' := X.w.alloc (.map #[] 0)) (val := .map (some X.w.heap.size)) (o := .map k v []) rfl rfl rfl rfl
        (fun b hb => by simpa [Value.blk] using hb.symm) (fun _ => ⟨X.w.heap.size, #[], 0, new_rep H.len _, by show (X.w.heap.push _)[X.w.heap.size]? = _; simp, rfl, fun i e he => by simp at he, fun i me hm => by simp at hm, fun i j me mf hm => by simp at hm⟩)
      exact ⟨_, _, .mp h.length, _, hrun, E', H', ⟨_, new_rep H.len _, rfl, rfl⟩, hk⟩
    · cases hk
  · cases hk

theorem mapUpdateK_sound {R : Type} {P : Program} {t : TypeId} {B : Base} {X : HS} {h : List SO} {m x y : SV} {mv xv yv : Value} {K : Kont R} {r : R} (H : HRep B X h) (hm : Rep X m .val [mv]) (hx : Rep X x .val [xv]) (hy : Rep X y .val [yv])
    (hk : mapUpdateK P t m x y h K = some r) : OutU B X K r ((Instr.mapUpdate t mv xv yv).run P X.w) := by
  unfold mapUpdateK at hk
  split at hk
  · rename_i kt vt n g a g' b ht
    split at hk
    · rename_i k v es hn
      split at hk
      · rename_i a' b' ha hb
        obtain ⟨e, rfl⟩ := castD_some ha
        cases e
        obtain ⟨e, rfl⟩ := castD_some hb
        cases e
        obtain ⟨he, hk⟩ := bif_some hk
        obtain ⟨rr, ents, clock, o1, o2, o3, o4, o5⟩ := ents_of (H.obj n _ hn)
        obtain ⟨xv', q1, q2, _⟩ := hm
        rw [o1] at q1
        cases q1
        cases q2
        obtain ⟨cx, hx', e⟩ := hx
        cases e
        obtain ⟨cy, hy', e⟩ := hy
        cases e
        have c1 := chkTy (P := P) false 40 kt g he 10000 (by omega) a cx hx' X.w
        have c2 := findKey_any (P := P) he hx' X.w es ents.toList o3
        have hlt : rr < X.w.heap.size := (Array.getElem?_eq_some_iff.1 o2).1
        have hg : (getObj rr).run P X.w = .ok (.map ents clock) X.w := by simp [getObj, Sem.run, o2]
        have hs : ∀ o, (setObj rr o).run P X.w = .ok () { X.w with heap := X.w.heap.setIfInBounds rr o } := fun o => by simp [setObj, Sem.run, o2]
        rcases findAt (v := g') he hx' X.w es ents.toList 0 o3 with ⟨f1, _, f2⟩ | ⟨p, e, mef, f1, _, f2, f3, _, f4⟩
        · rw [f2] at c2
          rw [f1] at hk
          have hrun : (Instr.mapUpdate t (.map (some rr)) (mkV g.isAgg cx) (mkV g'.isAgg cy)).run P X.w = .ok () { X.w with heap := X.w.heap.setIfInBounds rr (.map (ents.push { key := mkV g.isAgg cx, val := mkV g'.isAgg cy, born := clock }) (clock + 1)) } := by
            simp [Instr.mapUpdate, run_underlying ht, hg, hs, c1, c2]
          obtain ⟨H', E'⟩ := H.write (w' := { X.w with heap := X.w.heap.setIfInBounds rr (.map (ents.push { key := mkV g.isAgg cx, val := mkV g'.isAgg cy, born := clock }) (clock + 1)) }) (o' := .map g g' (es ++ [(a, b)])) hn rfl (b := rr) (by simp [blkOf, o1, Value.blk]) rfl rfl rfl (by simp) (fun q hq => by simp [Array.getElem?_setIfInBounds, Ne.symm hq])
            (fun E => ⟨rr, ents.push { key := mkV g.isAgg cx, val := mkV g'.isAgg cy, born := clock }, clock + 1, o1, by simp [hlt], by have := o3.1; simp at this ⊢; exact this, fun i e hi => by
              rw [List.getElem?_append] at hi
              split at hi
              · rename_i hil
                obtain ⟨me, ck, cv, k1, k2, k3, k4, k5⟩ := o3.2 i e hi
                have hil2 : i < ents.size := by have := o3.1; simp at this; omega
                refine ⟨me, ck, cv, ?_, RepD_mono E.ok E.st _ _ _ k2, k3, RepD_mono E.ok E.st _ _ _ k4, k5⟩
                rw [Array.getElem?_push, if_neg (by omega)]
                simpa using k1
              · rename_i hil
                have hes : ents.size = es.length := by have := o3.1; simpa using this
                have : i = es.length := by
                  have := (List.getElem?_eq_some_iff.1 hi).1
                  simp at this
                  omega
                subst this
                simp only [Nat.sub_self, List.getElem?_cons_zero, Option.some.injEq] at hi
                subst hi
                refine ⟨_, cx, cy, by rw [Array.getElem?_push, if_pos hes.symm], RepD_mono E.ok E.st _ _ _ hx', rfl, RepD_mono E.ok E.st _ _ _ hy', rfl⟩, fun i me hme => by
              rw [Array.getElem?_push] at hme
              split at hme
              · cases hme; exact Nat.lt_succ_self _
              · exact Nat.lt_succ_of_lt (o4 i me hme), fun i j me mf h1 h2 hb => by
              rw [Array.getElem?_push] at h1 h2
              split at h1 <;> split at h2
              · omega
              · cases h1; have := o4 j mf h2; simp only at hb; omega
              · cases h2; have := o4 i me h1; simp only at hb; omega
              · exact o5 i j me mf h1 h2 hb⟩)
          exact ⟨_, _, hrun, E', H', hk⟩
        · rw [f4, Nat.zero_add] at c2
          rw [f3] at hk
          obtain ⟨me, ck, cv, k1, k2, k3, k4, k5⟩ := o3.2 p e f1
          have k1' : ents[p]? = some me := by simpa using k1
          have c4 := keyStays (P := P) f2 hx' k2 X.w
          have hrun : (Instr.mapUpdate t (.map (some rr)) (mkV g.isAgg cx) (mkV g'.isAgg cy)).run P X.w = .ok () { X.w with heap := X.w.heap.setIfInBounds rr (.map (ents.modify p fun e => { e with key := mkV g.isAgg cx, val := mkV g'.isAgg cy }) clock) } := by
            simp [Instr.mapUpdate, run_underlying ht, hg, hs, c1, c2, k1', k3, c4]
          have hat : ∀ (i : Nat) me2, (ents.modify p fun e => { e with key := mkV g.isAgg cx, val := mkV g'.isAgg cy })[i]? = some me2 → ∃ m0, ents[i]? = some m0 ∧ me2.born = m0.born := by
            intro i me2 h
            rw [Array.getElem?_modify] at h
            split at h
            · obtain ⟨m0, h0, rfl⟩ := Option.map_eq_some_iff.1 h
              exact ⟨m0, h0, rfl⟩
            · exact ⟨me2, h, rfl⟩
          obtain ⟨H', E'⟩ := H.write (w' := { X.w with heap := X.w.heap.setIfInBounds rr (.map (ents.modify p fun e => { e with key := mkV g.isAgg cx, val := mkV g'.isAgg cy }) clock) }) (o' := .map g g' (es.set p (a, b))) hn rfl (b := rr) (by simp [blkOf, o1, Value.blk]) rfl rfl rfl (by simp) (fun q hq => by simp [Array.getElem?_setIfInBounds, Ne.symm hq])
            (fun E => ⟨rr, ents.modify p fun e => { e with key := mkV g.isAgg cx, val := mkV g'.isAgg cy }, clock, o1, by simp [hlt], by have := o3.1; simp at this ⊢; exact this, fun i e hi => by
              rw [List.getElem?_set] at hi
              rw [Array.getElem?_modify]
              split at hi
              · rename_i hpi
                subst hpi
                split at hi
                · cases hi
                  refine ⟨_, cx, cy, by rw [if_pos rfl, k1']; rfl, RepD_mono E.ok E.st _ _ _ hx', rfl, RepD_mono E.ok E.st _ _ _ hy', rfl⟩
                · cases hi
              · rename_i hpi
                obtain ⟨me, ck, cv, k1, k2, k3, k4, k5⟩ := o3.2 i e hi
                exact ⟨me, ck, cv, by rw [if_neg hpi]; simpa using k1, RepD_mono E.ok E.st _ _ _ k2, k3, RepD_mono E.ok E.st _ _ _ k4, k5⟩, fun i me hme => by
              obtain ⟨m0, h0, e0⟩ := hat i me hme
              rw [e0]
              exact o4 i m0 h0, fun i j me mf h1 h2 hb => by
              obtain ⟨m1, g1, e1⟩ := hat i me h1
              obtain ⟨m2, g2, e2⟩ := hat j mf h2
              exact o5 i j m1 m2 g1 g2 (by rw [← e1, ← e2]; exact hb)⟩)
          exact ⟨_, _, hrun, E', H', hk⟩
      · cases hk
    · rename_i k v es bs c hn
      split at hk
      · rename_i a' b' ha hb
        obtain ⟨e, rfl⟩ := castD_some ha
        cases e
        obtain ⟨e, rfl⟩ := castD_some hb
        cases e
        obtain ⟨he, hk⟩ := bif_some hk
        obtain ⟨hin, hk⟩ := asrt_true hk
        obtain ⟨rr, ents, o1, o2, o3', o4', o5⟩ := H.obj n _ hn
        have o3 : Ents X.Ok X.w.heap g g' es ents.toList := ⟨by simpa using o3', fun i e he => by
          obtain ⟨me, ck, cv, k1, k2⟩ := o4' i e he
          exact ⟨me, ck, cv, by simpa using k1, k2⟩⟩
        obtain ⟨xv', q1, q2, _⟩ := hm
        rw [o1] at q1
        cases q1
        cases q2
        obtain ⟨cx, hx', e⟩ := hx
        cases e
        obtain ⟨cy, hy', e⟩ := hy
        cases e
        have c1 := chkTy (P := P) false 40 kt g he 10000 (by omega) a cx hx' X.w
        have c2 := findKey_any (P := P) he hx' X.w es ents.toList o3
        have hlt : rr < X.w.heap.size := (Array.getElem?_eq_some_iff.1 o2).1
        have hg : (getObj rr).run P X.w = .ok (.map ents c) X.w := by simp [getObj, Sem.run, o2]
        have hs : ∀ o, (setObj rr o).run P X.w = .ok () { X.w with heap := X.w.heap.setIfInBounds rr o } := fun o => by simp [setObj, Sem.run, o2]
        rcases findAt (v := g') he hx' X.w es ents.toList 0 o3 with ⟨_, f1, _⟩ | ⟨p, e, mef, f1, _, f2, f3, _, f4⟩
        · rw [f1] at hin; cases hin
        · rw [f4, Nat.zero_add] at c2
          rw [f3] at hk
          obtain ⟨me, ck, cv, k1, k2, k3, k4, k5⟩ := o3.2 p e f1
          have k1' : ents[p]? = some me := by simpa using k1
          have c4 := keyStays (P := P) f2 hx' k2 X.w
          have hrun : (Instr.mapUpdate t (.map (some rr)) (mkV g.isAgg cx) (mkV g'.isAgg cy)).run P X.w = .ok () { X.w with heap := X.w.heap.setIfInBounds rr (.map (ents.modify p fun e => { e with key := mkV g.isAgg cx, val := mkV g'.isAgg cy }) c) } := by
            simp [Instr.mapUpdate, run_underlying ht, hg, hs, c1, c2, k1', k3, c4]
          obtain ⟨H', E'⟩ := H.write (w' := { X.w with heap := X.w.heap.setIfInBounds rr (.map (ents.modify p fun e => { e with key := mkV g.isAgg cx, val := mkV g'.isAgg cy }) c) }) (o' := .mapB g g' (es.set p (a, b)) bs c) hn rfl (b := rr) (by simp [blkOf, o1, Value.blk]) rfl rfl rfl (by simp) (fun q hq => by simp [Array.getElem?_setIfInBounds, Ne.symm hq])
            (fun E => ⟨rr, ents.modify p fun e => { e with key := mkV g.isAgg cx, val := mkV g'.isAgg cy }, o1, by simp [hlt], by simp [o3'], fun i e hi => by
              rw [List.getElem?_set] at hi
              rw [Array.getElem?_modify]
              split at hi
              · rename_i hpi
                subst hpi
                split at hi
                · cases hi
                  refine ⟨{ me with key := mkV g.isAgg cx, val := mkV g'.isAgg cy }, cx, cy, by rw [if_pos rfl, k1']; rfl, RepD_mono E.ok E.st _ _ _ hx', rfl, RepD_mono E.ok E.st _ _ _ hy', rfl⟩
                · cases hi
              · rename_i hpi
                obtain ⟨me, ck, cv, k1, k2, k3, k4, k5⟩ := o3.2 i e hi
                exact ⟨me, ck, cv, by rw [if_neg hpi]; simpa using k1, RepD_mono E.ok E.st _ _ _ k2, k3, RepD_mono E.ok E.st _ _ _ k4, k5⟩, by
              rw [← o5.1]
              apply List.ext_getElem?
              intro i
              simp only [List.getElem?_map, Array.getElem?_toList, Array.getElem?_modify]
              split
              · cases ents[i]? <;> rfl
              · rfl, o5.2⟩)
          exact ⟨_, _, hrun, E', H', hk⟩
      · cases hk
    · cases hk
  · cases hk

theorem eqv_refl {P : Program} : ∀ (n : Nat) (t : TypeId) (g : GT), eqTy P n t g = true → ∀ x : g.ty, g.eqv x x = true := by
  have flat : ∀ (g : GT), g.flat = true → (∀ t n, eqTy P n t g = true → g ≠ .opq) → True := fun _ _ _ => trivial
  intro n t g h
  exact (eqv_refl' n).1 t g h
where eqv_refl' {P : Program} : ∀ n : Nat, (∀ t g, eqTy P n t g = true → ∀ x : g.ty, g.eqv x x = true) ∧ (∀ fs off g, eqFieldsB P n fs off g = true → ∀ x : g.ty, g.eqv x x = true)
  | 0 => ⟨fun t g h => by simp [eqTy] at h, fun fs off g h => by simp [eqFieldsB] at h⟩
  | n + 1 => by
    obtain ⟨ih1, ih2⟩ := eqv_refl' (P := P) n
    refine ⟨fun t g h x => ?_, fun fs off g h x => ?_⟩
    · simp only [eqTy] at h
      split at h
      · simp [GT.eqv]
      · simp [GT.eqv]
      · simp [GT.eqv]
      · simp only [Bool.and_eq_true] at h
        exact ih2 _ _ _ h.2 x
      · cases h
    · cases fs with
      | nil => cases g <;> simp only [eqFieldsB] at h <;> first | (cases h; done) | rfl
      | cons f l =>
        cases g <;> simp only [eqFieldsB] at h <;> try (cases h; done)
        rename_i a b
        simp only [Bool.and_eq_true] at h
        simp only [GT.eqv, Bool.and_eq_true]
        exact ⟨ih1 _ _ h.1.1.2 _, ih2 _ _ _ h.2 _⟩

theorem putM_ne {k v : GT} {x : k.ty} : ∀ {es : List (k.ty × v.ty)}, (∀ y, putM k v x y es = es ++ [(x, y)]) → k.eqv x x = true → ∀ y z, putM k v x y (es ++ [(x, z)]) = es ++ [(x, y)]
  | [], _, hr, y, z => by simp [putM, hr]
  | e :: es, h, hr, y, z => by
    have h0 := h y
    simp only [putM] at h0
    cases hq : k.eqv x e.1 with
    | true =>
      rw [hq] at h0
      simp only [cond_true, List.cons_append, List.cons.injEq] at h0
      have := congrArg List.length h0.2
      simp at this
    | false =>
      rw [hq] at h0
      simp only [List.cons_append, putM, hq, cond_false, List.cons.injEq, true_and]
      refine putM_ne (fun y' => ?_) hr y z
      have h1 := h y'
      simp only [putM, hq, cond_false, List.cons_append, List.cons.injEq, true_and] at h1
      exact h1

theorem putM_set {k v : GT} {x : k.ty} : ∀ {es : List (k.ty × v.ty)} {p : Nat}, (∀ y, putM k v x y es = es.set p (x, y)) → k.eqv x x = true → ∀ z y, putM k v x y (es.set p (x, z)) = es.set p (x, y)
  | [], p, h, _, z, y => by have := h y; simp [putM] at this
  | e :: es, 0, h, hr, z, y => by simp [putM, hr]
  | e :: es, p + 1, h, hr, z, y => by
    cases hq : k.eqv x e.1 with
    | true =>
      have h0 := h y
      have h1 := h z
      simp only [putM, hq, cond_true, List.set_cons_succ, List.cons.injEq] at h0 h1
      simp only [List.set_cons_succ, putM, hq, cond_true, ← h1.2, ← h0.2, ← h0.1]
      simp [hr]
    | false =>
      simp only [List.set_cons_succ, putM, hq, cond_false, List.cons.injEq, true_and]
      refine putM_set (fun y' => ?_) hr z y
      have h1 := h y'
      simp only [putM, hq, cond_false, List.set_cons_succ, List.cons.injEq, true_and] at h1
      exact h1

theorem HRep.dead {B : Base} {X : HS} {h : List SO} (H : HRep B X h) (v : Value) : HRep B ⟨X.ρ ++ [v], X.Ok, X.w⟩ (h ++ [.dead]) ∧ Ext X ⟨X.ρ ++ [v], X.Ok, X.w⟩ :=
  H.adopt (val := v) (o := .dead) (fun b hl _ => by cases hl) trivial

theorem mapEntryK_sound {R : Type} {P : Program} {t : TypeId} {un : Bool} {B : Base} {X : HS} {h : List SO} {m x : SV} {mv xv : Value} {K : Kont R} {r : R} (H : HRep B X h) (hm : Rep X m .val [mv]) (hx : Rep X x .val [xv])
    (hk : mapEntryK P t un m x h K = some r) : Out B X K r ((Instr.mapEntry t mv xv).run P X.w) := by
  unfold mapEntryK at hk
  split at hk
  · rename_i kt vt n g a ht
    split at hk
    · rename_i k v es hn
      split at hk
      · rename_i a' ha
        obtain ⟨e, rfl⟩ := castD_some ha
        cases e
        obtain ⟨hc, hk⟩ := bif_some hk
        simp only [Bool.and_eq_true] at hc
        obtain ⟨_, he, hz⟩ := hc
        obtain ⟨rr, ents, clock, o1, o2, o3, o4, o5⟩ := ents_of (H.obj n _ hn)
        obtain ⟨xv', q1, q2, _⟩ := hm
        rw [o1] at q1
        cases q1
        cases q2
        obtain ⟨cx, hx', e⟩ := hx
        cases e
        have hrefl := eqv_refl 40 kt g he a
        have c1 := chkTy (P := P) false 40 kt g he 10000 (by omega) a cx hx' X.w
        have c2 := findKey_any (P := P) he hx' X.w es ents.toList o3
        have hlt : rr < X.w.heap.size := (Array.getElem?_eq_some_iff.1 o2).1
        have hg : (getObj rr).run P X.w = .ok (.map ents clock) X.w := by simp [getObj, Sem.run, o2]
        have hs : ∀ o, (setObj rr o).run P X.w = .ok () { X.w with heap := X.w.heap.setIfInBounds rr o } := fun o => by simp [setObj, Sem.run, o2]
        have hnl : n < h.length := by rw [nth_eq] at hn; exact (List.getElem?_eq_some_iff.1 hn).1
        have hes : ents.size = es.length := by have := o3.1; simpa using this
        have fin : ∀ (es2 : List (g.ty × v.ty)) (ents2 : Array MapEntry) (clock2 : Nat) (val : v.ty) (cv : List Value) (me : MapEntry) (p : Nat) (z : v.ty),
            (Instr.mapEntry t (.map (some rr)) (mkV g.isAgg cx)).run P X.w = .ok (.tuple #[mkV v.isAgg cv, goInt me.born]) { X.w with heap := X.w.heap.setIfInBounds rr (.map ents2 clock2) } → RepD X.Ok X.w.heap v val cv →
            (∀ Y : HS, Ext X Y → Y.ρ[h.length]? = some (goInt me.born) → Y.w = { X.w with heap := X.w.heap.setIfInBounds rr (.map ents2 clock2) } → Y.ρ[n]? = some (.map (some rr)) → RepO Y n (.mapS g v es2 a h.length)) →
            K (.tup (.scons (.dat v val) (.scons (.own h.length) .snil))) (setN h n (.mapS g v es2 a h.length) ++ [.dead]) = some r →
            Out B X K r ((Instr.mapEntry t (.map (some rr)) (mkV g.isAgg cx)).run P X.w) := by
          intro es2 ents2 clock2 val cv me p z hrun hcv hrep hk
          obtain ⟨H1, E1⟩ := H.dead (goInt me.born)
          have hn1 : nth (h ++ [.dead]) n = some (.map g v es) := by rw [nth_eq, List.getElem?_append_left hnl, ← nth_eq]; exact hn
          have hρn : (X.ρ ++ [goInt me.born])[h.length]? = some (goInt me.born) := new_rep H.len _
          obtain ⟨H2, E2⟩ := H1.write (w' := { X.w with heap := X.w.heap.setIfInBounds rr (.map ents2 clock2) }) (o' := .mapS g v es2 a h.length) hn1 rfl (b := rr) (by
              have := E1.ρ _ _ o1
              simp [blkOf, this, Value.blk]) rfl rfl rfl (by simp) (fun q hq => by simp [Array.getElem?_setIfInBounds, Ne.symm hq])
            (fun E => hrep _ (E1.trans E) hρn rfl (E1.ρ _ _ o1))
          refine ⟨_, _, .tup (.scons (.dat v val) (.scons (.own h.length) .snil)), _, hrun, E1.trans E2, H2, ⟨[mkV v.isAgg cv, goInt me.born], ⟨_, _, rfl, ⟨cv, RepD_mono (E1.trans E2).ok (E1.trans E2).st _ _ _ hcv, rfl⟩, _, _, rfl, ⟨_, hρn, rfl, rfl⟩, rfl⟩, rfl⟩, ?_⟩
          have e : setN (h ++ [.dead]) n (.mapS g v es2 a h.length) = setN h n (.mapS g v es2 a h.length) ++ [.dead] := by
            rw [setN_eq, setN_eq, List.set_append, if_pos hnl]
          rw [e]
          exact hk
        rcases findAt (v := v) he hx' X.w es ents.toList 0 o3 with ⟨f1, f2, f3⟩ | ⟨p, e, me, f1, f2, f3, f4, f5, f6⟩
        · rw [f3] at c2
          rw [f2, Option.getD_none, f1] at hk
          have hrun : (Instr.mapEntry t (.map (some rr)) (mkV g.isAgg cx)).run P X.w = .ok (.tuple #[mkV v.isAgg (cellsZ v), goInt clock]) { X.w with heap := X.w.heap.setIfInBounds rr (.map (ents.push { key := mkV g.isAgg cx, val := mkV v.isAgg (cellsZ v), born := clock }) (clock + 1)) } := by
            simp [Instr.mapEntry, run_underlying ht, hg, hs, c1, c2, zeroV_spec hz]
          refine fin _ _ _ _ _ { key := mkV g.isAgg cx, val := mkV v.isAgg (cellsZ v), born := clock } 0 v.dflt hrun (cellsZ_rep v) (fun Y E hρ hw hρn => ?_) hk
          refine ⟨rr, ents.push { key := mkV g.isAgg cx, val := mkV v.isAgg (cellsZ v), born := clock }, clock + 1, hρn, by rw [hw]; simp [hlt], by simp [hes], fun i e hi => ?_, ⟨fun i me hme => ?_, fun i j me mf h1 h2 hb => ?_⟩, ents.size, { key := mkV g.isAgg cx, val := mkV v.isAgg (cellsZ v), born := clock }, v.dflt, by simp, by rw [hes]; simp, hρ, fun y => by
            rw [putM_ne f1 hrefl, hes]
            simp⟩
          · rw [List.getElem?_append] at hi
            split at hi
            · obtain ⟨me, ck, cv, k1, k2, k3, k4, k5⟩ := o3.2 i e hi
              refine ⟨me, ck, cv, ?_, RepD_mono E.ok E.st _ _ _ k2, k3, RepD_mono E.ok E.st _ _ _ k4, k5⟩
              rw [Array.getElem?_push, if_neg (by omega)]
              simpa using k1
            · have : i = es.length := by
                have := (List.getElem?_eq_some_iff.1 hi).1
                simp at this
                omega
              subst this
              simp only [Nat.sub_self, List.getElem?_cons_zero, Option.some.injEq] at hi
              subst hi
              exact ⟨_, cx, cellsZ v, by rw [Array.getElem?_push, if_pos hes.symm], RepD_mono E.ok E.st _ _ _ hx', rfl, cellsZ_rep v, rfl⟩
          · rw [Array.getElem?_push] at hme
            split at hme
            · cases hme; exact Nat.lt_succ_self _
            · exact Nat.lt_succ_of_lt (o4 i me hme)
          · rw [Array.getElem?_push] at h1 h2
            split at h1 <;> split at h2
            · omega
            · cases h1; have := o4 j mf h2; simp only at hb; omega
            · cases h2; have := o4 i me h1; simp only at hb; omega
            · exact o5 i j me mf h1 h2 hb
        · rw [f6, Nat.zero_add] at c2
          rw [f5, Option.getD_some, f4] at hk
          obtain ⟨me', ck, cv, k1, k2, k3, k4, k5⟩ := o3.2 p e f1
          rw [f2] at k1
          cases k1
          have k1' : ents[p]? = some me := by simpa using f2
          have c4 := keyStays (P := P) f3 hx' k2 X.w
          have hrun : (Instr.mapEntry t (.map (some rr)) (mkV g.isAgg cx)).run P X.w = .ok (.tuple #[mkV v.isAgg cv, goInt me.born]) { X.w with heap := X.w.heap.setIfInBounds rr (.map (ents.modify p fun e => { e with key := mkV g.isAgg cx }) clock) } := by
            simp [Instr.mapEntry, run_underlying ht, hg, hs, c1, c2, k1', k3, c4, k5]
          have hat : ∀ (i : Nat) me2, (ents.modify p fun e => { e with key := mkV g.isAgg cx })[i]? = some me2 → ∃ m0, ents[i]? = some m0 ∧ me2.born = m0.born := by
            intro i me2 h
            rw [Array.getElem?_modify] at h
            split at h
            · obtain ⟨m0, h0, rfl⟩ := Option.map_eq_some_iff.1 h
              exact ⟨m0, h0, rfl⟩
            · exact ⟨me2, h, rfl⟩
          have hpl : p < es.length := (List.getElem?_eq_some_iff.1 f1).1
          refine fin _ _ _ _ _ me p e.2 hrun k4 (fun Y E hρ hw hρn => ?_) hk
          refine ⟨rr, ents.modify p fun e => { e with key := mkV g.isAgg cx }, clock, hρn, by rw [hw]; simp [hlt], by simp [hes], fun i e' hi => ?_, ⟨fun i me hme => ?_, fun i j me mf h1 h2 hb => ?_⟩, p, { me with key := mkV g.isAgg cx }, e.2, by rw [Array.getElem?_modify, if_pos rfl, k1']; rfl, by simp [hpl], hρ, fun y => by
            rw [putM_set f4 hrefl]
            simp⟩
          · rw [List.getElem?_set] at hi
            rw [Array.getElem?_modify]
            split at hi
            · rename_i hpi
              subst hpi
              cases hi
              exact ⟨{ me with key := mkV g.isAgg cx }, cx, cv, by rw [if_pos rfl, k1']; rfl, RepD_mono E.ok E.st _ _ _ hx', rfl, RepD_mono E.ok E.st _ _ _ k4, k5⟩
            · rename_i hpi
              obtain ⟨me, ck, cv, k1, k2, k3, k4, k5⟩ := o3.2 i e' hi
              exact ⟨me, ck, cv, by rw [if_neg hpi]; simpa using k1, RepD_mono E.ok E.st _ _ _ k2, k3, RepD_mono E.ok E.st _ _ _ k4, k5⟩
          · obtain ⟨m0, h0, e0⟩ := hat i me hme
            rw [e0]
            exact o4 i m0 h0
          · obtain ⟨m1, g1, e1⟩ := hat i me h1
            obtain ⟨m2, g2, e2⟩ := hat j mf h2
            exact o5 i j m1 m2 g1 g2 (by rw [← e1, ← e2]; exact hb)
      · cases hk
    · cases hk
  · cases hk

theorem findIdx_born {ents : Array MapEntry} {p : Nat} {me : MapEntry} (hp : ents[p]? = some me) (hd : ∀ (i j : Nat) me mf, ents[i]? = some me → ents[j]? = some mf → me.born = mf.born → i = j) :
    ents.findIdx? (fun e => (e.born : Int) == (me.born : Int)) = some p := by
  rw [Array.findIdx?_eq_some_iff_getElem]
  obtain ⟨hl, hv⟩ := Array.getElem?_eq_some_iff.1 hp
  refine ⟨hl, by rw [hv]; simp, fun j hj => ?_⟩
  have hjl : j < ents.size := by omega
  simp only [Bool.not_eq_true', beq_eq_false_iff_ne, ne_eq]
  intro e
  have e2 : ((ents[j].born : Int)) = (me.born : Int) := by simpa using e
  have := hd j p _ me (Array.getElem?_eq_getElem hjl) hp (Int.ofNat.inj e2)
  omega

theorem entryStoreK_sound {R : Type} {P : Program} {t : TypeId} {B : Base} {X : HS} {h : List SO} {m s y : SV} {mv sv yv : Value} {K : Kont R} {r : R} (H : HRep B X h) (hm : Rep X m .val [mv]) (hsv : Rep X s .val [sv]) (hy : Rep X y .val [yv])
    (hk : entryStoreK P t m s y h K = some r) : OutU B X K r ((Instr.entryStore t mv sv yv).run P X.w) := by
  unfold entryStoreK at hk
  split at hk
  · rename_i kt vt n q g b ht
    split at hk
    · rename_i k v es a q' hn
      split at hk
      · rename_i b' hb
        obtain ⟨e, rfl⟩ := castD_some hb
        cases e
        obtain ⟨hq0, hk2⟩ := bif_some hk
        obtain rfl := Nat.eq_of_beq_eq_true hq0
        obtain ⟨rr, ents, clock, o1, o2, o3, o4, ⟨o5, o6⟩, p, me, z, o7, o8, o9, o10⟩ := H.obj n _ hn
        obtain ⟨mv', q1, q2, _⟩ := hm
        rw [o1] at q1
        cases q1
        cases q2
        obtain ⟨sv', q3, q4, _⟩ := hsv
        rw [o9] at q3
        cases q3
        cases q4
        obtain ⟨cy, hy', e⟩ := hy
        cases e
        rw [o10] at hk2
        have hlt : rr < X.w.heap.size := (Array.getElem?_eq_some_iff.1 o2).1
        have hg : (getObj rr).run P X.w = .ok (.map ents clock) X.w := by simp [getObj, Sem.run, o2]
        have hs : ∀ o, (setObj rr o).run P X.w = .ok () { X.w with heap := X.w.heap.setIfInBounds rr o } := fun o => by simp [setObj, Sem.run, o2]
        have hf := findIdx_born o7 o6
        have hrun : (Instr.entryStore t (.map (some rr)) (goInt me.born) (mkV g.isAgg cy)).run P X.w = .ok () { X.w with heap := X.w.heap.setIfInBounds rr (.map (ents.modify p fun e => { e with val := mkV g.isAgg cy }) clock) } := by
          simp [Instr.entryStore, hg, asInt, asIntOf, goInt, hf, hs]
        have hat : ∀ (i : Nat) me2, (ents.modify p fun e => { e with val := mkV g.isAgg cy })[i]? = some me2 → ∃ m0, ents[i]? = some m0 ∧ me2.born = m0.born := by
          intro i me2 h
          rw [Array.getElem?_modify] at h
          split at h
          · obtain ⟨m0, h0, rfl⟩ := Option.map_eq_some_iff.1 h
            exact ⟨m0, h0, rfl⟩
          · exact ⟨me2, h, rfl⟩
        obtain ⟨H', E'⟩ := H.write (w' := { X.w with heap := X.w.heap.setIfInBounds rr (.map (ents.modify p fun e => { e with val := mkV g.isAgg cy }) clock) }) (o' := .map k g (es.set p (a, b))) hn rfl (b := rr) (by simp [blkOf, o1, Value.blk]) rfl rfl rfl (by simp) (fun q hq => by simp [Array.getElem?_setIfInBounds, Ne.symm hq])
          (fun E => ⟨rr, ents.modify p fun e => { e with val := mkV g.isAgg cy }, clock, o1, by simp [hlt], by simp [o3], fun i e' hi => by
            rw [List.getElem?_set] at hi
            rw [Array.getElem?_modify]
            split at hi
            · rename_i hpi
              subst hpi
              split at hi
              · cases hi
                obtain ⟨me2, ck, cv, k1, k2, k3, k4, k5⟩ := o4 p _ o8
                rw [o7] at k1
                cases k1
                exact ⟨{ me with val := mkV g.isAgg cy }, ck, cy, by rw [if_pos rfl, o7]; rfl, RepD_mono E.ok E.st _ _ _ k2, k3, RepD_mono E.ok E.st _ _ _ hy', rfl⟩
              · cases hi
            · rename_i hpi
              obtain ⟨me, ck, cv, k1, k2, k3, k4, k5⟩ := o4 i e' hi
              exact ⟨me, ck, cv, by rw [if_neg hpi]; simpa using k1, RepD_mono E.ok E.st _ _ _ k2, k3, RepD_mono E.ok E.st _ _ _ k4, k5⟩, fun i me hme => by
            obtain ⟨m0, h0, e0⟩ := hat i me hme
            rw [e0]
            exact o5 i m0 h0, fun i j me mf h1 h2 hb => by
            obtain ⟨m1, g1, e1⟩ := hat i me h1
            obtain ⟨m2, g2, e2⟩ := hat j mf h2
            exact o6 i j m1 m2 g1 g2 (by rw [← e1, ← e2]; exact hb)⟩)
        exact ⟨_, _, hrun, E', H', hk2⟩
      · cases hk
    · cases hk
  · cases hk

/-- Looking for a key, by its place. -/
theorem findPos {P : Program} {Ok : Nat → Prop} {hp : Array Obj} {kt : TypeId} {k v : GT} (he : eqTy P 40 kt k = true) {x : k.ty} {cx : List Value} (hx : RepD Ok hp k x cx) (w : World) :
    ∀ (es : List (k.ty × v.ty)) (l : List MapEntry) (i : Nat), Ents Ok hp k v es l →
      (posM k v x es = es.length ∧ (Instr.findAsking kt (mkV k.isAgg cx) l i).run P w = .ok none w) ∨
      ∃ u, (Instr.findAsking kt (mkV k.isAgg cx) l i).run P w = .ok (some (i + posM k v x es, u)) w
  | [], l, i, h => by
    have : l = [] := List.eq_nil_of_length_eq_zero h.1
    subst this
    exact .inl ⟨rfl, by simp [Instr.findAsking]⟩
  | e :: es, [], i, h => by have := h.1; simp at this
  | e :: es, me :: l, i, h => by
    obtain ⟨me', ck, cv, h1, h2, h3, h4, h5⟩ := h.2 0 e rfl
    cases h1
    have key := eqTy_sound (P := P) (Ok := Ok) (hp := hp) 40 kt k he 10000 (by omega) x e.1 cx ck hx h2 w
    have hrest : Ents Ok hp k v es l := ⟨by have := h.1; simpa using this, fun j e' hj => by
      have := h.2 (j + 1) e' (by simpa using hj)
      simpa using this⟩
    simp only [posM]
    cases hq : k.eqv x e.1 with
    | true =>
      rw [hq] at key
      refine .inr ⟨me.val, ?_⟩
      simp only [Instr.findAsking, h3, Sem.run_bind, Op.equal, Op.maxDepth, key, Result.andThen_ok, if_true, Sem.run_pure, Nat.add_zero, cond_true]
    | false =>
      rw [hq] at key
      rcases findPos he hx w es l (i + 1) hrest with ⟨p1, p2⟩ | ⟨u, p1⟩
      · refine .inl ⟨by rw [cond_false, p1]; rfl, ?_⟩
        simp only [Instr.findAsking, h3, Sem.run_bind, Op.equal, Op.maxDepth, key, Result.andThen_ok, Bool.false_eq_true, if_false]
        exact p2
      · refine .inr ⟨u, ?_⟩
        simp only [Instr.findAsking, h3, Sem.run_bind, Op.equal, Op.maxDepth, key, Result.andThen_ok, Bool.false_eq_true, if_false, cond_false]
        rw [p1, show i + 1 + posM k v x es = i + (posM k v x es + 1) by omega]

theorem map_eraseIdx {α β : Type} (f : α → β) : ∀ (l : List α) (i : Nat), (l.eraseIdx i).map f = (l.map f).eraseIdx i
  | [], _ => rfl
  | _ :: _, 0 => rfl
  | a :: l, i + 1 => by simp [map_eraseIdx f l i]

theorem deleteK_sound {R : Type} {P : Program} {ts : List TypeId} {un : Bool} {ty : TypeId} {B : Base} {X : HS} {h : List SO} {m x : SV} {mv xv : Value} {K : Kont R} {r : R} (H : HRep B X h) (hm : Rep X m .val [mv]) (hx : Rep X x .val [xv])
    (hk : deleteK P ts un m x h K = some r) : Out B X K r ((Builtin.delete_ ts.toArray ty #[mv, xv]).run P X.w) := by
  unfold deleteK at hk
  split at hk
  · rename_i t t2
    split at hk
    · rename_i kt vt n g a ht
      split at hk
      · rename_i k v es bs c hn
        split at hk
        · rename_i a' ha
          obtain ⟨e, rfl⟩ := castD_some ha
          cases e
          obtain ⟨hc, hk⟩ := bif_some hk
          simp only [Bool.and_eq_true] at hc
          obtain ⟨_, he⟩ := hc
          obtain ⟨rr, ents, o1, o2, o3', o4', o5, o6, o7⟩ := H.obj n _ hn
          have o3 : Ents X.Ok X.w.heap g v es ents.toList := ⟨by simpa using o3', fun i e he => by
            obtain ⟨me, ck, cv, k1, k2⟩ := o4' i e he
            exact ⟨me, ck, cv, by simpa using k1, k2⟩⟩
          obtain ⟨xv', q1, q2, _⟩ := hm
          rw [o1] at q1
          cases q1
          cases q2
          obtain ⟨cx, hx', e⟩ := hx
          cases e
          have c1 := chkTy (P := P) ents.isEmpty 40 kt g he 10000 (by omega) a cx hx' X.w
          have c2 := findKey_any (P := P) he hx' X.w es ents.toList o3
          have hlt : rr < X.w.heap.size := (Array.getElem?_eq_some_iff.1 o2).1
          have hg : (getObj rr).run P X.w = .ok (.map ents c) X.w := by simp [getObj, Sem.run, o2]
          have hs : ∀ o, (setObj rr o).run P X.w = .ok () { X.w with heap := X.w.heap.setIfInBounds rr o } := fun o => by simp [setObj, Sem.run, o2]
          have hrun : (Builtin.delete_ #[t, t2] ty #[.map (some rr), mkV g.isAgg cx]).run P X.w = .ok (.tuple #[]) { X.w with heap := X.w.heap.setIfInBounds rr (.map (ents.eraseIdxIfInBounds (posM g v a es)) c) } := by
            rcases findPos (v := v) he hx' X.w es ents.toList 0 o3 with ⟨p1, p2⟩ | ⟨u, p1⟩
            · rw [p2] at c2
              have : ents.eraseIdxIfInBounds (posM g v a es) = ents := by
                rw [p1, ← o3']
                simp [Array.eraseIdxIfInBounds]
              rw [this]
              simp [Builtin.delete_, run_underlying ht, hg, hs, c1, c2]
            · rw [p1, Nat.zero_add] at c2
              simp [Builtin.delete_, run_underlying ht, hg, hs, c1, c2]
          have htl : (ents.eraseIdxIfInBounds (posM g v a es)).toList = ents.toList.eraseIdx (posM g v a es) := by
            unfold Array.eraseIdxIfInBounds
            split
            · simp
            · rename_i hge
              rw [List.eraseIdx_of_length_le (by simp; omega)]
          obtain ⟨H', E'⟩ := H.write (w' := { X.w with heap := X.w.heap.setIfInBounds rr (.map (ents.eraseIdxIfInBounds (posM g v a es)) c) }) (o' := .mapB g v (es.eraseIdx (posM g v a es)) (bs.eraseIdx (posM g v a es)) c) hn rfl (b := rr) (by simp [blkOf, o1, Value.blk]) rfl rfl rfl (by simp) (fun q hq => by simp [Array.getElem?_setIfInBounds, Ne.symm hq])
            (fun E => ⟨rr, ents.eraseIdxIfInBounds (posM g v a es), o1, by simp [hlt], by
              rw [← Array.length_toList, htl, List.length_eraseIdx, List.length_eraseIdx, Array.length_toList, o3'], fun i e hi => by
              rw [← Array.getElem?_toList, htl]
              rw [List.getElem?_eraseIdx] at hi ⊢
              split at hi
              · rename_i hlt2
                obtain ⟨me, ck, cv, k1, k2, k3, k4, k5⟩ := o3.2 i e hi
                exact ⟨me, ck, cv, by rw [if_pos hlt2]; exact k1, RepD_mono E.ok E.st _ _ _ k2, k3, RepD_mono E.ok E.st _ _ _ k4, k5⟩
              · rename_i hlt2
                obtain ⟨me, ck, cv, k1, k2, k3, k4, k5⟩ := o3.2 (i + 1) e hi
                exact ⟨me, ck, cv, by rw [if_neg hlt2]; exact k1, RepD_mono E.ok E.st _ _ _ k2, k3, RepD_mono E.ok E.st _ _ _ k4, k5⟩, by
              rw [htl, ← o5, map_eraseIdx], fun b hb => o6 b (List.mem_of_mem_eraseIdx hb), o7.eraseIdx _⟩)
          exact ⟨_, _, unitV, _, hrun, E', H', ⟨[], rfl, rfl⟩, hk⟩
        · cases hk
      · cases hk
    · cases hk
  · cases hk

end Go.Eng
