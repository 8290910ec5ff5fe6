/- The engine, part 8: equality of plain data; slices of slices; conversions; zero values; new variables. -/
import Derived.Test.YtondjihmmjjinaaE7
namespace Go.Eng
open Go
set_option linter.unusedVariables false
set_option linter.unusedSimpArgs false

theorem part_run {P : Program} {t : TypeId} {ag : Bool} {c : List Value} (h : tyShape P t = some (ag, c.length)) (h1 : ag = false → c.length = 1) (pre post : List Value) (w : World) :
    (part t (pre ++ (c ++ post)).toArray pre.length).run P w = .ok (mkV ag c) w := by
  cases ag with
  | true =>
    have e : (pre ++ (c ++ post)).toArray.extract pre.length (pre.length + c.length) = c.toArray := by
      simp [List.extract_toArray, List.extract]
    simp only [part, Sem.run_bind, run_isAgg h, Result.andThen_ok, if_true, run_sizeOf h, Sem.run_pure, e, mkV]
  | false =>
    have hl := h1 rfl
    match c, hl with
    | [v], _ => simp [part, run_isAgg h, mkV]

theorem agg_false_size (g : GT) (h : g.isAgg = false) : g.size = 1 := by cases g <;> simp_all [GT.isAgg, GT.size]

mutual
theorem eqTy_sound {P : Program} {Ok : Nat → Prop} {hp : Array Obj} : ∀ (n : Nat) (t : TypeId) (g : GT), eqTy P n t g = true → ∀ d, n ≤ d → ∀ (x y : g.ty) (cx cy : List Value),
    RepD Ok hp g x cx → RepD Ok hp g y cy → ∀ w, (Op.equalIn d t (mkV g.isAgg cx) (mkV g.isAgg cy)).run P w = .ok (g.eqv x y) w
  | 0, t, g, h => by simp [eqTy] at h
  | n + 1, t, g, h => by
    intro d hd x y cx cy hx hy w
    obtain ⟨d, rfl⟩ : ∃ e, d = e + 1 := ⟨d - 1, by omega⟩
    simp only [eqTy] at h
    split at h
    · rename_i ht
      simp only [RepD] at hx hy
      subst hx; subst hy
      simp [GT.isAgg, mkV, run_equalIn_bool' w d t _ _ ht, GT.eqv]
    · rename_i k k' ht
      simp only [RepD] at hx hy
      subst hx; subst hy
      simp [GT.isAgg, mkV, run_equalIn_int w d t _ _ _ _ ht, GT.eqv]
    · rename_i ht
      simp only [RepD] at hx hy
      subst hx; subst hy
      simp [GT.isAgg, mkV, run_equalIn_string w d t _ _ ht, GT.eqv]
    · rename_i fs ht
      simp only [Bool.and_eq_true, Bool.not_eq_true'] at h
      obtain ⟨⟨h1, h2⟩, h3⟩ := h
      have hf : P.fieldsOf t = fs := by simp [Program.fieldsOf, ht]
      rw [h2]
      simp only [mkV]
      rw [run_equalIn_struct w d t _ _ (by rw [hf]; exact ht) h1, hf]
      have := eqFields_sound n fs.toList 0 _ h3 d (by omega) x y cx cy hx hy [] [] rfl rfl w
      simpa using this
    · cases h
theorem eqFields_sound {P : Program} {Ok : Nat → Prop} {hp : Array Obj} : ∀ (n : Nat) (fs : List Field) (off : Nat) (g : GT), eqFieldsB P n fs off g = true → ∀ d, n ≤ d → ∀ (x y : g.ty) (cx cy : List Value),
    RepD Ok hp g x cx → RepD Ok hp g y cy → ∀ (px py : List Value), px.length = off → py.length = off → ∀ w, (Op.eqFields d (px ++ cx).toArray (py ++ cy).toArray fs).run P w = .ok (g.eqv x y) w
  | 0, fs, off, g, h => by simp [eqFieldsB] at h
  | n + 1, [], off, g, h => by
    intro d hd x y cx cy hx hy px py hpx hpy w
    cases g <;> simp only [eqFieldsB] at h <;> try (cases h; done)
    simp [Op.eqFields, GT.eqv]
  | n + 1, f :: l, off, g, h => by
    intro d hd x y cx cy hx hy px py hpx hpy w
    cases g <;> simp only [eqFieldsB] at h <;> try (cases h; done)
    rename_i a b
    simp only [Bool.and_eq_true, decide_eq_true_eq, Nat.beq_eq] at h
    obtain ⟨⟨⟨⟨h1, h2⟩, h3⟩, h4⟩, h5⟩ := h
    obtain ⟨c1, c2, rfl, q1, q2⟩ := hx
    obtain ⟨e1, e2, rfl, r1, r2⟩ := hy
    have hl1 := RepD_len a _ _ q1
    have hl2 := RepD_len a _ _ r1
    split at h4
    · rename_i ag s hs
      simp only [Bool.and_eq_true, beq_iff_eq, Nat.beq_eq] at h4
      obtain ⟨rfl, rfl⟩ := h4
      have p1 := part_run (c := c1) (by rw [hl1]; exact hs) (fun e => by rw [hl1]; exact agg_false_size a e) px c2 w
      have p2 := part_run (c := e1) (by rw [hl2]; exact hs) (fun e => by rw [hl2]; exact agg_false_size a e) py e2 w
      have p3 := eqTy_sound n f.type a h3 d (by omega) x.1 y.1 c1 e1 q1 r1 w
      rw [hpx] at p1
      rw [hpy] at p2
      simp only [Op.eqFields, if_pos h1, h2, Sem.run_bind, p1, Result.andThen_ok, p2, p3]
      cases hq : a.eqv x.1 y.1 with
      | false => simp [GT.eqv, hq]
      | true =>
        simp only [Bool.not_true, Bool.false_eq_true, if_false, GT.eqv, hq, Bool.true_and]
        have ih := eqFields_sound n l (off + a.size) b h5 d (by omega) x.2 y.2 c2 e2 q2 r2 (px ++ c1) (py ++ e1) (by simp [hpx, hl1]) (by simp [hpy, hl2]) w
        simpa [List.append_assoc] using ih
    · cases h4
end

theorem binEq {P : Program} {X : HS} {t : TypeId} {g : GT} {x y : g.ty} {xv yv : Value} {p q : Operand} (he : eqTy P 40 t g = true) (hg : P.eqGuardType P.depth t = false) (hx : Rep X (.dat g x) .val [xv]) (hy : Rep X (.dat g y) .val [yv]) :
    (((do eqGuard .eql t p q xv yv; binOp .eql t xv yv) : Sem Value).run P X.w = .ok (.bool (g.eqv x y)) X.w) ∧
    (((do eqGuard .neq t p q xv yv; binOp .neq t xv yv) : Sem Value).run P X.w = .ok (.bool (!(g.eqv x y))) X.w) := by
  obtain ⟨cx, hx, e⟩ := hx
  cases e
  obtain ⟨cy, hy, e⟩ := hy
  cases e
  have key := eqTy_sound (P := P) (Ok := X.Ok) (hp := X.w.heap) 40 t g he 10000 (by omega) x y cx cy hx hy X.w
  cases g with
  | int k =>
    simp only [RepD] at hx hy
    subst hx; subst hy
    simp [GT.isAgg, mkV, eqGuard, binOp, Op.intCmp, GT.eqv, bne]
  | bool =>
    simp only [RepD] at hx hy
    subst hx; subst hy
    simp only [GT.isAgg, mkV, List.headD_cons] at key
    simp [GT.isAgg, mkV, eqGuard, binOp, Op.equal, Op.maxDepth, key]
  | str =>
    simp only [RepD] at hx hy
    subst hx; subst hy
    simp [GT.isAgg, mkV, eqGuard, binOp, Op.stringOp, GT.eqv]
  | nil =>
    simp only [GT.isAgg, mkV] at key ⊢
    simp [run_eqGuard_agg _ _ _ _ _ _ _ hg, run_eql_struct, run_neq_struct, key]
  | cons a b =>
    simp only [GT.isAgg, mkV] at key ⊢
    simp [run_eqGuard_agg _ _ _ _ _ _ _ hg, run_eql_struct, run_neq_struct, key]
  | sl t => simp [eqTy, GT.isAgg] at he; split at he <;> simp_all
  | opq => simp [eqTy, GT.isAgg] at he; split at he <;> simp_all

theorem ptr_nil {P : Program} {t e : TypeId} (ht : P.underlying t = some (.pointer e)) (p q : Operand) (a : Option Addr) (w : World) :
    (((do eqGuard .eql t p q (.pointer a) (.pointer none); binOp .eql t (.pointer a) (.pointer none)) : Sem Value).run P w = .ok (.bool a.isNone) w) ∧
    (((do eqGuard .neq t p q (.pointer a) (.pointer none); binOp .neq t (.pointer a) (.pointer none)) : Sem Value).run P w = .ok (.bool (!a.isNone)) w) := by
  have key : (Op.equal t (.pointer a) (.pointer none)).run P w = .ok a.isNone w := by
    show (Op.equalIn (9999 + 1) t (.pointer a) (.pointer none)).run P w = _
    unfold Op.equalIn
    simp only [Sem.run_bind, run_underlying ht, Result.andThen_ok]
    cases a <;> rfl
  have e1 : binOp .eql t (.pointer a) (.pointer none) = (do pure (.bool (← Op.equal t (.pointer a) (.pointer none)))) := rfl
  have e2 : binOp .neq t (.pointer a) (.pointer none) = (do pure (.bool (!(← Op.equal t (.pointer a) (.pointer none))))) := rfl
  have e3 : ∀ op, (eqGuard op t p q (.pointer a) (.pointer none)).run P w = .ok () w := by
    intro op; cases op <;> rfl
  rw [e1, e2]
  simp only [Sem.run_bind, e3, key, Result.andThen_ok, Sem.run_pure, and_self]

theorem sl_nil {P : Program} {t e : TypeId} (ht : P.underlying t = some (.slice e)) (p q : Operand) (base : Option Addr) (len cap : Nat) (w : World) :
    (((do eqGuard .eql t p q (.slice base len cap) (.slice none 0 0); binOp .eql t (.slice base len cap) (.slice none 0 0)) : Sem Value).run P w = .ok (.bool base.isNone) w) ∧
    (((do eqGuard .neq t p q (.slice base len cap) (.slice none 0 0); binOp .neq t (.slice base len cap) (.slice none 0 0)) : Sem Value).run P w = .ok (.bool (!base.isNone)) w) := by
  have key : (Op.equal t (.slice base len cap) (.slice none 0 0)).run P w = .ok base.isNone w := by
    show (Op.equalIn (9999 + 1) t (.slice base len cap) (.slice none 0 0)).run P w = _
    unfold Op.equalIn
    simp only [Sem.run_bind, run_underlying ht, Result.andThen_ok]
    cases base <;> rfl
  have e1 : binOp .eql t (.slice base len cap) (.slice none 0 0) = (do pure (.bool (← Op.equal t (.slice base len cap) (.slice none 0 0)))) := rfl
  have e2 : binOp .neq t (.slice base len cap) (.slice none 0 0) = (do pure (.bool (!(← Op.equal t (.slice base len cap) (.slice none 0 0))))) := rfl
  have e3 : ∀ op, (eqGuard op t p q (.slice base len cap) (.slice none 0 0)).run P w = .ok () w := by
    intro op; cases op <;> rfl
  rw [e1, e2]
  simp only [Sem.run_bind, e3, key, Result.andThen_ok, Sem.run_pure, and_self]

theorem nsl_nil {X : HS} {g : GT} {xs : List g.ty} {val : Value} (h : Rep X (.nsl g xs) .val [val]) : ∃ base len cap, val = .slice base len cap ∧ base.isNone = xs.isEmpty := by
  obtain ⟨⟨base, cap, e, h1, h2, h3⟩, h4⟩ := h
  cases e
  refine ⟨_, _, _, rfl, ?_⟩
  cases xs with
  | nil =>
    have := h4 rfl
    cases this
    rfl
  | cons x xs =>
    cases base with
    | none => cases h3
    | some b => rfl

theorem binK_sound {R : Type} {P : Program} {op : BinOp} {t : TypeId} {p q : Operand} {B : Base} {X : HS} {h : List SO} {x y : SV} {xv yv : Value} {K : Kont R} {r : R} (H : HRep B X h) (hx : Rep X x .val [xv]) (hy : Rep X y .val [yv])
    (hk : binK P op t true x y h K = some r) : Out B X K r (((do eqGuard op t p q xv yv; binOp op t xv yv) : Sem Value).run P X.w) := by
  unfold binK at hk
  split at hk
  · rename_i k a k' b
    obtain ⟨hkk, hk⟩ := bif_some hk
    have e : k = k' := by simpa using hkk
    subst e
    rw [rep_int hx, rep_int hy]
    exact arithK_sound H hk
  · rw [rep_str hx, rep_str hy]
    exact strK_sound H hk
  · rename_i g a g' b _ _
    split at hk
    · rename_i b' hc
      obtain ⟨e, rfl⟩ := castD_some hc
      cases e
      split at hk
      · obtain ⟨hc2, hk⟩ := bif_some hk
        simp only [Bool.and_eq_true, Bool.not_eq_true'] at hc2
        exact Out.here H (binEq hc2.1 hc2.2 hx hy).1 bool_rep hk
      · obtain ⟨hc2, hk⟩ := bif_some hk
        simp only [Bool.and_eq_true, Bool.not_eq_true'] at hc2
        exact Out.here H (binEq hc2.1 hc2.2 hx hy).2 bool_rep hk
      · cases hk
    · cases hk
  · simp only [Rep, List.cons.injEq, and_true] at hy
    subst hy
    obtain ⟨base, len, cap, rfl, hb⟩ := nsl_nil hx
    split at hk
    · rename_i e ht
      rw [← hb] at hk
      exact Out.here H (sl_nil ht p q _ _ _ _).1 bool_rep hk
    · rename_i e ht
      rw [← hb] at hk
      exact Out.here H (sl_nil ht p q _ _ _ _).2 bool_rep hk
    · cases hk
  · simp only [Rep, List.cons.injEq, and_true] at hy
    subst hy
    split at hk
    · rename_i e ht
      split at hk
      · simp only [Rep, List.cons.injEq, and_true] at hx
        subst hx
        exact Out.here H (ptr_nil ht p q _ _).1 bool_rep hk
      · obtain ⟨b, _, e⟩ := hx
        cases e
        exact Out.here H (ptr_nil ht p q _ _).1 bool_rep hk
      · cases hk
    · rename_i e ht
      split at hk
      · simp only [Rep, List.cons.injEq, and_true] at hx
        subst hx
        exact Out.here H (ptr_nil ht p q _ _).2 bool_rep hk
      · obtain ⟨b, _, e⟩ := hx
        cases e
        exact Out.here H (ptr_nil ht p q _ _).2 bool_rep hk
      · cases hk
    · cases hk
  · cases hk

end Go.Eng
