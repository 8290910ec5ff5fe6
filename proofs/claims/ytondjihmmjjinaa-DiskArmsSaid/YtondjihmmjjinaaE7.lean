/- The engine, part 7: places, fields, elements, arithmetic. -/
import Derived.Test.YtondjihmmjjinaaE6
namespace Go.Eng
open Go
set_option linter.unusedVariables false
set_option linter.unusedSimpArgs false

theorem nth_arr {α : Type} {a : Array α} {n : Nat} {x : α} (h : nth a.toList n = some x) : a[n]? = some x := by
  rw [nth_eq] at h
  simpa using h

theorem partsOf_agg {v l : SV} (h : v.partsOf = some l) : v.isAgg = true ∧ v.stor = true := by
  cases v <;> simp only [SV.partsOf] at h <;> try (cases h; done)
  case dat g x =>
    cases g <;> try (cases h; done)
    case nil => exact ⟨rfl, rfl⟩
    case cons a b =>
      cases hb : b.chain with
      | false => simp [hb] at h
      | true => exact ⟨rfl, by simp [SV.stor, GT.chain, hb]⟩
  case agg l' => exact ⟨rfl, rfl⟩

theorem fieldAddrK_sound {R : Type} {P : Program} {t : TypeId} {f : Nat} {B : Base} {X : HS} {h : List SO} {p : SV} {pv : Value} {K : Kont R} {r : R} (H : HRep B X h) (hp : Rep X p .val [pv])
    (hk : fieldAddrK P t p f h K = some r) : Out B X K r ((Instr.fieldAt t pv f).run P X.w) := by
  unfold fieldAddrK at hk
  split at hk
  · rename_i fs ht
    split at hk
    · rename_i fd hfd
      have hfd' := nth_arr hfd
      split at hk
      · rename_i ag s hs
        cases hz : Nat.beq s 0 with
        | true => rw [hz] at hk; cases hk
        | false =>
          rw [hz] at hk
          simp only [cond_false] at hk
          have hs0 : s ≠ 0 := by intro e; subst e; cases hz
          have run : ∀ a : Addr, a.spot = none → (Instr.fieldAt t (.pointer (some a)) f).run P X.w = .ok (.pointer (some ⟨a.block, a.off + fd.offset, none⟩)) X.w := by
            intro a ha
            simp [Instr.fieldAt, run_underlying ht, hfd', Instr.sureAddr, fieldPlace, run_sizeOf hs, hs0, add_none ha]
          split at hk
          · rename_i n path off
            obtain ⟨b, h1, h2⟩ := hp
            cases h2
            exact Out.here (v := .box n (path ++ [f]) (off + fd.offset)) H (run _ rfl) ⟨b, h1, rfl⟩ hk
          · rename_i n g i path off
            obtain ⟨b, o, len, cap, h1, h2⟩ := hp
            cases h2
            refine Out.here (v := .el n g i (path ++ [f]) (off + fd.offset)) H (run _ rfl) ⟨b, o, len, cap, h1, ?_⟩ hk
            simp [Nat.add_assoc]
          · split at hk
            · rename_i l hl
              split at hk
              · rename_i g' y hy
                obtain ⟨hc, hk⟩ := bif_some hk
                simp only [Bool.and_eq_true, Nat.beq_eq] at hc
                obtain ⟨a, cs, h1, h2, h3, h4, h5⟩ := hp
                cases h2
                obtain ⟨q1, q2⟩ := nthS_rep l f _ cs (partsOf_rep (X := X) (v := .dat _ _) h1 hl) hy
                refine Out.here (v := .rd g' y) H (run _ h3) ⟨_, _, q2, rfl, rfl, h4, ?_⟩ hk
                intro j w hj
                have := h5 _ _ (get_take_drop hj)
                rw [hc.1] at this
                rw [Nat.add_assoc]
                exact this
              · cases hk
            · cases hk
          · cases hk
      · cases hk
    · cases hk
  · cases hk

theorem fieldK_sound {R : Type} {P : Program} {t : TypeId} {f : Nat} {B : Base} {X : HS} {h : List SO} {v : SV} {vv : Value} {K : Kont R} {r : R} (H : HRep B X h) (hv : Rep X v .val [vv])
    (hk : fieldK P t v f h K = some r) : Out B X K r ((Instr.field t vv f).run P X.w) := by
  unfold fieldK at hk
  split at hk
  · rename_i fs ht
    split at hk
    · rename_i fd hfd
      have hfd' := nth_arr hfd
      split at hk
      · rename_i l hl
        split at hk
        · rename_i u hu
          obtain ⟨hc, hk⟩ := bif_some hk
          simp only [Bool.and_eq_true, Nat.beq_eq] at hc
          obtain ⟨ho, hf⟩ := hc
          obtain ⟨ha, hst⟩ := partsOf_agg hl
          obtain ⟨vv', e, hcell, hm⟩ := Rep_val_one v _ hst hv
          cases e
          rw [ha] at hm
          obtain ⟨q1, q2⟩ := nthS_rep l f u _ (partsOf_rep hcell hl) hu
          obtain ⟨f1, f2⟩ := fits_spec hf
          have hl2 := Rep_len u _ q2
          generalize vv.cells.toList = cs at *
          subst hm
          refine Out.here H ?_ (Rep_of_cells u _ f2 q2) hk
          rw [ho] at q1 q2 hl2 ⊢
          simp only [mkV] at *
          cases hua : u.isAgg with
          | true =>
            rw [hua] at f1
            have e : cs.toArray.extract fd.offset (fd.offset + u.size) = ((cs.drop fd.offset).take u.size).toArray := by
              simp [List.extract_toArray, List.extract]
            simp [Instr.field, run_underlying ht, hfd', asAgg, part, run_isAgg f1, run_sizeOf f1]
          | false =>
            rw [hua] at f1
            have h1 := stor_size u f2 hua
            rw [h1] at q1 ⊢
            have hlt : fd.offset < cs.length := by omega
            have e : (cs.drop fd.offset).take 1 = [cs[fd.offset]] := by
              rw [List.drop_eq_getElem_cons hlt, List.take_succ_cons, List.take_zero]
            rw [e]
            simp [Instr.field, run_underlying ht, hfd', asAgg, part, run_isAgg f1, hlt]
        · cases hk
      · cases hk
    · cases hk
  · cases hk

theorem elemOK_spec {P : Program} {e : TypeId} {g : GT} (h : elemOK P e g = true) : tyShape P e = some (g.isAgg, g.size) ∧ 0 < g.size := by
  unfold elemOK at h
  split at h
  · rename_i a s hs
    simp only [Bool.and_eq_true, beq_iff_eq, Nat.beq_eq, Nat.ble_eq] at h
    obtain ⟨⟨rfl, rfl⟩, h3⟩ := h
    exact ⟨hs, h3⟩
  · cases h

theorem idx_some {α : Type} {xs : List α} {i : Int} {x : α} (h : idx xs i = some x) : 0 ≤ i ∧ xs[i.toNat]? = some x ∧ i < xs.length := by
  unfold idx at h
  obtain ⟨h1, h2⟩ := bif_some h
  have h3 : 0 ≤ i := by simpa using h1
  refine ⟨h3, h2, ?_⟩
  have := (List.getElem?_eq_some_iff.1 h2).1
  omega

theorem sliceAddrK_sound {R : Type} {P : Program} {t : TypeId} {B : Base} {X : HS} {h : List SO} {x i : SV} {xv iv : Value} {K : Kont R} {r : R} (H : HRep B X h) (hx : Rep X x .val [xv]) (hi : Rep X i .val [iv])
    (hk : sliceAddrK P t true x i h K = some r) : Out B X K r ((Instr.indexAt t xv iv).run P X.w) := by
  unfold sliceAddrK at hk
  split at hk
  · rename_i e k i ht
    obtain ⟨cs, hc, hiv⟩ := hi
    simp only [RepD] at hc
    subst hc
    simp only [GT.isAgg, mkV, List.headD_cons, List.cons.injEq, and_true] at hiv
    subst hiv
    split at hk
    · rename_i g xs
      obtain ⟨he, hk⟩ := bif_some hk
      obtain ⟨e1, e2⟩ := elemOK_spec he
      simp only [idxG, cond_true] at hk
      obtain ⟨y, hy, hk⟩ := Option.bind_eq_some_iff.1 hk
      obtain ⟨i0, i1, i2⟩ := idx_some hy
      obtain ⟨cs, ⟨base, cap, rfl, hcap, hb0, hrow⟩, hxv⟩ := hx
      simp only [GT.isAgg, mkV, List.headD_cons, List.cons.injEq, and_true] at hxv
      subst hxv
      cases base with
      | none =>
        have : xs = [] := hrow
        subst this
        simp at i1
      | some a =>
        obtain ⟨cs, q1, q2, q3⟩ := hrow i.toNat y i1
        obtain ⟨q4, q5⟩ := q2 e2
        refine Out.here H (v := .rd g y) (val := .pointer (some ⟨a.block, a.off + i.toNat * g.size, none⟩)) ?_ ⟨_, cs, q1, rfl, rfl, q4, fun j v hj => q3 j v hj⟩ hk
        simp [Instr.indexAt, asIntOf, run_underlying ht, i0, i2, run_sizeOf e1, add_none q5]
    · rename_i n
      split at hk
      · rename_i g xs hn
        obtain ⟨he, hk⟩ := bif_some hk
        obtain ⟨e1, e2⟩ := elemOK_spec he
        obtain ⟨hc, hk⟩ := asrt_true hk
        simp only [Bool.and_eq_true, decide_eq_true_eq] at hc
        obtain ⟨i0, i2⟩ := hc
        obtain ⟨v, hv1, hv2, _⟩ := hx
        cases hv2
        rcases H.obj n _ hn with ⟨base, k1, k2⟩ | ⟨b, o, cap, cells, T, fz, k1, k2, k3, k4, k5, k6, k7, k8⟩
        · subst k2
          exact absurd i2 (Int.not_lt.2 i0)
        · rw [k1] at hv1
          cases hv1
          refine Out.here H (v := .el n g i.toNat [] 0) (val := .pointer (some ⟨b, o + i.toNat * g.size, none⟩)) ?_ ⟨b, o, _, cap, k1, rfl⟩ hk
          simp [Instr.indexAt, asIntOf, run_underlying ht, i0, i2, run_sizeOf e1, add_none]
      · rename_i q g xs hi hu hn
        obtain ⟨he, hk⟩ := bif_some hk
        obtain ⟨e1, e2⟩ := elemOK_spec he
        obtain ⟨hc, hk⟩ := asrt_true hk
        simp only [Bool.and_eq_true, decide_eq_true_eq] at hc
        obtain ⟨i0, i2⟩ := hc
        obtain ⟨v, hv1, hv2, _⟩ := hx
        cases hv2
        obtain ⟨b, o, cap, cells, T, fz, k1, k2, k3, k4, k5, k6, k7, k8⟩ := H.obj n _ hn
        rw [k1] at hv1
        cases hv1
        refine Out.here H (v := .el n g i.toNat [] 0) (val := .pointer (some ⟨b, o + i.toNat * g.size, none⟩)) ?_ ⟨b, o, _, cap, k1, rfl⟩ hk
        simp [Instr.indexAt, asIntOf, run_underlying ht, i0, i2, run_sizeOf e1, add_none]
      · cases hk
    · split at hk
      · obtain ⟨hc, _⟩ := asrt_true hk
        cases hc
      · cases hk
    · rename_i n g lo len
      obtain ⟨he, hk⟩ := bif_some hk
      obtain ⟨e1, e2⟩ := elemOK_spec he
      obtain ⟨hc, hk⟩ := asrt_true hk
      simp only [Bool.and_eq_true, decide_eq_true_eq] at hc
      obtain ⟨i0, i2⟩ := hc
      obtain ⟨base, l, cap, b', c, h1, h2, h3⟩ := hx
      cases h2
      obtain ⟨b, o, rfl, rfl⟩ := h3.1 (by have q : (0 : Int) < (len : Int) := Int.lt_of_le_of_lt i0 i2; omega)
      refine Out.here H (v := .el n g (lo + i.toNat) [] 0) (val := .pointer (some ⟨b, o + lo * g.size + i.toNat * g.size, none⟩)) ?_ ⟨b, o, l, cap, h1, ?_⟩ hk
      · simp [Instr.indexAt, asIntOf, run_underlying ht, i0, i2, run_sizeOf e1, add_none]
      · simp [Nat.add_mul, Nat.add_assoc]
    · cases hk
  · cases hk

theorem pickI_some {R : Type} {i : Int} {f : Nat → Option R} {r : R} : ∀ (gc : Bool) (m j : Nat), pickI gc i f m j = some r → (∃ k, f k = some r) ∧ (gc = true → ∃ k, j ≤ k ∧ k < j + m ∧ i = (k : Int) ∧ f k = some r)
  | gc, 0, j, h => by
    unfold pickI asrt at h
    obtain ⟨c, h⟩ := bif_some h
    refine ⟨⟨j - 1, h⟩, fun e => ?_⟩
    subst e
    simp at c
  | gc, m + 1, j, h => by
    unfold pickI at h
    cases hd : decide (i = (j : Int)) with
    | true =>
      rw [hd] at h
      exact ⟨⟨j, h⟩, fun _ => ⟨j, Nat.le_refl _, by omega, of_decide_eq_true hd, h⟩⟩
    | false =>
      rw [hd] at h
      obtain ⟨h1, h2⟩ := pickI_some gc m (j + 1) h
      refine ⟨h1, fun e => ?_⟩
      obtain ⟨k, k1, k2, k3, k4⟩ := h2 e
      exact ⟨k, by omega, by omega, k3, k4⟩

theorem arrAddrK_sound {R : Type} {P : Program} {t : TypeId} {B : Base} {X : HS} {h : List SO} {n : Nat} {path : List Nat} {off : Nat} {i : SV} {xv iv : Value} {K : Kont R} {r : R} (H : HRep B X h) (hx : Rep X (.box n path off) .val [xv]) (hi : Rep X i .val [iv])
    (hk : arrAddrK P t true n path off i h K = some r) : Out B X K r ((Instr.indexAt t xv iv).run P X.w) := by
  unfold arrAddrK at hk
  split at hk
  · rename_i len e k i ht
    obtain ⟨cs, hc, hiv⟩ := hi
    simp only [RepD] at hc
    subst hc
    simp only [GT.isAgg, mkV, List.headD_cons, List.cons.injEq, and_true] at hiv
    subst hiv
    split at hk
    · rename_i ag s hs
      obtain ⟨_, h2⟩ := pickI_some true len 0 hk
      obtain ⟨j, _, j1, j2, j3⟩ := h2 rfl
      rw [Nat.zero_add] at j1
      obtain ⟨b, h1, h2⟩ := hx
      cases h2
      subst j2
      refine Out.here (v := .box n (path ++ [j]) (off + j * s)) (val := .pointer (some ⟨b, off + j * s, none⟩)) H ?_ ⟨b, h1, rfl⟩ j3
      have hj : (j : Int) < (len : Int) := by omega
      simp [Instr.indexAt, asIntOf, run_underlying ht, Instr.sureAddr, run_sizeOf hs, add_none, j1]
    · cases hk
  · cases hk

theorem indexAddrK_sound {R : Type} {P : Program} {t : TypeId} {B : Base} {X : HS} {h : List SO} {x i : SV} {xv iv : Value} {K : Kont R} {r : R} (H : HRep B X h) (hx : Rep X x .val [xv]) (hi : Rep X i .val [iv])
    (hk : indexAddrK P t true x i h K = some r) : Out B X K r ((Instr.indexAt t xv iv).run P X.w) := by
  unfold indexAddrK at hk
  split at hk
  · exact arrAddrK_sound H hx hi hk
  · exact sliceAddrK_sound H hx hi hk

theorem bytes_get (l : List UInt8) (n : Nat) : (⟨l.toArray⟩ : ByteArray)[n]? = l[n]? := by
  by_cases h : n < l.length
  · have hs : n < (⟨l.toArray⟩ : ByteArray).size := by simpa [ByteArray.size] using h
    rw [getElem?_pos _ n hs, List.getElem?_eq_getElem h]
    rfl
  · have hs : ¬ n < (⟨l.toArray⟩ : ByteArray).size := by simpa [ByteArray.size] using h
    rw [getElem?_neg _ n hs, List.getElem?_eq_none (by omega)]

theorem bytes_extract (l : List UInt8) (a b : Nat) : (⟨l.toArray⟩ : ByteArray).extract a b = ⟨((l.take b).drop a).toArray⟩ := by
  have e : ((⟨l.toArray⟩ : ByteArray).extract a b).data = ((l.take b).drop a).toArray := by
    apply Array.ext'
    simp [ByteArray.data_extract, List.extract, List.drop_take]
  cases h : (⟨l.toArray⟩ : ByteArray).extract a b with
  | mk d => rw [h] at e; simp only at e; rw [e]

theorem indexK_sound {R : Type} {P : Program} {t : TypeId} {B : Base} {X : HS} {h : List SO} {x i : SV} {xv iv : Value} {K : Kont R} {r : R} (H : HRep B X h) (hx : Rep X x .val [xv]) (hi : Rep X i .val [iv])
    (hk : indexK P t true x i h K = some r) : Out B X K r ((Instr.index t xv iv).run P X.w) := by
  unfold indexK at hk
  split at hk
  · rename_i l k i ht
    obtain ⟨cs, hc, hiv⟩ := hi
    simp only [RepD] at hc
    subst hc
    simp only [GT.isAgg, mkV, List.headD_cons, List.cons.injEq, and_true] at hiv
    subst hiv
    obtain ⟨cs, hc, hxv⟩ := hx
    simp only [RepD] at hc
    subst hc
    simp only [GT.isAgg, mkV, List.headD_cons, List.cons.injEq, and_true] at hxv
    subst hxv
    simp only [idxG, cond_true] at hk
    obtain ⟨y, hy, hk⟩ := Option.bind_eq_some_iff.1 hk
    obtain ⟨i0, i1, i2⟩ := idx_some hy
    refine Out.here H (v := .dat (.int .u8) (y.toNat : Int)) (val := .int .u8 y.toNat) ?_ ⟨_, rfl, rfl⟩ hk
    simp [Instr.index, asIntOf, run_underlying ht, i0, bytes_get, i1]
  · cases hk

/-- The value of an int. -/
theorem rep_int {X : HS} {k : IntKind} {n : Int} {v : Value} (h : Rep X (.dat (.int k) n) .val [v]) : v = .int k n := by
  obtain ⟨cs, hc, e⟩ := h
  simp only [RepD] at hc
  subst hc
  simpa [GT.isAgg, mkV] using e
theorem rep_bool {X : HS} {n : Bool} {v : Value} (h : Rep X (.dat .bool n) .val [v]) : v = .bool n := by
  obtain ⟨cs, hc, e⟩ := h
  simp only [RepD] at hc
  subst hc
  simpa [GT.isAgg, mkV] using e
theorem rep_str {X : HS} {l : List UInt8} {v : Value} (h : Rep X (.dat .str l) .val [v]) : v = .string ⟨l.toArray⟩ := by
  obtain ⟨cs, hc, e⟩ := h
  simp only [RepD] at hc
  subst hc
  simpa [GT.isAgg, mkV] using e
theorem int_rep {X : HS} {k : IntKind} {n : Int} : Rep X (.dat (.int k) n) .val [.int k n] := ⟨_, rfl, rfl⟩
theorem bool_rep {X : HS} {n : Bool} : Rep X (.dat .bool n) .val [.bool n] := ⟨_, rfl, rfl⟩
theorem str_rep {X : HS} {l : List UInt8} : Rep X (.dat .str l) .val [.string ⟨l.toArray⟩] := ⟨_, rfl, rfl⟩

theorem arithK_sound {R : Type} {P : Program} {op : BinOp} {k : IntKind} {t : TypeId} {x y : Operand} {B : Base} {X : HS} {h : List SO} {a b : Int} {K : Kont R} {r : R} (H : HRep B X h)
    (hk : arithK op k true a b h K = some r) :
    Out B X K r (((do eqGuard op t x y (.int k a) (.int k b); binOp op t (.int k a) (.int k b)) : Sem Value).run P X.w) := by
  cases op <;> simp only [arithK] at hk <;> try (cases hk; done)
  case add => exact Out.here H (by simp [eqGuard, binOp, Op.intArith]) int_rep hk
  case sub => exact Out.here H (by simp [eqGuard, binOp, Op.intArith]) int_rep hk
  case mul => exact Out.here H (by simp [eqGuard, binOp, Op.intArith]) int_rep hk
  case quo =>
    obtain ⟨hc, hk⟩ := asrt_true hk
    have hb : b ≠ 0 := by simpa using hc
    exact Out.here H (by simp [eqGuard, binOp, Op.intDiv, hb]) int_rep hk
  case rem =>
    obtain ⟨hc, hk⟩ := asrt_true hk
    have hb : b ≠ 0 := by simpa using hc
    exact Out.here H (by simp [eqGuard, binOp, Op.intDiv, hb]) int_rep hk
  case shr =>
    obtain ⟨hc, hk⟩ := asrt_true hk
    have hb : ¬ b < 0 := by have := of_decide_eq_true hc; omega
    exact Out.here H (by simp [eqGuard, binOp, Op.shift, hb, shr2]) int_rep hk
  case and => exact Out.here H (by simp [eqGuard, binOp, Op.intBits]) int_rep hk
  case eql => exact Out.here H (by simp [eqGuard, binOp, Op.intCmp]) bool_rep hk
  case neq => exact Out.here H (by simp [eqGuard, binOp, Op.intCmp]) bool_rep hk
  case lss => exact Out.here H (by simp [eqGuard, binOp, Op.intCmp]) bool_rep hk
  case leq => exact Out.here H (by simp [eqGuard, binOp, Op.intCmp]) bool_rep hk
  case gtr => exact Out.here H (by simp [eqGuard, binOp, Op.intCmp]) bool_rep hk
  case geq => exact Out.here H (by simp [eqGuard, binOp, Op.intCmp]) bool_rep hk

theorem bytes_append (a b : List UInt8) : (⟨a.toArray⟩ : ByteArray) ++ ⟨b.toArray⟩ = ⟨(a ++ b).toArray⟩ := by
  have e : ((⟨a.toArray⟩ : ByteArray) ++ ⟨b.toArray⟩).data = (a ++ b).toArray := by
    rw [ByteArray.data_append]; simp
  cases h : (⟨a.toArray⟩ : ByteArray) ++ ⟨b.toArray⟩ with
  | mk d => rw [h] at e; simp only at e; rw [e]

theorem strK_sound {R : Type} {P : Program} {op : BinOp} {t : TypeId} {x y : Operand} {B : Base} {X : HS} {h : List SO} {a b : List UInt8} {K : Kont R} {r : R} (H : HRep B X h)
    (hk : strK op true a b h K = some r) :
    Out B X K r (((do eqGuard op t x y (.string ⟨a.toArray⟩) (.string ⟨b.toArray⟩); binOp op t (.string ⟨a.toArray⟩) (.string ⟨b.toArray⟩)) : Sem Value).run P X.w) := by
  cases op <;> simp only [strK] at hk <;> try (cases hk; done)
  case add =>
    obtain ⟨hc, hk⟩ := asrt_true hk
    have hb : a.length + b.length ≤ 4294967296 := by simpa using hc
    refine Out.here H ?_ str_rep hk
    have h1 : ¬ ((a.length : Int) + b.length > 9223372036854775807) := by omega
    have h2 : IntKind.i64.max = 9223372036854775807 := rfl
    simp [eqGuard, binOp, Op.stringOp, bytes_append, ByteArray.size, h2]
    omega
  case eql => exact Out.here H (by simp [eqGuard, binOp, Op.stringOp]) bool_rep hk
  case neq => exact Out.here H (by simp [eqGuard, binOp, Op.stringOp]) bool_rep hk
  case lss => exact Out.here H (by simp [eqGuard, binOp, Op.stringOp]) bool_rep hk
  case leq => exact Out.here H (by simp [eqGuard, binOp, Op.stringOp]) bool_rep hk
  case gtr => exact Out.here H (by simp [eqGuard, binOp, Op.stringOp]) bool_rep hk
  case geq => exact Out.here H (by simp [eqGuard, binOp, Op.stringOp]) bool_rep hk

theorem unK_sound {R : Type} {P : Program} {op : UnOp} {B : Base} {X : HS} {h : List SO} {x : SV} {xv : Value} {K : Kont R} {r : R} (H : HRep B X h) (hx : Rep X x .val [xv])
    (hk : unK op x h K = some r) : Out B X K r ((Op.unary op xv).run P X.w) := by
  unfold unK at hk
  split at hk
  · rw [rep_int hx]; exact Out.here H (by simp [Op.unary, Op.intArith]) int_rep hk
  · rw [rep_bool hx]; exact Out.here H (by simp [Op.unary]) bool_rep hk
  · cases hk

theorem lenK_sound {R : Type} {P : Program} {t ty : TypeId} {B : Base} {X : HS} {h : List SO} {x : SV} {xv : Value} {K : Kont R} {r : R} (H : HRep B X h) (hx : Rep X x .val [xv])
    (hk : lenK P t x h K = some r) : Out B X K r ((Builtin.len_ #[t] ty #[xv]).run P X.w) := by
  unfold lenK at hk
  split at hk
  · rename_i l ht
    rw [rep_str hx]
    have hs : (⟨l.toArray⟩ : ByteArray).size = l.length := by simp [ByteArray.size]
    exact Out.here H (by simp [Builtin.len_, run_underlying ht, goInt, hs]) int_rep hk
  · rename_i e g xs ht
    obtain ⟨cs, ⟨base, cap, rfl, _⟩, hxv⟩ := hx
    simp only [GT.isAgg, mkV, List.headD_cons, List.cons.injEq, and_true] at hxv
    subst hxv
    exact Out.here H (by simp [Builtin.len_, run_underlying ht, goInt]) int_rep hk
  · rename_i e ht
    simp only [Rep, List.cons.injEq, and_true] at hx
    subst hx
    exact Out.here H (by simp [Builtin.len_, run_underlying ht, goInt]) int_rep hk
  · rename_i e ht
    obtain ⟨b, hb⟩ := hx
    simp only [List.cons.injEq, and_true] at hb
    subst hb
    exact Out.here H (by simp [Builtin.len_, run_underlying ht, goInt]) int_rep hk
  · rename_i e n ht
    split at hk
    · rename_i g xs hn
      obtain ⟨v, hv1, hv2, _⟩ := hx
      cases hv2
      rcases H.obj n _ hn with ⟨base, k1, k2⟩ | ⟨b, o, cap, cells, T, fz, k1, _⟩
      · rw [k1] at hv1
        cases hv1
        subst k2
        exact Out.here H (by simp [Builtin.len_, run_underlying ht, goInt]) int_rep hk
      · rw [k1] at hv1
        cases hv1
        exact Out.here H (by simp [Builtin.len_, run_underlying ht, goInt]) int_rep hk
    · rename_i q g xs hi hu hn
      obtain ⟨v, hv1, hv2, _⟩ := hx
      cases hv2
      obtain ⟨b, o, cap, cells, T, fz, k1, _⟩ := H.obj n _ hn
      rw [k1] at hv1
      cases hv1
      exact Out.here H (by simp [Builtin.len_, run_underlying ht, goInt]) int_rep hk
    · cases hk
  · rename_i e n g lo len ht
    obtain ⟨base, l, cap, b', c, h1, h2, _⟩ := hx
    cases h2
    exact Out.here H (by simp [Builtin.len_, run_underlying ht, goInt]) int_rep hk
  · cases hk

theorem minK_sound {R : Type} {P : Program} {ty : TypeId} {ts : Array TypeId} {B : Base} {X : HS} {h : List SO} {x y : SV} {xv yv : Value} {K : Kont R} {r : R} (H : HRep B X h) (hx : Rep X x .val [xv]) (hy : Rep X y .val [yv])
    (hk : minK x y h K = some r) : Out B X K r ((Builtin.min_ ts ty #[xv, yv]).run P X.w) := by
  unfold minK at hk
  split at hk
  · rename_i k a k' b
    rw [rep_int hx, rep_int hy]
    refine Out.here H ?_ int_rep hk
    by_cases hlt : b < a <;> simp [Builtin.min_, Builtin.min2, hlt]
  · cases hk

theorem maxK_sound {R : Type} {P : Program} {ty : TypeId} {ts : Array TypeId} {B : Base} {X : HS} {h : List SO} {x y : SV} {xv yv : Value} {K : Kont R} {r : R} (H : HRep B X h) (hx : Rep X x .val [xv]) (hy : Rep X y .val [yv])
    (hk : maxK x y h K = some r) : Out B X K r ((Builtin.max_ ts ty #[xv, yv]).run P X.w) := by
  unfold maxK at hk
  split at hk
  · rename_i k a k' b
    rw [rep_int hx, rep_int hy]
    refine Out.here H ?_ int_rep hk
    by_cases hlt : b > a <;> simp [Builtin.max_, Builtin.max2, hlt]
  · cases hk

end Go.Eng
