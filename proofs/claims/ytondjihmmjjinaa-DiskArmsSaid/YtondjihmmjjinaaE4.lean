/- The engine, part 4: parts of structs; the heap's relation and how it changes. -/
import Derived.Test.YtondjihmmjjinaaE3
namespace Go.Eng
open Go
set_option linter.unusedVariables false
set_option linter.unusedSimpArgs false

/-! ### Lists -/

theorem nth_eq {α : Type} : ∀ (l : List α) (n : Nat), nth l n = l[n]?
  | [], n => by simp [nth]
  | a :: l, 0 => by simp [nth]
  | a :: l, n + 1 => by simp [nth, nth_eq l n]

theorem setN_eq {α : Type} : ∀ (l : List α) (n : Nat) (x : α), setN l n x = l.set n x
  | [], n, x => by simp [setN]
  | a :: l, 0, x => by simp [setN]
  | a :: l, n + 1, x => by simp [setN, setN_eq l n x]

/-- Cells from off on, written over. -/
def ow (cs : List Value) (off : Nat) (vs : List Value) : List Value := cs.take off ++ (vs ++ cs.drop (off + vs.length))

theorem ow_len {cs vs : List Value} {off : Nat} (h : off + vs.length ≤ cs.length) : (ow cs off vs).length = cs.length := by
  simp [ow]; omega

theorem ow_zero {cs vs : List Value} (h : vs.length = cs.length) : ow cs 0 vs = vs := by
  simp [ow, h]

theorem ow_left {c1 c2 vs : List Value} {off : Nat} (h : off + vs.length ≤ c1.length) : ow (c1 ++ c2) off vs = ow c1 off vs ++ c2 := by
  simp only [ow]
  rw [List.take_append_of_le_length (by omega), List.drop_append_of_le_length (by omega)]
  simp [List.append_assoc]

theorem ow_right {c1 c2 vs : List Value} {off : Nat} : ow (c1 ++ c2) (c1.length + off) vs = c1 ++ ow c2 off vs := by
  simp only [ow, List.take_length_add_append]
  rw [show c1.length + off + vs.length = c1.length + (off + vs.length) by omega, List.drop_length_add_append]
  simp [List.append_assoc]

/-! ### Parts -/

theorem partsOf_rep {X : HS} {v l : SV} {cs : List Value} (h : Rep X v .cells cs) (hp : v.partsOf = some l) : Rep X l .cells cs := by
  cases v <;> simp only [SV.partsOf] at hp <;> try (cases hp; done)
  case dat g x =>
    cases g <;> try (cases hp; done)
    case nil => cases hp; exact h
    case cons a b =>
      cases hb : b.chain with
      | false => simp [hb] at hp
      | true =>
        simp only [hb, cond_true, Option.some.injEq] at hp
        subst hp
        exact Rep_parts (.cons a b) x cs rfl h (by simp [GT.chain, hb])
  case agg l' => cases hp; exact h

theorem nthS_rep {X : HS} : ∀ (l : SV) (i : Nat) (u : SV) (cs : List Value), Rep X l .cells cs → nthS l i = some u →
    offS l i + u.size ≤ cs.length ∧ Rep X u .cells ((cs.drop (offS l i)).take u.size)
  | .scons a b, 0, u, cs, h, hn => by
    simp only [nthS, Option.some.injEq] at hn
    subst hn
    obtain ⟨c1, c2, rfl, h1, h2⟩ := h
    have hl := Rep_len a c1 h1
    simp only [offS, List.drop_zero, ← hl, List.take_left']
    exact ⟨by simp, by simpa using h1⟩
  | .scons a b, n + 1, u, cs, h, hn => by
    simp only [nthS] at hn
    obtain ⟨c1, c2, rfl, h1, h2⟩ := h
    have hl := Rep_len a c1 h1
    obtain ⟨k1, k2⟩ := nthS_rep b n u c2 h2 hn
    simp only [offS, ← hl, List.drop_length_add_append]
    exact ⟨by simp; omega, k2⟩
  | .dat _ _, i, u, cs, h, hn => by simp [nthS] at hn
  | .nils, i, u, cs, h, hn => by simp [nthS] at hn
  | .emp, i, u, cs, h, hn => by simp [nthS] at hn
  | .nilp, i, u, cs, h, hn => by simp [nthS] at hn
  | .nilm, i, u, cs, h, hn => by simp [nthS] at hn
  | .nilfn, i, u, cs, h, hn => by simp [nthS] at hn
  | .nsl _ _, i, u, cs, h, hn => by simp [nthS] at hn
  | .box _ _ _, i, u, cs, h, hn => by simp [nthS] at hn
  | .el _ _ _ _ _, i, u, cs, h, hn => by simp [nthS] at hn
  | .rd _ _, i, u, cs, h, hn => by simp [nthS] at hn
  | .own _, i, u, cs, h, hn => by simp [nthS] at hn
  | .mp _, i, u, cs, h, hn => by simp [nthS] at hn
  | .vw _ _ _ _, i, u, cs, h, hn => by simp [nthS] at hn
  | .fn _ _, i, u, cs, h, hn => by simp [nthS] at hn
  | .snil, i, u, cs, h, hn => by simp [nthS] at hn
  | .agg _, i, u, cs, h, hn => by simp [nthS] at hn
  | .tup _, i, u, cs, h, hn => by simp [nthS] at hn

theorem setS_rep {X : HS} {v : SV} {vs : List Value} (hv : Rep X v .cells vs) : ∀ (l : SV) (i : Nat) (l' : SV) (cs : List Value), Rep X l .cells cs → setS l i v = some l' →
    offS l i + vs.length ≤ cs.length ∧ Rep X l' .cells (ow cs (offS l i) vs)
  | .scons a b, 0, l', cs, h, hn => by
    simp only [setS] at hn
    cases hc : (a.size.beq v.size && (a.isAgg == v.isAgg) && v.stor) with
    | false => rw [hc] at hn; cases hn
    | true =>
      rw [hc] at hn
      simp only [cond_true, Option.some.injEq] at hn
      subst hn
      obtain ⟨c1, c2, rfl, h1, h2⟩ := h
      have hl := Rep_len a c1 h1
      have hl' := Rep_len v vs hv
      simp only [Bool.and_eq_true, Nat.beq_eq] at hc
      have hs : vs.length = c1.length := by rw [hl, hl', hc.1.1]
      refine ⟨by simp [offS, hs], ?_⟩
      rw [offS, ow_left (by omega), ow_zero hs]
      exact ⟨vs, c2, rfl, hv, h2⟩
  | .scons a b, n + 1, l', cs, h, hn => by
    simp only [setS] at hn
    split at hn
    · rename_i b' hb
      simp only [Option.some.injEq] at hn
      subst hn
      obtain ⟨c1, c2, rfl, h1, h2⟩ := h
      have hl := Rep_len a c1 h1
      obtain ⟨k1, k2⟩ := setS_rep hv b n b' c2 h2 hb
      refine ⟨by simp only [offS, List.length_append]; omega, ?_⟩
      rw [offS, ← hl, ow_right]
      exact ⟨c1, _, rfl, h1, k2⟩
    · cases hn
  | .dat _ _, i, u, cs, h, hn => by simp [setS] at hn
  | .nils, i, u, cs, h, hn => by simp [setS] at hn
  | .emp, i, u, cs, h, hn => by simp [setS] at hn
  | .nilp, i, u, cs, h, hn => by simp [setS] at hn
  | .nilm, i, u, cs, h, hn => by simp [setS] at hn
  | .nilfn, i, u, cs, h, hn => by simp [setS] at hn
  | .nsl _ _, i, u, cs, h, hn => by simp [setS] at hn
  | .box _ _ _, i, u, cs, h, hn => by simp [setS] at hn
  | .el _ _ _ _ _, i, u, cs, h, hn => by simp [setS] at hn
  | .rd _ _, i, u, cs, h, hn => by simp [setS] at hn
  | .own _, i, u, cs, h, hn => by simp [setS] at hn
  | .mp _, i, u, cs, h, hn => by simp [setS] at hn
  | .vw _ _ _ _, i, u, cs, h, hn => by simp [setS] at hn
  | .fn _ _, i, u, cs, h, hn => by simp [setS] at hn
  | .snil, i, u, cs, h, hn => by simp [setS] at hn
  | .agg _, i, u, cs, h, hn => by simp [setS] at hn
  | .tup _, i, u, cs, h, hn => by simp [setS] at hn

theorem sub_rep {X : HS} : ∀ (p : List Nat) (v u : SV) (cs : List Value), Rep X v .cells cs → SV.sub p v = some u →
    SV.off p v + u.size ≤ cs.length ∧ Rep X u .cells ((cs.drop (SV.off p v)).take u.size)
  | [], v, u, cs, h, hs => by
    simp only [SV.sub, Option.some.injEq] at hs
    subst hs
    have hl := Rep_len v cs h
    simp [SV.off, ← hl, h]
  | i :: p, v, u, cs, h, hs => by
    simp only [SV.sub] at hs
    split at hs
    · rename_i l hl
      split at hs
      · rename_i x hx
        obtain ⟨k1, k2⟩ := nthS_rep l i x cs (partsOf_rep h hl) hx
        obtain ⟨j1, j2⟩ := sub_rep p x u _ k2 hs
        have hoff : SV.off (i :: p) v = offS l i + SV.off p x := by simp only [SV.off, hl, hx]
        have hlen : ((cs.drop (offS l i)).take x.size).length = x.size := Rep_len _ _ k2
        rw [hlen] at j1
        refine ⟨by omega, ?_⟩
        rw [hoff]
        have : (((cs.drop (offS l i)).take x.size).drop (SV.off p x)).take u.size = (cs.drop (offS l i + SV.off p x)).take u.size := by
          rw [List.drop_take, List.drop_drop, List.take_take, Nat.min_eq_left (by omega)]
        rw [← this]
        exact j2
      · cases hs
    · cases hs

theorem ow_nest {cs vs : List Value} {o1 s1 o2 : Nat} (h1 : o1 + s1 ≤ cs.length) (h2 : o2 + vs.length ≤ s1) :
    ow cs o1 (ow ((cs.drop o1).take s1) o2 vs) = ow cs (o1 + o2) vs := by
  have hl : (ow ((cs.drop o1).take s1) o2 vs).length = s1 := by
    rw [ow_len (by simp; omega)]; simp; omega
  unfold ow at *
  rw [hl]
  apply List.ext_getElem?
  intro n
  simp only [List.getElem?_append, List.length_take, List.length_drop, List.getElem?_take, List.getElem?_drop, List.length_append]
  rw [Nat.min_eq_left (by omega : o1 ≤ cs.length), Nat.min_eq_left (by omega : s1 ≤ cs.length - o1), Nat.min_eq_left (by omega : o2 ≤ s1), Nat.min_eq_left (by omega : o1 + o2 ≤ cs.length)]
  repeat' split
  all_goals first
    | rfl
    | (exfalso; omega)
    | (congr 1; omega)

theorem upd_rep {X : HS} {v : SV} {vs : List Value} (hv : Rep X v .cells vs) : ∀ (p : List Nat) (u u' : SV) (cs : List Value), Rep X u .cells cs → SV.upd p u v = some u' →
    SV.off p u + vs.length ≤ cs.length ∧ Rep X u' .cells (ow cs (SV.off p u) vs)
  | [], u, u', cs, h, hs => by
    simp only [SV.upd] at hs
    cases hc : (u.size.beq v.size && (u.isAgg == v.isAgg) && v.stor) with
    | false => rw [hc] at hs; cases hs
    | true =>
      rw [hc] at hs
      simp only [cond_true, Option.some.injEq] at hs
      subst hs
      simp only [Bool.and_eq_true, Nat.beq_eq] at hc
      have hl := Rep_len u cs h
      have hl' := Rep_len v vs hv
      have e : vs.length = cs.length := by rw [hl, hl', hc.1.1]
      rw [SV.off, ow_zero e]
      exact ⟨by omega, hv⟩
  | i :: p, u, u', cs, h, hs => by
    simp only [SV.upd] at hs
    split at hs
    · rename_i l hl
      split at hs
      · rename_i x hx
        split at hs
        · rename_i y hy
          split at hs
          · rename_i l' hl'
            simp only [Option.some.injEq] at hs
            subst hs
            have hr := partsOf_rep h hl
            obtain ⟨k1, k2⟩ := nthS_rep l i x cs hr hx
            obtain ⟨j1, j2⟩ := upd_rep hv p x y _ k2 hy
            have hlen : ((cs.drop (offS l i)).take x.size).length = x.size := Rep_len _ _ k2
            rw [hlen] at j1
            obtain ⟨m1, m2⟩ := setS_rep j2 l i l' cs hr hl'
            have hoff : SV.off (i :: p) u = offS l i + SV.off p x := by simp only [SV.off, hl, hx]
            rw [hoff]
            rw [ow_nest k1 j1] at m2
            exact ⟨by omega, mkAgg_rep m2⟩
          · cases hs
        · cases hs
      · cases hs
    · cases hs

/-! ### Objects -/

/-- The block of a value that names one. -/
def _root_.Go.Value.blk : Value → Option Nat
  | .pointer (some a) => some a.block
  | .slice (some a) _ cap => match cap with
    | 0 => none
    | _ + 1 => some a.block
  | .map (some r) => some r
  | _ => none

def blkOf (X : HS) (n : Nat) : Option Nat := (X.ρ[n]?).bind Value.blk

/-- A block's range of frozen cells lies behind its cells. -/
def notFz (u : Bool) (cap n : Nat) (fz : Nat × Nat) : Prop := (∀ j, j < n → ¬ (fz.1 ≤ j ∧ j < fz.2)) ∧ (u = false → fz = (0, 0) ∧ cap ≤ 9223372036854775807)

/-- A row of cells bears a list from o on. -/
def Cells (X : HS) (g : GT) (o : Nat) (xs : List g.ty) (cells : Array Value) : Prop :=
  ∀ (i : Nat) (x : g.ty), xs[i]? = some x → ∃ cs, RepD X.Ok X.w.heap g x cs ∧ ∀ (j : Nat) (v : Value), cs[j]? = some v → cells[o + i * g.size + j]? = some v

def RepO (X : HS) (n : Nat) : SO → Prop
  | .dead => True
  | .box v => ∃ b cs T, X.ρ[n]? = some (.pointer (some ⟨b, 0, none⟩)) ∧ X.w.heap[b]? = some (.cells (List.toArray cs) T (0, 0)) ∧ Rep X v .cells cs
  | .arr g xs => (∃ base, X.ρ[n]? = some (.slice base 0 0) ∧ xs = []) ∨
      ∃ b o cap cells T fz, X.ρ[n]? = some (.slice (some ⟨b, o, none⟩) (List.length xs) cap) ∧ 0 < cap ∧ X.w.heap[b]? = some (.cells cells T fz) ∧ notFz (GT.beq g (.int .u8)) cap cells.size fz ∧
        List.length xs ≤ cap ∧ o + cap * g.size ≤ cells.size ∧ 0 < g.size ∧ Cells X g o xs cells
  | .map k v es => ∃ r ents clock, X.ρ[n]? = some (.map (some r)) ∧ X.w.heap[r]? = some (.map ents clock) ∧ ents.size = es.length ∧
      (∀ (i : Nat) (e : k.ty × v.ty), es[i]? = some e → ∃ me ck cv, ents[i]? = some me ∧ RepD X.Ok X.w.heap k e.1 ck ∧ me.key = mkV k.isAgg ck ∧ RepD X.Ok X.w.heap v e.2 cv ∧ me.val = mkV v.isAgg cv) ∧
      (∀ (i : Nat) me, ents[i]? = some me → me.born < clock) ∧ (∀ (i j : Nat) me mf, ents[i]? = some me → ents[j]? = some mf → me.born = mf.born → i = j)
  | .mapS k v es x m => ∃ r ents clock, X.ρ[n]? = some (.map (some r)) ∧ X.w.heap[r]? = some (.map ents clock) ∧ ents.size = es.length ∧
      (∀ (i : Nat) (e : k.ty × v.ty), es[i]? = some e → ∃ me ck cv, ents[i]? = some me ∧ RepD X.Ok X.w.heap k e.1 ck ∧ me.key = mkV k.isAgg ck ∧ RepD X.Ok X.w.heap v e.2 cv ∧ me.val = mkV v.isAgg cv) ∧
      ((∀ (i : Nat) me, ents[i]? = some me → me.born < clock) ∧ (∀ (i j : Nat) me mf, ents[i]? = some me → ents[j]? = some mf → me.born = mf.born → i = j)) ∧
      ∃ p me z, ents[p]? = some me ∧ es[p]? = some (x, z) ∧ X.ρ[m]? = some (goInt me.born) ∧ ∀ y, putM k v x y es = es.set p (x, y)
  | .mapB k v es bs c => ∃ r ents, X.ρ[n]? = some (.map (some r)) ∧ X.w.heap[r]? = some (.map ents c) ∧ ents.size = es.length ∧
      (∀ (i : Nat) (e : k.ty × v.ty), es[i]? = some e → ∃ me ck cv, ents[i]? = some me ∧ RepD X.Ok X.w.heap k e.1 ck ∧ me.key = mkV k.isAgg ck ∧ RepD X.Ok X.w.heap v e.2 cv ∧ me.val = mkV v.isAgg cv) ∧
      ents.toList.map (·.born) = bs ∧ (∀ b ∈ bs, b < c) ∧ bs.Nodup
  | .hole _ g xs i u => ∃ b o cap cells T fz, X.ρ[n]? = some (.slice (some ⟨b, o, none⟩) (List.length xs) cap) ∧ 0 < cap ∧ X.w.heap[b]? = some (.cells cells T fz) ∧ notFz (GT.beq g (.int .u8)) cap cells.size fz ∧
        List.length xs ≤ cap ∧ o + cap * g.size ≤ cells.size ∧ 0 < g.size ∧ u.size = g.size ∧ i < List.length xs ∧
        ∀ (j : Nat) (x : g.ty), xs[j]? = some x → ∃ cs, Rep X (bif Nat.beq j i then u else .dat g x) .cells cs ∧ ∀ (k : Nat) (v : Value), cs[k]? = some v → cells[o + j * g.size + k]? = some v

theorem RepO_mono {X Y : HS} (hx : Ext X Y) {n : Nat} {o : SO} (hb : ∀ b, o.live = true → blkOf X n = some b → Y.w.heap[b]? = X.w.heap[b]?) (h : RepO X n o) : RepO Y n o := by
  cases o with
  | dead => trivial
  | box v =>
    obtain ⟨b, cs, T, h1, h2, h3⟩ := h
    exact ⟨b, cs, T, hx.ρ _ _ h1, by rw [hb b rfl (by simp [blkOf, h1, Value.blk])]; exact h2, Rep_mono hx v _ cs h3⟩
  | arr g xs =>
    rcases h with ⟨base, h1, h2⟩ | ⟨b, o, cap, cells, T, fz, h1, h2, h3, h4, h5, h6, h7, h8⟩
    · exact .inl ⟨base, hx.ρ _ _ h1, h2⟩
    · refine .inr ⟨b, o, cap, cells, T, fz, hx.ρ _ _ h1, h2, ?_, h4, h5, h6, h7, ?_⟩
      · obtain ⟨c, rfl⟩ : ∃ c, cap = c + 1 := ⟨cap - 1, by omega⟩
        rw [hb b rfl (by simp [blkOf, h1, Value.blk])]; exact h3
      · intro i x hi
        obtain ⟨cs, k1, k2⟩ := h8 i x hi
        exact ⟨cs, RepD_mono hx.ok hx.st g x cs k1, k2⟩
  | map k v es =>
    obtain ⟨r, ents, clock, h1, h2, h3, h4, h5⟩ := h
    refine ⟨r, ents, clock, hx.ρ _ _ h1, by rw [hb r rfl (by simp [blkOf, h1, Value.blk])]; exact h2, h3, ?_, h5⟩
    intro i e hi
    obtain ⟨me, ck, cv, k1, k2, k3, k4, k5⟩ := h4 i e hi
    exact ⟨me, ck, cv, k1, RepD_mono hx.ok hx.st k _ _ k2, k3, RepD_mono hx.ok hx.st v _ _ k4, k5⟩
  | mapB k v es bs c =>
    obtain ⟨r, ents, h1, h2, h3, h4, h5⟩ := h
    refine ⟨r, ents, hx.ρ _ _ h1, by rw [hb r rfl (by simp [blkOf, h1, Value.blk])]; exact h2, h3, ?_, h5⟩
    intro i e hi
    obtain ⟨me, ck, cv, k1, k2, k3, k4, k5⟩ := h4 i e hi
    exact ⟨me, ck, cv, k1, RepD_mono hx.ok hx.st k _ _ k2, k3, RepD_mono hx.ok hx.st v _ _ k4, k5⟩
  | mapS k v es x m =>
    obtain ⟨r, ents, clock, h1, h2, h3, h4, h5, p, me, z, h6, h7, h8, h9⟩ := h
    refine ⟨r, ents, clock, hx.ρ _ _ h1, by rw [hb r rfl (by simp [blkOf, h1, Value.blk])]; exact h2, h3, ?_, h5, p, me, z, h6, h7, hx.ρ _ _ h8, h9⟩
    intro i e hi
    obtain ⟨me, ck, cv, k1, k2, k3, k4, k5⟩ := h4 i e hi
    exact ⟨me, ck, cv, k1, RepD_mono hx.ok hx.st k _ _ k2, k3, RepD_mono hx.ok hx.st v _ _ k4, k5⟩
  | hole q g xs i u =>
    obtain ⟨b, o, cap, cells, T, fz, h1, h2, h3, h4, h5, h6, h7, h8, h9, h10⟩ := h
    refine ⟨b, o, cap, cells, T, fz, hx.ρ _ _ h1, h2, ?_, h4, h5, h6, h7, h8, h9, ?_⟩
    · obtain ⟨c, rfl⟩ : ∃ c, cap = c + 1 := ⟨cap - 1, by omega⟩
      rw [hb b rfl (by simp [blkOf, h1, Value.blk])]; exact h3
    · intro j x hj
      obtain ⟨cs, k1, k2⟩ := h10 j x hj
      exact ⟨cs, Rep_mono hx _ _ cs k1, k2⟩

/-- Where a function's run began: the world, which blocks it may write, which it may read as fixed. -/
structure Base where
  w : World
  own : Nat → Prop
  Ok : Nat → Prop

structure HRep (B : Base) (X : HS) (h : List SO) : Prop where
  len : X.ρ.length = h.length
  obj : ∀ n o, nth h n = some o → RepO X n o
  inj : ∀ n m o o', nth h n = some o → nth h m = some o' → o.live = true → o'.live = true → ∀ b, blkOf X n = some b → blkOf X m = some b → n = m
  sep : ∀ n o, nth h n = some o → o.live = true → ∀ b, blkOf X n = some b → ¬ X.Ok b
  okLt : ∀ b, X.Ok b → b < X.w.heap.size
  ownNew : ∀ n o b, nth h n = some o → o.live = true → blkOf X n = some b → B.own b ∨ B.w.heap.size ≤ b
  okOld : ∀ b, B.Ok b → X.Ok b
  okNew : ∀ b, X.Ok b → B.Ok b ∨ B.w.heap.size ≤ b ∨ B.own b
  os : X.w.os = B.w.os
  tape : X.w.tape = B.w.tape
  out : X.w.output = B.w.output
  size : B.w.heap.size ≤ X.w.heap.size
  fr : ∀ b : Nat, b < B.w.heap.size → ¬ B.own b → X.w.heap[b]? = B.w.heap[b]?

/-- A live object's block exists. -/
theorem HRep.lt {B : Base} {X : HS} {h : List SO} (H : HRep B X h) {n : Nat} {o : SO} (hn : nth h n = some o) (hl : o.live = true) {b : Nat} (hb : blkOf X n = some b) : b < X.w.heap.size := by
  have := H.obj n o hn
  have key : ∀ x, X.w.heap[b]? = some x → b < X.w.heap.size := fun x hx => (Array.getElem?_eq_some_iff.1 hx).1
  cases o with
  | dead => cases hl
  | box v =>
    obtain ⟨b', cs, T, h1, h2, _⟩ := this
    simp only [blkOf, h1, Option.bind_some, Value.blk, Option.some.injEq] at hb
    subst hb; exact key _ h2
  | arr g xs =>
    rcases this with ⟨base, h1, h2⟩ | ⟨b', o, cap, cells, T, fz, h1, h2, h3, _⟩
    · cases base <;> simp [blkOf, h1, Value.blk] at hb
    · obtain ⟨c, rfl⟩ : ∃ c, cap = c + 1 := ⟨cap - 1, by omega⟩
      simp only [blkOf, h1, Option.bind_some, Value.blk, Option.some.injEq] at hb
      subst hb; exact key _ h3
  | map k v es =>
    obtain ⟨r, ents, clock, h1, h2, _⟩ := this
    simp only [blkOf, h1, Option.bind_some, Value.blk, Option.some.injEq] at hb
    subst hb; exact key _ h2
  | mapB k v es bs c =>
    obtain ⟨r, ents, h1, h2, _⟩ := this
    simp only [blkOf, h1, Option.bind_some, Value.blk, Option.some.injEq] at hb
    subst hb; exact key _ h2
  | mapS k v es x m =>
    obtain ⟨r, ents, clock, h1, h2, _⟩ := this
    simp only [blkOf, h1, Option.bind_some, Value.blk, Option.some.injEq] at hb
    subst hb; exact key _ h2
  | hole q g xs i u =>
    obtain ⟨b', o, cap, cells, T, fz, h1, h2, h3, _⟩ := this
    obtain ⟨c, rfl⟩ : ∃ c, cap = c + 1 := ⟨cap - 1, by omega⟩
    simp only [blkOf, h1, Option.bind_some, Value.blk, Option.some.injEq] at hb
    subst hb; exact key _ h3

/-- The world changes where nothing is known of it. -/
theorem HRep.world {B : Base} {X : HS} {h : List SO} (H : HRep B X h) {w' : World} (ho : w'.os = X.w.os) (ht : w'.tape = X.w.tape) (hu : w'.output = X.w.output)
    (hz : X.w.heap.size ≤ w'.heap.size)
    (hk : ∀ b : Nat, X.Ok b → w'.heap[b]? = X.w.heap[b]?)
    (hl : ∀ n o b, nth h n = some o → o.live = true → blkOf X n = some b → w'.heap[b]? = X.w.heap[b]?)
    (hf : ∀ b : Nat, b < B.w.heap.size → ¬ B.own b → w'.heap[b]? = X.w.heap[b]?) : HRep B ⟨X.ρ, X.Ok, w'⟩ h ∧ Ext X ⟨X.ρ, X.Ok, w'⟩ := by
  have E : Ext X ⟨X.ρ, X.Ok, w'⟩ := ⟨fun _ _ e => e, fun _ e => e, hk⟩
  refine ⟨⟨H.len, ?_, H.inj, H.sep, fun b hb => Nat.lt_of_lt_of_le (H.okLt b hb) hz, H.ownNew, H.okOld, H.okNew, ho.trans H.os, ht.trans H.tape, hu.trans H.out, Nat.le_trans H.size hz,
    fun b hb hn => (hf b hb hn).trans (H.fr b hb hn)⟩, E⟩
  intro n o hn
  exact RepO_mono E (fun b hlv hb => hl n o b hn hlv hb) (H.obj n o hn)

/-- An object more, of a block that nothing else names. -/
theorem HRep.adopt {B : Base} {X : HS} {h : List SO} (H : HRep B X h) {val : Value} {o : SO}
    (hb : ∀ b, o.live = true → val.blk = some b → ¬ X.Ok b ∧ (B.own b ∨ B.w.heap.size ≤ b) ∧ ∀ n o', nth h n = some o' → o'.live = true → blkOf X n ≠ some b)
    (ho : RepO ⟨X.ρ ++ [val], X.Ok, X.w⟩ h.length o) : HRep B ⟨X.ρ ++ [val], X.Ok, X.w⟩ (h ++ [o]) ∧ Ext X ⟨X.ρ ++ [val], X.Ok, X.w⟩ := by
  have hlen := H.len
  have E : Ext X ⟨X.ρ ++ [val], X.Ok, X.w⟩ := ⟨fun n v e => by
    show (X.ρ ++ [val])[n]? = some v
    rw [List.getElem?_append_left (List.getElem?_eq_some_iff.1 e).1]; exact e, fun _ e => e, fun _ _ => rfl⟩
  have split : ∀ n o', nth (h ++ [o]) n = some o' → (n < h.length ∧ nth h n = some o') ∨ (n = h.length ∧ o' = o) := by
    intro n o' hn
    rw [nth_eq] at hn
    rcases Nat.lt_or_ge n h.length with hlt | hge
    · rw [List.getElem?_append_left hlt] at hn
      exact .inl ⟨hlt, by rw [nth_eq]; exact hn⟩
    · rw [List.getElem?_append_right hge] at hn
      have : n - h.length = 0 := by
        have := (List.getElem?_eq_some_iff.1 hn).1
        simp at this; omega
      rw [this] at hn
      simp at hn
      exact .inr ⟨by omega, hn.symm⟩
  have blkOld : ∀ n, n < h.length → blkOf ⟨X.ρ ++ [val], X.Ok, X.w⟩ n = blkOf X n := fun n hn => by
    show ((X.ρ ++ [val])[n]?).bind _ = _
    rw [List.getElem?_append_left (by omega)]; rfl
  have blkNew : blkOf ⟨X.ρ ++ [val], X.Ok, X.w⟩ h.length = val.blk := by
    show ((X.ρ ++ [val])[h.length]?).bind _ = _
    rw [← hlen]; simp
  refine ⟨⟨by simp [hlen], ?_, ?_, ?_, H.okLt, ?_, H.okOld, H.okNew, H.os, H.tape, H.out, H.size, H.fr⟩, E⟩
  · intro n o' hn
    rcases split n o' hn with ⟨_, h1⟩ | ⟨rfl, rfl⟩
    · exact RepO_mono E (fun _ _ _ => rfl) (H.obj n o' h1)
    · exact ho
  · intro n m o1 o2 hn hm l1 l2 b b1 b2
    rcases split n o1 hn with ⟨q1, h1⟩ | ⟨rfl, rfl⟩ <;> rcases split m o2 hm with ⟨q2, h2⟩ | ⟨rfl, rfl⟩
    · rw [blkOld _ q1] at b1; rw [blkOld _ q2] at b2
      exact H.inj n m o1 o2 h1 h2 l1 l2 b b1 b2
    · rw [blkOld _ q1] at b1; rw [blkNew] at b2
      exact absurd b1 ((hb b l2 b2).2.2 n o1 h1 l1)
    · rw [blkNew] at b1; rw [blkOld _ q2] at b2
      exact absurd b2 ((hb b l1 b1).2.2 m o2 h2 l2)
    · rfl
  · intro n o1 hn l1 b b1
    rcases split n o1 hn with ⟨q1, h1⟩ | ⟨rfl, rfl⟩
    · rw [blkOld _ q1] at b1; exact H.sep n o1 h1 l1 b b1
    · rw [blkNew] at b1; exact (hb b l1 b1).1
  · intro n o1 b hn l1 b1
    rcases split n o1 hn with ⟨q1, h1⟩ | ⟨rfl, rfl⟩
    · rw [blkOld _ q1] at b1; exact H.ownNew n o1 b h1 l1 b1
    · rw [blkNew] at b1; exact (hb b l1 b1).2.1

theorem nth_setN {α : Type} {l : List α} {n m : Nat} {x y : α} (h : nth (setN l n x) m = some y) : (m = n ∧ y = x) ∨ (m ≠ n ∧ nth l m = some y) := by
  rw [nth_eq, setN_eq, List.getElem?_set] at h
  by_cases e : n = m
  · subst e
    rw [if_pos rfl] at h
    split at h
    · exact .inl ⟨rfl, by simpa using h.symm⟩
    · cases h
  · rw [if_neg e] at h
    exact .inr ⟨fun e' => e e'.symm, by rw [nth_eq]; exact h⟩

/-- An object is let go. -/
theorem HRep.drop {B : Base} {X : HS} {h : List SO} (H : HRep B X h) (n : Nat) : HRep B X (setN h n .dead) := by
  have key : ∀ m o, nth (setN h n .dead) m = some o → (o = .dead) ∨ (m ≠ n ∧ nth h m = some o) := by
    intro m o hm
    rcases nth_setN hm with ⟨_, rfl⟩ | h'
    · exact .inl rfl
    · exact .inr h'
  refine ⟨by rw [setN_eq]; simp [H.len], ?_, ?_, ?_, H.okLt, ?_, H.okOld, H.okNew, H.os, H.tape, H.out, H.size, H.fr⟩
  · intro m o hm
    rcases key m o hm with rfl | ⟨_, h1⟩
    · trivial
    · exact H.obj m o h1
  · intro m1 m2 o1 o2 h1 h2 l1 l2 b b1 b2
    rcases key m1 o1 h1 with rfl | ⟨_, h1'⟩
    · cases l1
    · rcases key m2 o2 h2 with rfl | ⟨_, h2'⟩
      · cases l2
      · exact H.inj m1 m2 o1 o2 h1' h2' l1 l2 b b1 b2
  · intro m o hm l b b1
    rcases key m o hm with rfl | ⟨_, h1⟩
    · cases l
    · exact H.sep m o h1 l b b1
  · intro m o b hm l b1
    rcases key m o hm with rfl | ⟨_, h1⟩
    · cases l
    · exact H.ownNew m o b h1 l b1

/-- A dropped object's block may be read as fixed from now on. -/
theorem HRep.okMore {B : Base} {X : HS} {h : List SO} (H : HRep B X h) (S : Nat → Prop) (hlt : ∀ b, S b → b < X.w.heap.size) (hnew : ∀ b, S b → B.own b ∨ B.w.heap.size ≤ b)
    (hsep : ∀ n o, nth h n = some o → o.live = true → ∀ b, blkOf X n = some b → ¬ S b) :
    HRep B ⟨X.ρ, fun b => X.Ok b ∨ S b, X.w⟩ h ∧ Ext X ⟨X.ρ, fun b => X.Ok b ∨ S b, X.w⟩ := by
  have E : Ext X ⟨X.ρ, fun b => X.Ok b ∨ S b, X.w⟩ := ⟨fun _ _ e => e, fun _ e => .inl e, fun _ _ => rfl⟩
  refine ⟨⟨H.len, fun n o hn => RepO_mono E (fun _ _ _ => rfl) (H.obj n o hn), H.inj, ?_, ?_, H.ownNew, fun b hb => .inl (H.okOld b hb), ?_, H.os, H.tape, H.out, H.size, H.fr⟩, E⟩
  · rintro n o hn l b hb (h1 | h1)
    · exact H.sep n o hn l b hb h1
    · exact hsep n o hn l b hb h1
  · rintro b (h1 | h1)
    · exact H.okLt b h1
    · exact hlt b h1
  · rintro b (h1 | h1)
    · exact H.okNew b h1
    · rcases hnew b h1 with h2 | h2
      · exact .inr (.inr h2)
      · exact .inr (.inl h2)

/-- An object takes a dead one's place, at the same address. -/
theorem HRep.revive {B : Base} {X : HS} {h : List SO} (H : HRep B X h) {n : Nat} {o : SO} (hd : nth h n = some .dead)
    (hb : ∀ b, o.live = true → blkOf X n = some b → ¬ X.Ok b ∧ (B.own b ∨ B.w.heap.size ≤ b) ∧ ∀ m o', nth h m = some o' → o'.live = true → blkOf X m ≠ some b)
    (ho : RepO X n o) : HRep B X (setN h n o) := by
  refine ⟨by rw [setN_eq]; simp [H.len], ?_, ?_, ?_, H.okLt, ?_, H.okOld, H.okNew, H.os, H.tape, H.out, H.size, H.fr⟩
  · intro m o' hm
    rcases nth_setN hm with ⟨rfl, rfl⟩ | ⟨_, h1⟩
    · exact ho
    · exact H.obj m o' h1
  · intro m1 m2 o1 o2 h1 h2 l1 l2 b b1 b2
    rcases nth_setN h1 with ⟨rfl, rfl⟩ | ⟨_, h1'⟩ <;> rcases nth_setN h2 with ⟨rfl, rfl⟩ | ⟨_, h2'⟩
    · rfl
    · exact absurd b2 ((hb b l1 b1).2.2 m2 o2 h2' l2)
    · exact absurd b1 ((hb b l2 b2).2.2 m1 o1 h1' l1)
    · exact H.inj m1 m2 o1 o2 h1' h2' l1 l2 b b1 b2
  · intro m o' hm l b b1
    rcases nth_setN hm with ⟨rfl, rfl⟩ | ⟨_, h1⟩
    · exact (hb b l b1).1
    · exact H.sep m o' h1 l b b1
  · intro m o' b hm l b1
    rcases nth_setN hm with ⟨rfl, rfl⟩ | ⟨_, h1⟩
    · exact (hb b l b1).2.1
    · exact H.ownNew m o' b h1 l b1

end Go.Eng
