/- The engine, part 3: what symbolic values and objects stand for in the model's memory. -/
import Derived.Test.YtondjihmmjjinaaE2
namespace Go.Eng
open Go
set_option linter.unusedVariables false
set_option linter.unusedSimpArgs false

/-- A value of one cell. -/
def _root_.Go.Value.oneC : Value → Bool
  | .agg _ => false
  | .tuple _ => false
  | _ => true

def cellAt (hp : Array Obj) (b off : Nat) : Option Value :=
  match hp[b]? with
  | some (.cells c _ _) => c[off]?
  | _ => none

def RowRep (Ok : Nat → Prop) (hp : Array Obj) {α : Type} (sz : Nat) (R : α → List Value → Prop) (base : Option Addr) (xs : List α) : Prop :=
  match base with
  | none => xs = []
  | some a => ∀ (i : Nat) (x : α), xs[i]? = some x → ∃ cs, R x cs ∧ (0 < sz → Ok a.block ∧ a.spot = none) ∧
      ∀ (j : Nat) (v : Value), cs[j]? = some v → cellAt hp a.block (a.off + i * sz + j) = some v

/-- The cells that hold a value of plain data. -/
def RepD (Ok : Nat → Prop) (hp : Array Obj) : (g : GT) → g.ty → List Value → Prop
  | .int k, n, cs => cs = [.int k n]
  | .bool, b, cs => cs = [.bool b]
  | .str, l, cs => cs = [.string ⟨List.toArray l⟩]
  | .nil, _, cs => cs = []
  | .cons a b, x, cs => ∃ c1 c2, cs = c1 ++ c2 ∧ RepD Ok hp a x.1 c1 ∧ RepD Ok hp b x.2 c2
  | .sl t, xs, cs => ∃ base cap, cs = [.slice base (List.length xs) cap] ∧ List.length xs ≤ cap ∧ (base = none → cap = 0) ∧
      RowRep Ok hp t.size (RepD Ok hp t) base xs
  | .opq, v, cs => cs = [v] ∧ Value.oneC v = true

theorem RepD_len {Ok : Nat → Prop} {hp : Array Obj} : ∀ (g : GT) (x : g.ty) (cs : List Value), RepD Ok hp g x cs → cs.length = g.size
  | .int k, n, cs, h => by simp only [RepD] at h; simp [h, GT.size]
  | .bool, n, cs, h => by simp only [RepD] at h; simp [h, GT.size]
  | .str, n, cs, h => by simp only [RepD] at h; simp [h, GT.size]
  | .nil, n, cs, h => by simp only [RepD] at h; simp [h, GT.size]
  | .cons a b, x, cs, h => by
    obtain ⟨c1, c2, rfl, h1, h2⟩ := h
    simp [GT.size, RepD_len a x.1 c1 h1, RepD_len b x.2 c2 h2]
  | .sl t, xs, cs, h => by obtain ⟨_, _, rfl, _⟩ := h; simp [GT.size]
  | .opq, v, cs, h => by obtain ⟨rfl, _⟩ := h; simp [GT.size]

theorem cellAt_congr {hp hp' : Array Obj} {b : Nat} (h : hp'[b]? = hp[b]?) (off : Nat) : cellAt hp' b off = cellAt hp b off := by
  unfold cellAt; rw [h]

theorem RowRep_mono {Ok Ok' : Nat → Prop} {hp hp' : Array Obj} {α : Type} {sz : Nat} {R R' : α → List Value → Prop} {base : Option Addr} {xs : List α}
    (hO : ∀ b, Ok b → Ok' b) (hs : ∀ b, Ok b → hp'[b]? = hp[b]?) (hR : ∀ x cs, R x cs → R' x cs) (hl : ∀ x cs, R x cs → cs.length = sz)
    (h : RowRep Ok hp sz R base xs) : RowRep Ok' hp' sz R' base xs := by
  cases base with
  | none => exact h
  | some a =>
    intro i x hx
    obtain ⟨cs, h1, h2, h3⟩ := h i x hx
    refine ⟨cs, hR _ _ h1, fun hz => ⟨hO _ (h2 hz).1, (h2 hz).2⟩, fun j v hj => ?_⟩
    have hz : 0 < sz := by
      rw [← hl _ _ h1]
      exact Nat.lt_of_le_of_lt (Nat.zero_le j) (List.getElem?_eq_some_iff.1 hj).1
    rw [cellAt_congr (hs _ (h2 hz).1)]
    exact h3 j v hj

theorem RepD_mono {Ok Ok' : Nat → Prop} {hp hp' : Array Obj} (hO : ∀ b, Ok b → Ok' b) (hs : ∀ b, Ok b → hp'[b]? = hp[b]?) :
    ∀ (g : GT) (x : g.ty) (cs : List Value), RepD Ok hp g x cs → RepD Ok' hp' g x cs
  | .int k, n, cs, h => h
  | .bool, n, cs, h => h
  | .str, n, cs, h => h
  | .nil, n, cs, h => h
  | .cons a b, x, cs, h => by
    obtain ⟨c1, c2, rfl, h1, h2⟩ := h
    exact ⟨c1, c2, rfl, RepD_mono hO hs a x.1 c1 h1, RepD_mono hO hs b x.2 c2 h2⟩
  | .sl t, xs, cs, h => by
    obtain ⟨base, cap, rfl, h1, h2, h3⟩ := h
    exact ⟨base, cap, rfl, h1, h2, RowRep_mono hO hs (fun x cs => RepD_mono hO hs t x cs) (fun x cs => RepD_len t x cs) h3⟩
  | .opq, v, cs, h => h

/-- Flat data lies in its cells whole. -/
theorem RepD_flat {Ok Ok' : Nat → Prop} {hp hp' : Array Obj} : ∀ (g : GT) (x : g.ty) (cs : List Value), g.flat = true → RepD Ok hp g x cs → RepD Ok' hp' g x cs
  | .int k, n, cs, _, h => h
  | .bool, n, cs, _, h => h
  | .str, n, cs, _, h => h
  | .nil, n, cs, _, h => h
  | .cons a b, x, cs, hf, h => by
    obtain ⟨c1, c2, rfl, h1, h2⟩ := h
    simp only [GT.flat, Bool.and_eq_true] at hf
    exact ⟨c1, c2, rfl, RepD_flat a x.1 c1 hf.1 h1, RepD_flat b x.2 c2 hf.2 h2⟩
  | .sl t, xs, cs, hf, h => by simp [GT.flat] at hf
  | .opq, v, cs, _, h => h

/-- The cells of plain data are values of one cell. -/
theorem RepD_one {Ok : Nat → Prop} {hp : Array Obj} : ∀ (g : GT) (x : g.ty) (cs : List Value), RepD Ok hp g x cs → ∀ v ∈ cs, v.oneC = true
  | .int k, n, cs, h => by simp only [RepD] at h; subst h; simp [Value.oneC]
  | .bool, n, cs, h => by simp only [RepD] at h; subst h; simp [Value.oneC]
  | .str, n, cs, h => by simp only [RepD] at h; subst h; simp [Value.oneC]
  | .nil, n, cs, h => by simp only [RepD] at h; subst h; simp
  | .cons a b, x, cs, h => by
    obtain ⟨c1, c2, rfl, h1, h2⟩ := h
    intro v hv
    rcases List.mem_append.1 hv with hv | hv
    · exact RepD_one a x.1 c1 h1 v hv
    · exact RepD_one b x.2 c2 h2 v hv
  | .sl t, xs, cs, h => by obtain ⟨_, _, rfl, _⟩ := h; simp [Value.oneC]
  | .opq, v, cs, h => by obtain ⟨rfl, h⟩ := h; simpa using h

def mkV (ag : Bool) (cs : List Value) : Value := match ag with
  | true => .agg cs.toArray
  | false => cs.headD undef

inductive Md where
  | cells | val | vals

/-- What is known of the memory: where the objects lie, which blocks stay as they are, the world. -/
structure HS where
  ρ : List Value
  Ok : Nat → Prop
  w : World

/-- A symbolic value stands for cells, for one value, for a list of values. -/
def Rep (X : HS) : SV → Md → List Value → Prop
  | .dat g x, .cells, vs => RepD X.Ok X.w.heap g x vs
  | .dat g x, _, vs => ∃ cs, RepD X.Ok X.w.heap g x cs ∧ vs = [mkV g.isAgg cs]
  | .nils, _, vs => vs = [.slice none 0 0]
  | .emp, _, vs => ∃ b, vs = [.slice b 0 0]
  | .nilp, _, vs => vs = [.pointer none]
  | .nilm, _, vs => vs = [.map none]
  | .nilfn, _, vs => vs = [.nilFunc]
  | .nsl g xs, _, vs => RepD X.Ok X.w.heap (.sl g) xs vs ∧ (xs = [] → vs = [.slice none 0 0])
  | .box n _ off, _, vs => ∃ b, X.ρ[n]? = some (.pointer (some ⟨b, 0, none⟩)) ∧ vs = [.pointer (some ⟨b, off, none⟩)]
  | .el n g i _ off, _, vs => ∃ b o len cap, X.ρ[n]? = some (.slice (some ⟨b, o, none⟩) len cap) ∧ vs = [.pointer (some ⟨b, o + i * g.size + off, none⟩)]
  | .rd g x, _, vs => ∃ a cs, RepD X.Ok X.w.heap g x cs ∧ vs = [.pointer (some a)] ∧ a.spot = none ∧ X.Ok a.block ∧
      ∀ (j : Nat) (v : Value), cs[j]? = some v → cellAt X.w.heap a.block (a.off + j) = some v
  | .own n, _, vs => ∃ v, X.ρ[n]? = some v ∧ vs = [v] ∧ v.oneC = true
  | .mp n, _, vs => ∃ v, X.ρ[n]? = some v ∧ vs = [v] ∧ v.oneC = true
  | .vw n g lo len, _, vs => ∃ base l cap base' c, X.ρ[n]? = some (.slice base l cap) ∧ vs = [.slice base' len c] ∧ (0 < len → ∃ b o, base = some ⟨b, o, none⟩ ∧ base' = some ⟨b, o + lo * g.size, none⟩) ∧ (base' = none → c = 0) ∧ len ≤ c ∧ lo + len ≤ l
  | .fn f caps, _, vs => ∃ us, Rep X caps .vals us ∧ vs = [.func (.func f) #[] us.toArray]
  | .snil, _, vs => vs = []
  | .scons a b, .cells, vs => ∃ c1 c2, vs = c1 ++ c2 ∧ Rep X a .cells c1 ∧ Rep X b .cells c2
  | .scons a b, _, vs => ∃ v c2, vs = v :: c2 ∧ Rep X a .val [v] ∧ Rep X b .vals c2
  | .agg l, .cells, vs => Rep X l .cells vs
  | .agg l, _, vs => ∃ cs, Rep X l .cells cs ∧ vs = [.agg cs.toArray]
  | .tup _, .cells, _ => False
  | .tup l, _, vs => ∃ us, Rep X l .vals us ∧ vs = [.tuple us.toArray]

/-- More is known, and nothing that was known is lost. -/
structure Ext (X Y : HS) : Prop where
  ρ : ∀ (n : Nat) (v : Value), X.ρ[n]? = some v → Y.ρ[n]? = some v
  ok : ∀ b, X.Ok b → Y.Ok b
  st : ∀ b, X.Ok b → Y.w.heap[b]? = X.w.heap[b]?

theorem Ext.refl (X : HS) : Ext X X := ⟨fun _ _ h => h, fun _ h => h, fun _ _ => rfl⟩
theorem Ext.trans {X Y Z : HS} (h : Ext X Y) (k : Ext Y Z) : Ext X Z :=
  ⟨fun n v e => k.ρ n v (h.ρ n v e), fun b e => k.ok b (h.ok b e), fun b e => (k.st b (h.ok b e)).trans (h.st b e)⟩

theorem Rep_mono {X Y : HS} (hx : Ext X Y) : ∀ (v : SV) (m : Md) (vs : List Value), Rep X v m vs → Rep Y v m vs
  | .dat g x, .cells, vs, h => RepD_mono hx.ok hx.st g x vs h
  | .dat g x, .val, vs, h => let ⟨cs, h1, h2⟩ := h; ⟨cs, RepD_mono hx.ok hx.st g x cs h1, h2⟩
  | .dat g x, .vals, vs, h => let ⟨cs, h1, h2⟩ := h; ⟨cs, RepD_mono hx.ok hx.st g x cs h1, h2⟩
  | .nils, _, vs, h => h
  | .emp, _, vs, h => h
  | .nilp, _, vs, h => h
  | .nilm, _, vs, h => h
  | .nilfn, _, vs, h => h
  | .nsl g xs, _, vs, h => ⟨RepD_mono hx.ok hx.st (.sl g) xs vs h.1, h.2⟩
  | .box n _ off, _, vs, h => let ⟨b, h1, h2⟩ := h; ⟨b, hx.ρ _ _ h1, h2⟩
  | .el n g i _ off, _, vs, h => let ⟨b, o, len, cap, h1, h2⟩ := h; ⟨b, o, len, cap, hx.ρ _ _ h1, h2⟩
  | .rd g x, _, vs, h => by
    obtain ⟨a, cs, h1, h2, h3, h4, h5⟩ := h
    refine ⟨a, cs, RepD_mono hx.ok hx.st g x cs h1, h2, h3, hx.ok _ h4, fun j v hj => ?_⟩
    rw [cellAt_congr (hx.st _ h4)]; exact h5 j v hj
  | .own n, _, vs, h => let ⟨v, h1, h2⟩ := h; ⟨v, hx.ρ _ _ h1, h2⟩
  | .mp n, _, vs, h => let ⟨v, h1, h2⟩ := h; ⟨v, hx.ρ _ _ h1, h2⟩
  | .vw n g lo len, _, vs, h => let ⟨base, l, cap, b', c, h1, h2⟩ := h; ⟨base, l, cap, b', c, hx.ρ _ _ h1, h2⟩
  | .fn f caps, _, vs, h => let ⟨us, h1, h2⟩ := h; ⟨us, Rep_mono hx caps _ us h1, h2⟩
  | .snil, _, vs, h => h
  | .scons a b, .cells, vs, h => let ⟨c1, c2, h0, h1, h2⟩ := h; ⟨c1, c2, h0, Rep_mono hx a _ c1 h1, Rep_mono hx b _ c2 h2⟩
  | .scons a b, .val, vs, h => let ⟨c1, c2, h0, h1, h2⟩ := h; ⟨c1, c2, h0, Rep_mono hx a _ _ h1, Rep_mono hx b _ c2 h2⟩
  | .scons a b, .vals, vs, h => let ⟨c1, c2, h0, h1, h2⟩ := h; ⟨c1, c2, h0, Rep_mono hx a _ _ h1, Rep_mono hx b _ c2 h2⟩
  | .agg l, .cells, vs, h => Rep_mono hx l .cells vs h
  | .agg l, .val, vs, h => let ⟨cs, h1, h2⟩ := h; ⟨cs, Rep_mono hx l _ cs h1, h2⟩
  | .agg l, .vals, vs, h => let ⟨cs, h1, h2⟩ := h; ⟨cs, Rep_mono hx l _ cs h1, h2⟩
  | .tup l, .cells, vs, h => h.elim
  | .tup l, .val, vs, h => let ⟨us, h1, h2⟩ := h; ⟨us, Rep_mono hx l _ us h1, h2⟩
  | .tup l, .vals, vs, h => let ⟨us, h1, h2⟩ := h; ⟨us, Rep_mono hx l _ us h1, h2⟩

theorem Rep_len {X : HS} : ∀ (v : SV) (cs : List Value), Rep X v .cells cs → cs.length = v.size
  | .dat g x, vs, h => RepD_len g x vs h
  | .nils, vs, h => by simp only [Rep] at h; simp [h, SV.size]
  | .emp, vs, h => by obtain ⟨b, rfl⟩ := h; simp [SV.size]
  | .nilp, vs, h => by simp only [Rep] at h; simp [h, SV.size]
  | .nilm, vs, h => by simp only [Rep] at h; simp [h, SV.size]
  | .nilfn, vs, h => by simp only [Rep] at h; simp [h, SV.size]
  | .nsl g xs, vs, h => RepD_len (.sl g) xs vs h.1
  | .box n _ off, vs, h => by obtain ⟨b, _, rfl⟩ := h; simp [SV.size]
  | .el n g i _ off, vs, h => by obtain ⟨_, _, _, _, _, rfl⟩ := h; simp [SV.size]
  | .rd g x, vs, h => by obtain ⟨_, _, _, rfl, _⟩ := h; simp [SV.size]
  | .own n, vs, h => by obtain ⟨_, _, rfl, _⟩ := h; simp [SV.size]
  | .mp n, vs, h => by obtain ⟨_, _, rfl, _⟩ := h; simp [SV.size]
  | .vw n g lo len, vs, h => by obtain ⟨_, _, _, _, _, _, rfl, _⟩ := h; simp [SV.size]
  | .fn f caps, vs, h => by obtain ⟨_, _, rfl⟩ := h; simp [SV.size]
  | .snil, vs, h => by simp only [Rep] at h; simp [h, SV.size]
  | .scons a b, vs, h => by
    obtain ⟨c1, c2, rfl, h1, h2⟩ := h
    simp [SV.size, Rep_len a c1 h1, Rep_len b c2 h2]
  | .agg l, vs, h => Rep_len l vs h
  | .tup l, vs, h => h.elim

theorem Rep_one {X : HS} : ∀ (v : SV) (cs : List Value), Rep X v .cells cs → ∀ u ∈ cs, u.oneC = true
  | .dat g x, vs, h => RepD_one g x vs h
  | .nils, vs, h => by simp only [Rep] at h; simp [h, Value.oneC]
  | .emp, vs, h => by obtain ⟨b, rfl⟩ := h; simp [Value.oneC]
  | .nilp, vs, h => by simp only [Rep] at h; simp [h, Value.oneC]
  | .nilm, vs, h => by simp only [Rep] at h; simp [h, Value.oneC]
  | .nilfn, vs, h => by simp only [Rep] at h; simp [h, Value.oneC]
  | .nsl g xs, vs, h => RepD_one (.sl g) xs vs h.1
  | .box n _ off, vs, h => by obtain ⟨b, _, rfl⟩ := h; simp [Value.oneC]
  | .el n g i _ off, vs, h => by obtain ⟨_, _, _, _, _, rfl⟩ := h; simp [Value.oneC]
  | .rd g x, vs, h => by obtain ⟨_, _, _, rfl, _⟩ := h; simp [Value.oneC]
  | .own n, vs, h => by obtain ⟨v, _, rfl, h1⟩ := h; simp [h1]
  | .mp n, vs, h => by obtain ⟨v, _, rfl, h1⟩ := h; simp [h1]
  | .vw n g lo len, vs, h => by obtain ⟨_, _, _, _, _, _, rfl, _⟩ := h; simp [Value.oneC]
  | .fn f caps, vs, h => by obtain ⟨_, _, rfl⟩ := h; simp [Value.oneC]
  | .snil, vs, h => by simp only [Rep] at h; simp [h]
  | .scons a b, vs, h => by
    obtain ⟨c1, c2, rfl, h1, h2⟩ := h
    intro u hu
    rcases List.mem_append.1 hu with hu | hu
    · exact Rep_one a c1 h1 u hu
    · exact Rep_one b c2 h2 u hu
  | .agg l, vs, h => Rep_one l vs h
  | .tup l, vs, h => h.elim

/-- What may stand in a variable. -/
theorem Rep_val_one {X : HS} : ∀ (v : SV) (vs : List Value), v.stor = true → Rep X v .val vs → ∃ u, vs = [u] ∧ Rep X v .cells u.cells.toList ∧ u = mkV v.isAgg u.cells.toList
  | .dat g x, vs, _, h => by
    obtain ⟨cs, h1, rfl⟩ := h
    refine ⟨_, rfl, ?_⟩
    cases hg : g.isAgg with
    | true => simp only [mkV, Value.cells, SV.isAgg, hg]; exact ⟨h1, trivial⟩
    | false =>
      have hl := RepD_len g x cs h1
      have ho := RepD_one g x cs h1
      have h1' : g.size = 1 := by cases g <;> simp_all [GT.isAgg, GT.size]
      rw [h1'] at hl
      match cs, hl with
      | [c], _ =>
        have hc : c.cells = #[c] := by
          have := ho c (by simp)
          cases c <;> simp_all [Value.oneC, Value.cells]
        simp only [mkV, List.headD_cons, hc, SV.isAgg, hg]
        exact ⟨h1, trivial⟩
  | .nils, vs, _, h => by simp only [Rep] at h; subst h; exact ⟨_, rfl, by simp [Rep, Value.cells], by simp [mkV, SV.isAgg, Value.cells]⟩
  | .emp, vs, _, h => by obtain ⟨b, rfl⟩ := h; exact ⟨_, rfl, by simp [Rep, Value.cells], by simp [mkV, SV.isAgg, Value.cells]⟩
  | .nilp, vs, _, h => by simp only [Rep] at h; subst h; exact ⟨_, rfl, by simp [Rep, Value.cells], by simp [mkV, SV.isAgg, Value.cells]⟩
  | .nilm, vs, _, h => by simp only [Rep] at h; subst h; exact ⟨_, rfl, by simp [Rep, Value.cells], by simp [mkV, SV.isAgg, Value.cells]⟩
  | .nilfn, vs, _, h => by simp only [Rep] at h; subst h; exact ⟨_, rfl, by simp [Rep, Value.cells], by simp [mkV, SV.isAgg, Value.cells]⟩
  | .nsl g xs, vs, _, h => by
    obtain ⟨h1, h2⟩ := h
    obtain ⟨base, cap, rfl, h3⟩ := h1
    exact ⟨_, rfl, ⟨⟨base, cap, by simp [Value.cells], h3⟩, fun e => by simpa [Value.cells] using h2 e⟩, by simp [mkV, SV.isAgg, Value.cells]⟩
  | .box n _ off, vs, _, h => by
    obtain ⟨b, h1, rfl⟩ := h
    exact ⟨_, rfl, ⟨b, h1, by simp [Value.cells]⟩, by simp [mkV, SV.isAgg, Value.cells]⟩
  | .el n g i _ off, vs, _, h => by
    obtain ⟨b, o, len, cap, h1, rfl⟩ := h
    exact ⟨_, rfl, ⟨b, o, len, cap, h1, by simp [Value.cells]⟩, by simp [mkV, SV.isAgg, Value.cells]⟩
  | .rd g x, vs, _, h => by
    obtain ⟨a, cs, h1, rfl, h2⟩ := h
    exact ⟨_, rfl, ⟨a, cs, h1, by simp [Value.cells], h2⟩, by simp [mkV, SV.isAgg, Value.cells]⟩
  | .own n, vs, _, h => by
    obtain ⟨v, h1, rfl, h2⟩ := h
    have hc : v.cells = #[v] := by cases v <;> simp_all [Value.oneC, Value.cells]
    exact ⟨_, rfl, ⟨v, h1, by simp [hc], h2⟩, by simp [mkV, SV.isAgg, hc]⟩
  | .mp n, vs, _, h => by
    obtain ⟨v, h1, rfl, h2⟩ := h
    have hc : v.cells = #[v] := by cases v <;> simp_all [Value.oneC, Value.cells]
    exact ⟨_, rfl, ⟨v, h1, by simp [hc], h2⟩, by simp [mkV, SV.isAgg, hc]⟩
  | .vw n g lo len, vs, _, h => by
    obtain ⟨base, l, cap, b', c, h1, rfl, h2⟩ := h
    exact ⟨_, rfl, ⟨base, l, cap, b', c, h1, by simp [Value.cells], h2⟩, by simp [mkV, SV.isAgg, Value.cells]⟩
  | .fn f caps, vs, _, h => by
    obtain ⟨us, h1, rfl⟩ := h
    exact ⟨_, rfl, ⟨us, h1, by simp [Value.cells]⟩, by simp [mkV, SV.isAgg, Value.cells]⟩
  | .snil, vs, hs, h => by simp [SV.stor] at hs
  | .scons a b, vs, hs, h => by simp [SV.stor] at hs
  | .agg l, vs, _, h => by
    obtain ⟨cs, h1, rfl⟩ := h
    exact ⟨_, rfl, by simpa [Rep, Value.cells] using h1, by simp [mkV, SV.isAgg, Value.cells]⟩
  | .tup l, vs, hs, h => by simp [SV.stor] at hs

theorem Rep_of_cells {X : HS} : ∀ (v : SV) (cs : List Value), v.stor = true → Rep X v .cells cs → Rep X v .val [mkV v.isAgg cs]
  | .dat g x, vs, _, h => ⟨vs, h, rfl⟩
  | .nils, vs, _, h => by simp only [Rep] at h; subst h; simp [Rep, mkV, SV.isAgg]
  | .emp, vs, _, h => by obtain ⟨b, rfl⟩ := h; simp [Rep, mkV, SV.isAgg]
  | .nilp, vs, _, h => by simp only [Rep] at h; subst h; simp [Rep, mkV, SV.isAgg]
  | .nilm, vs, _, h => by simp only [Rep] at h; subst h; simp [Rep, mkV, SV.isAgg]
  | .nilfn, vs, _, h => by simp only [Rep] at h; subst h; simp [Rep, mkV, SV.isAgg]
  | .nsl g xs, vs, _, h => by
    obtain ⟨h1, h2⟩ := h
    obtain ⟨base, cap, rfl, h3⟩ := h1
    exact ⟨⟨base, cap, by simp [mkV, SV.isAgg], h3⟩, fun e => by simpa [mkV, SV.isAgg] using h2 e⟩
  | .box n _ off, vs, _, h => by obtain ⟨b, h1, rfl⟩ := h; exact ⟨b, h1, by simp [mkV, SV.isAgg]⟩
  | .el n g i _ off, vs, _, h => by obtain ⟨b, o, len, cap, h1, rfl⟩ := h; exact ⟨b, o, len, cap, h1, by simp [mkV, SV.isAgg]⟩
  | .rd g x, vs, _, h => by obtain ⟨a, cs, h1, rfl, h2⟩ := h; exact ⟨a, cs, h1, by simp [mkV, SV.isAgg], h2⟩
  | .own n, vs, _, h => by obtain ⟨v, h1, rfl, h2⟩ := h; exact ⟨v, h1, by simp [mkV, SV.isAgg], h2⟩
  | .mp n, vs, _, h => by obtain ⟨v, h1, rfl, h2⟩ := h; exact ⟨v, h1, by simp [mkV, SV.isAgg], h2⟩
  | .vw n g lo len, vs, _, h => by obtain ⟨base, l, cap, b', c, h1, rfl, h2⟩ := h; exact ⟨base, l, cap, b', c, h1, by simp [mkV, SV.isAgg], h2⟩
  | .fn f caps, vs, _, h => by obtain ⟨us, h1, rfl⟩ := h; exact ⟨us, h1, by simp [mkV, SV.isAgg]⟩
  | .snil, vs, hs, h => by simp [SV.stor] at hs
  | .scons a b, vs, hs, h => by simp [SV.stor] at hs
  | .agg l, vs, _, h => ⟨vs, h, by simp [mkV, SV.isAgg]⟩
  | .tup l, vs, hs, h => by simp [SV.stor] at hs

/-! ### Parts of structs -/

theorem Rep_parts {X : HS} : ∀ (g : GT) (x : g.ty) (cs : List Value), g.isAgg = true → RepD X.Ok X.w.heap g x cs → GT.chain g = true → Rep X (parts g x) .cells cs
  | .int k, n, cs, h, _, _ => by simp [GT.isAgg] at h
  | .bool, n, cs, h, _, _ => by simp [GT.isAgg] at h
  | .str, n, cs, h, _, _ => by simp [GT.isAgg] at h
  | .sl t, n, cs, h, _, _ => by simp [GT.isAgg] at h
  | .opq, n, cs, h, _, _ => by simp [GT.isAgg] at h
  | .nil, n, cs, _, h, _ => h
  | .cons a b, x, cs, _, h, hc => by
    obtain ⟨c1, c2, rfl, h1, h2⟩ := h
    simp only [GT.chain] at hc
    refine ⟨c1, c2, rfl, h1, ?_⟩
    cases b with
    | nil => exact Rep_parts .nil x.2 c2 rfl h2 rfl
    | cons c d => exact Rep_parts (.cons c d) x.2 c2 rfl h2 hc
    | _ => simp [GT.chain] at hc

theorem pack_rep {X : HS} : ∀ (l : SV) (g : GT) (x : g.ty) (cs : List Value), pack? l = some ⟨g, x⟩ → Rep X l .cells cs → RepD X.Ok X.w.heap g x cs
  | .snil, g, x, cs, h, hr => by
    simp only [pack?, Option.some.injEq] at h
    cases h
    exact hr
  | .scons (.dat a y) b, g, x, cs, h, hr => by
    simp only [pack?] at h
    split at h
    · rename_i g' z hz
      simp only [Option.some.injEq] at h
      cases h
      obtain ⟨c1, c2, rfl, h1, h2⟩ := hr
      exact ⟨c1, c2, rfl, h1, pack_rep b g' z c2 hz h2⟩
    · cases h

theorem mkAgg_rep {X : HS} {l : SV} {cs : List Value} (h : Rep X l .cells cs) : Rep X (mkAgg l) .cells cs := by
  unfold mkAgg
  split
  · rename_i g x hp; exact pack_rep l g x cs hp h
  · exact h

end Go.Eng
