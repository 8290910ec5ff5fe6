/- The engine, part 10: literals, make, append, conversions. -/
import Derived.Test.YtondjihmmjjinaaE9
namespace Go.Eng
open Go
set_option linter.unusedVariables false
set_option linter.unusedSimpArgs false

/-! ### The cells of a list -/

theorem row_cells {α : Type} {R : α → List Value → Prop} {sz : Nat} (hlen : ∀ x cs, R x cs → cs.length = sz) : ∀ (xs : List α) (f : Nat → Option Value) (o : Nat),
    (∀ (i : Nat) (x : α), xs[i]? = some x → ∃ cs, R x cs ∧ ∀ (j : Nat) (v : Value), cs[j]? = some v → f (o + i * sz + j) = some v) →
    ∃ news : List Value, news.length = xs.length * sz ∧
      (∀ (i : Nat) (x : α), xs[i]? = some x → ∃ cs, R x cs ∧ ∀ (j : Nat) (v : Value), cs[j]? = some v → news[i * sz + j]? = some v) ∧
      (∀ (j : Nat) (v : Value), news[j]? = some v → f (o + j) = some v)
  | [], f, o, _ => ⟨[], by simp, by simp, by simp⟩
  | x :: xs, f, o, h => by
    obtain ⟨c0, r0, k0⟩ := h 0 x rfl
    have hl := hlen x c0 r0
    obtain ⟨news, n1, n2, n3⟩ := row_cells hlen xs f (o + sz) (fun i y hy => by
      obtain ⟨cs, r, k⟩ := h (i + 1) y (by simpa using hy)
      refine ⟨cs, r, fun j v hj => ?_⟩
      have := k j v hj
      rw [Nat.add_mul, Nat.one_mul] at this
      rw [← this]
      congr 1
      omega)
    refine ⟨c0 ++ news, by simp [n1, hl, Nat.add_mul, Nat.add_comm], ?_, ?_⟩
    · intro i y hy
      cases i with
      | zero =>
        simp only [List.getElem?_cons_zero, Option.some.injEq] at hy
        subst hy
        refine ⟨c0, r0, fun j v hj => ?_⟩
        rw [Nat.zero_mul, Nat.zero_add, List.getElem?_append_left (List.getElem?_eq_some_iff.1 hj).1]
        exact hj
      | succ i =>
        obtain ⟨cs, r, k⟩ := n2 i y (by simpa using hy)
        refine ⟨cs, r, fun j v hj => ?_⟩
        rw [List.getElem?_append_right (by rw [Nat.add_mul]; omega)]
        rw [← k j v hj]
        congr 1
        rw [Nat.add_mul]
        omega
    · intro j v hj
      by_cases hjl : j < c0.length
      · rw [List.getElem?_append_left hjl] at hj
        have := k0 j v hj
        simpa using this
      · rw [List.getElem?_append_right (by omega)] at hj
        have := n3 _ v hj
        rw [← this]
        congr 1
        omega

/-- A slice value's elements, as one list of cells. -/
structure Elems (X : HS) (g : GT) (ys : List g.ty) (news : List Value) : Prop where
  len : news.length = ys.length * g.size
  at' : ∀ (i : Nat) (y : g.ty), ys[i]? = some y → ∃ cs, RepD X.Ok X.w.heap g y cs ∧ ∀ (j : Nat) (v : Value), cs[j]? = some v → news[i * g.size + j]? = some v

theorem Elems.one {X : HS} {g : GT} {ys : List g.ty} {news : List Value} (h : Elems X g ys news) : ∀ v ∈ news, v.oneC = true := by
  intro v hv
  obtain ⟨k, hk⟩ := List.getElem?_of_mem hv
  have hlt := (List.getElem?_eq_some_iff.1 hk).1
  rw [h.len] at hlt
  have hs : 0 < g.size := by
    rcases Nat.eq_zero_or_pos g.size with e | e
    · rw [e] at hlt; simp at hlt
    · exact e
  have hi : k / g.size < ys.length := Nat.div_lt_of_lt_mul (by rw [Nat.mul_comm]; exact hlt)
  obtain ⟨cs, r, c⟩ := h.at' (k / g.size) _ (List.getElem?_eq_getElem hi)
  have hl := RepD_len g _ cs r
  have hm : k % g.size < cs.length := by rw [hl]; exact Nat.mod_lt _ hs
  have := c (k % g.size) _ (List.getElem?_eq_getElem hm)
  rw [Nat.mul_comm, Nat.div_add_mod, hk] at this
  cases this
  exact RepD_one g _ cs r _ (List.getElem_mem hm)

theorem listV_cells {P : Program} {B : Base} {X : HS} {h : List SO} (H : HRep B X h) {g : GT} (hs : 0 < g.size) {x : SV} {xv : Value} {ys : List g.ty} (hx : Rep X x .val [xv]) (hc : listV h x g = some ys) :
    ∃ base cap news, xv = .slice base ys.length cap ∧ (Builtin.firstCells g.size ys.length xv).run P X.w = .ok news.toArray X.w ∧ Elems X g ys news := by
  have nil : ∀ base cap, ∃ base' cap' news, (Value.slice base 0 cap) = .slice base' ([] : List g.ty).length cap' ∧ (Builtin.firstCells g.size ([] : List g.ty).length (.slice base 0 cap)).run P X.w = .ok (news : List Value).toArray X.w ∧ Elems X g [] news := by
    intro base cap
    refine ⟨base, cap, [], rfl, ?_, ⟨by simp, by simp⟩⟩
    cases base <;> simp [Builtin.firstCells, loadCells, loadCellsFrom]
  have some_ : ∀ (a : Addr) cap, (∀ (i : Nat) (y : g.ty), ys[i]? = some y → ∃ cs, RepD X.Ok X.w.heap g y cs ∧ a.spot = none ∧ ∀ (j : Nat) (v : Value), cs[j]? = some v → cellAt X.w.heap a.block (a.off + i * g.size + j) = some v) →
      ∃ base' cap' news, (Value.slice (some a) ys.length cap) = .slice base' ys.length cap' ∧ (Builtin.firstCells g.size ys.length (.slice (some a) ys.length cap)).run P X.w = .ok (news : List Value).toArray X.w ∧ Elems X g ys news := by
    intro a cap hk
    obtain ⟨news, n1, n2, n3⟩ := row_cells (R := RepD X.Ok X.w.heap g) (fun y cs r => RepD_len g y cs r) ys (cellAt X.w.heap a.block) a.off (fun i y hy => by
      obtain ⟨cs, r, _, k⟩ := hk i y hy
      exact ⟨cs, r, k⟩)
    refine ⟨_, cap, news, rfl, ?_, ⟨n1, n2⟩⟩
    refine run_firstCells_some X.w g.size ys.length a ys.length cap news n1 (fun j v hj => ?_)
    have hsp : a.spot = none := by
      cases ys with
      | nil => simp at n1; subst n1; simp at hj
      | cons y ys => obtain ⟨_, _, e, _⟩ := hk 0 y rfl; exact e
    rw [add_none hsp, cell_cellAt]
    exact n3 j v hj
  unfold listV at hc
  split at hc
  · rename_i g' xs
    obtain ⟨e, rfl⟩ := castD_some hc
    cases e
    obtain ⟨cs, ⟨base, cap, rfl, hcap, hb0, hrow⟩, hxv⟩ := hx
    simp only [GT.isAgg, mkV, List.headD_cons, List.cons.injEq, and_true] at hxv
    subst hxv
    cases base with
    | none =>
      have : xs = [] := hrow
      subst this
      exact nil _ _
    | some a =>
      refine some_ a cap (fun i y hy => ?_)
      obtain ⟨cs, q1, q2, q3⟩ := hrow i y hy
      exact ⟨cs, q1, (q2 hs).2, q3⟩
  · cases hc
    simp only [Rep, List.cons.injEq, and_true] at hx
    subst hx
    exact nil _ _
  · cases hc
    obtain ⟨b, hb⟩ := hx
    simp only [List.cons.injEq, and_true] at hb
    subst hb
    exact nil _ _
  · rename_i n
    split at hc
    · rename_i g' xs hn
      obtain ⟨e, rfl⟩ := castD_some hc
      cases e
      obtain ⟨v, hv1, hv2, _⟩ := hx
      cases hv2
      rcases H.obj n _ hn with ⟨base, k1, k2⟩ | ⟨b, o, cap, cells, T, fz, k1, k2, k3, k4, k5, k6, k7, k8⟩
      · rw [k1] at hv1
        cases hv1
        subst k2
        exact nil _ _
      · rw [k1] at hv1
        cases hv1
        refine some_ _ cap (fun i y hy => ?_)
        obtain ⟨cs, q1, q2⟩ := k8 i y hy
        refine ⟨cs, q1, rfl, fun j v hj => ?_⟩
        simp only [cellAt, k3]
        exact q2 j v hj
    · cases hc
  · rename_i n g2 lo len
    split at hc
    · rename_i g' xs hn
      split at hc
      · rename_i xs' hcast
        obtain ⟨e, rfl⟩ := castD_some hcast
        cases e
        obtain ⟨hg, hc⟩ := bif_some hc
        have hg := GT.beq_eq hg
        subst hg
        have hc := Option.some.inj hc
        subst hc
        obtain ⟨base, l, cap, base', c, hv1, hv2, h0, hz, hcc, hl⟩ := hx
        cases hv2
        have e0 : ∀ m, m = 0 → (List.drop lo xs).take m = [] := fun m hm => by subst hm; rfl
        rcases H.obj n _ hn with ⟨base2, k1, k2⟩ | ⟨b, o, cap2, cells, T, fz, k1, k2, k3, k4, k5, k6, k7, k8⟩
        · rw [k1] at hv1
          cases hv1
          have hl0 : len = 0 := by omega
          subst hl0
          rw [e0 0 rfl]
          exact nil _ _
        · rw [k1] at hv1
          cases hv1
          have hlen : ((List.drop lo xs).take len).length = len := by rw [List.length_take, List.length_drop]; omega
          by_cases hp : 0 < len
          · obtain ⟨b2, o2, e1, rfl⟩ := h0 hp
            cases e1
            have := some_ ⟨b, o + lo * g2.size, none⟩ c (fun i y hy => by
              rw [List.getElem?_take] at hy
              split at hy
              · rw [List.getElem?_drop] at hy
                obtain ⟨cs, q1, q2⟩ := k8 (lo + i) y hy
                refine ⟨cs, q1, rfl, fun j v hj => ?_⟩
                simp only [cellAt, k3]
                have := q2 j v hj
                rw [Nat.add_mul] at this
                rw [← this]
                congr 1
                omega
              · cases hy)
            rw [hlen] at this ⊢
            exact this
          · have hl0 : len = 0 := by omega
            subst hl0
            rw [e0 0 rfl]
            exact nil _ _
      · cases hc
    · cases hc
  · cases hc

/-! ### append -/

theorem run_app_fits {P : Program} {t u ty e : TypeId} {e' : TypeId} {ag : Bool} {size : Nat} (ht : P.underlying t = some (.slice e)) (hu : P.underlying u = some (.slice e')) (hs : tyShape P e = some (ag, size)) (w w' : World)
    (base xb : Option Addr) (sLen sCap n xc : Nat) (news : List Value) (hn : sLen + n ≤ sCap) (hf : (Builtin.firstCells size n (.slice xb n xc)).run P w = .ok news.toArray w)
    (hst : match base with
      | none => w' = w
      | some a => (storeCells (a.add (sLen * size)) news).run P w = .ok () w') :
    (Builtin.append_ #[t, u] ty #[.slice base sLen sCap, .slice xb n xc]).run P w = .ok (.slice base (sLen + n) sCap) w' := by
  cases base with
  | none =>
    simp only at hst
    subst hst
    simp [Builtin.append_, run_underlying ht, run_underlying hu, run_sizeOf hs, Builtin.lenOf, hn, hf]
  | some a =>
    simp only at hst
    simp [Builtin.append_, run_underlying ht, run_underlying hu, run_sizeOf hs, Builtin.lenOf, hn, hf, hst]

theorem run_app_grows {P : Program} {t u ty e : TypeId} {e' : TypeId} {ag : Bool} {size : Nat} {i : TypeInfo} {z : Value} (ht : P.underlying t = some (.slice e)) (hu : P.underlying u = some (.slice e')) (hs : tyShape P e = some (ag, size))
    (hi : P.info? e = some i) (hz : i.zero = some z) (w : World)
    (base xb : Option Addr) (sLen sCap n xc : Nat) (olds news : List Value) (hn : sCap < sLen + n) (h63 : sLen + n ≤ 9223372036854775807) (hfit : (sLen + n) * i.bytes ≤ 140737488355328)
    (ho : (Builtin.firstCells size sLen (.slice base sLen sCap)).run P w.drew = .ok olds.toArray w.drew)
    (hf : (Builtin.firstCells size n (.slice xb n xc)).run P w.drew = .ok news.toArray w.drew) :
    (Builtin.append_ #[t, u] ty #[.slice base sLen sCap, .slice xb n xc]).run P w =
      .ok (.slice (some ⟨w.heap.size, 0, none⟩) (sLen + n) (grownCap w (sLen + n) sCap e))
        (w.drew.alloc (.cells ((olds ++ news).toArray ++ Builtin.zeroCells z.cells (grownCap w (sLen + n) sCap e - (sLen + n))) e)) := by
  have h1 : ¬ (sLen + n ≤ sCap) := by omega
  have h2 : ¬ (9223372036854775807 < (sLen : Int) + (n : Int)) := by omega
  have h3 := growslice_fits hn hfit
  have h3' : ¬ (281474976710656 < Builtin.nextslicecap (sLen + n) sCap * i.bytes) := by omega
  have hmax : IntKind.i64.max = 9223372036854775807 := rfl
  simp [Builtin.append_, run_underlying ht, run_underlying hu, run_sizeOf hs, typeInfo, zeroValue, hi, hz, Builtin.lenOf, h1, hmax, h2, h3', Question.forced, ho, hf, newRow, grownCap]
  rw [← Array.append_assoc]
  simp

theorem firstCells_drew {P : Program} {size n : Nat} {x : Value} {w : World} {news : Array Value} (hx : ∃ b m c, x = .slice b m c) (h : (Builtin.firstCells size n x).run P w = .ok news w) :
    (Builtin.firstCells size n x).run P w.drew = .ok news w.drew := by
  obtain ⟨b, m, c, rfl⟩ := hx
  cases b with
  | none =>
    simp only [Builtin.firstCells, Sem.run_pure] at h ⊢
    cases h
    rfl
  | some a =>
    simp only [Builtin.firstCells, loadCells] at h ⊢
    have key : ∀ (k i : Nat) (acc : Array Value) (r : Array Value), (loadCellsFrom a i k acc).run P w = .ok r w → (loadCellsFrom a i k acc).run P w.drew = .ok r w.drew := by
      intro k
      induction k with
      | zero => intro i acc r h; simp only [loadCellsFrom, Sem.run_pure] at h ⊢; cases h; rfl
      | succ k ih =>
        intro i acc r h
        simp only [loadCellsFrom, Sem.run_bind, run_load] at h ⊢
        have e : w.drew.cell? (a.add i) = w.cell? (a.add i) := rfl
        rw [e]
        cases hc : w.cell? (a.add i) with
        | some v =>
          rw [hc] at h
          simp only [Result.andThen_ok] at h ⊢
          exact ih _ _ _ h
        | none =>
          rw [hc] at h
          simp only at h ⊢
          have far : ∀ w' : World, w'.heap = w.heap → w'.farLoad P (a.add i) (Mode.plain == .atomic) = w.farLoad P (a.add i) (Mode.plain == .atomic) := by
            intro w' hw'
            unfold World.farLoad
            rw [hw']
            simp only [World.noCell, hw']
            split
            · rename_i at_ u hh
              have : w'.viewLoad P at_ u (a.add i) (Mode.plain == .atomic) = w.viewLoad P at_ u (a.add i) (Mode.plain == .atomic) := by
                obtain ⟨h1, h2, h3, h4, h5⟩ := w
                obtain ⟨g1, g2, g3, g4, g5⟩ := w'
                simp only at hw'
                subst hw'
                rfl
              rw [this]
            · rfl
          rw [far w.drew rfl]
          cases hfar : w.farLoad P (a.add i) (Mode.plain == .atomic) with
          | ok v =>
            rw [hfar] at h
            obtain ⟨v, l⟩ := v
            simp only [Result.andThen_ok] at h ⊢
            exact ih _ _ _ h
          | error e =>
            rw [hfar] at h
            simp at h
    exact key _ _ _ _ h

theorem Elems.append {X : HS} {g : GT} {xs ys : List g.ty} {olds news : List Value} (hx : Elems X g xs olds) (hy : Elems X g ys news) : Elems X g (xs ++ ys) (olds ++ news) := by
  refine ⟨by simp [hx.len, hy.len, Nat.add_mul], ?_⟩
  intro i y hi
  by_cases hlt : i < xs.length
  · rw [List.getElem?_append_left hlt] at hi
    obtain ⟨cs, r, k⟩ := hx.at' i y hi
    refine ⟨cs, r, fun j v hj => ?_⟩
    have := k j v hj
    rw [List.getElem?_append_left (List.getElem?_eq_some_iff.1 this).1]
    exact this
  · rw [List.getElem?_append_right (by omega)] at hi
    obtain ⟨cs, r, k⟩ := hy.at' _ y hi
    refine ⟨cs, r, fun j v hj => ?_⟩
    have := k j v hj
    have hm : xs.length * g.size ≤ i * g.size := Nat.mul_le_mul_right _ (by omega)
    rw [List.getElem?_append_right (by rw [hx.len]; omega), ← this, hx.len]
    congr 1
    rw [Nat.sub_mul]
    omega

theorem Elems.cells {X Y : HS} (E : Ext X Y) {g : GT} {ys : List g.ty} {news : List Value} (h : Elems X g ys news) (pre post : List Value) : Cells Y g pre.length ys (pre ++ (news ++ post)).toArray := by
  intro i y hi
  obtain ⟨cs, r, k⟩ := h.at' i y hi
  refine ⟨cs, RepD_mono E.ok E.st g y cs r, fun j v hj => ?_⟩
  have := k j v hj
  have hlt := (List.getElem?_eq_some_iff.1 this).1
  rw [List.getElem?_toArray, List.getElem?_append_right (by omega), show pre.length + i * g.size + j - pre.length = i * g.size + j by omega, List.getElem?_append_left hlt]
  exact this

theorem cellsZ_len : ∀ g : GT, (cellsZ g).length = g.size
  | .int _ => rfl
  | .bool => rfl
  | .str => rfl
  | .nil => rfl
  | .cons a b => by simp [cellsZ, GT.size, cellsZ_len a, cellsZ_len b]
  | .sl _ => rfl
  | .opq => rfl

theorem cellsZ_rep {Ok : Nat → Prop} {hp : Array Obj} : ∀ g : GT, RepD Ok hp g g.dflt (cellsZ g)
  | .int _ => rfl
  | .bool => rfl
  | .str => rfl
  | .nil => rfl
  | .cons a b => ⟨_, _, rfl, cellsZ_rep a, cellsZ_rep b⟩
  | .sl _ => ⟨none, 0, rfl, Nat.le_refl _, fun _ => rfl, rfl⟩
  | .opq => ⟨rfl, rfl⟩

theorem zeroOK_spec {P : Program} {e : TypeId} {g : GT} (h : zeroOK P e g = true) : ∃ i v, P.info? e = some i ∧ i.zero = some v ∧ v.cells.toList = cellsZ g := by
  unfold zeroOK at h
  split at h
  · rename_i i hi
    split at h
    · rename_i v hv
      exact ⟨i, v, hi, hv, (sameVs_eq h).symm⟩
    · cases h
  · cases h

theorem smallTy_spec {P : Program} {e : TypeId} (h : smallTy P e = true) : ∃ i, P.info? e = some i ∧ i.bytes ≤ 4096 ∧ 1 ≤ i.bytes := by
  unfold smallTy at h
  split at h
  · rename_i i hi
    simp only [Bool.and_eq_true, Nat.ble_eq] at h
    exact ⟨i, hi, h.1, h.2⟩
  · cases h

/-- A new row of cells, the first of which bear a list. -/
theorem newRowObj {R : Type} {B : Base} {X : HS} {h : List SO} {g : GT} {ys : List g.ty} {news post : List Value} {cap : Nat} {T : TypeId} {K : Kont R} {r : R} {run : Result Value} {w' : World} {fz : Nat × Nat} (H : HRep B X h)
    (hos : w'.os = X.w.os) (htp : w'.tape = X.w.tape) (hu : w'.output = X.w.output) (hh : w'.heap = X.w.heap.push (.cells (news ++ post).toArray T fz)) (hfz : notFz (GT.beq g (.int .u8)) cap (news ++ post).length fz)
    (hE : Elems X g ys news) (hcap : ys.length ≤ cap) (hpos : 0 < cap) (hsz : 0 < g.size) (hlen : cap * g.size ≤ (news ++ post).length)
    (hrun : run = .ok (.slice (some ⟨X.w.heap.size, 0, none⟩) ys.length cap) w') (hk : K (.own h.length) (h ++ [.arr g ys]) = some r) : Out B X K r run := by
  obtain ⟨c, rfl⟩ : ∃ c, cap = c + 1 := ⟨cap - 1, by omega⟩
  have hat : w'.heap[X.w.heap.size]? = some (.cells (news ++ post).toArray T fz) := by rw [hh]; simp
  obtain ⟨H', E'⟩ := H.new (w' := w') (val := .slice (some ⟨X.w.heap.size, 0, none⟩) ys.length (c + 1)) (o := .arr g ys) hos htp hu hh
    (fun b hb => by simp only [Value.blk, Option.some.injEq] at hb; exact hb.symm)
    (fun E => .inr ⟨X.w.heap.size, 0, c + 1, (news ++ post).toArray, T, fz, new_rep H.len _, hpos, hat, by simpa using hfz, hcap, by simpa using hlen, hsz, by
      have := hE.cells E [] post
      simpa using this⟩)
  exact ⟨_, _, .own h.length, _, hrun, E', H', ⟨_, new_rep H.len _, rfl, rfl⟩, hk⟩

/-- An empty slice without room: no block of its own. -/
theorem emptyObj {R : Type} {B : Base} {X : HS} {h : List SO} {g : GT} {base : Option Addr} {K : Kont R} {r : R} {run : Result Value} (H : HRep B X h) (h0 : List SO) (hh0 : h0.length = h.length)
    (hrun : run = .ok (.slice base 0 0) X.w) (hk : K (.own h0.length) (h ++ [.arr g []]) = some r) : Out B X K r run := by
  obtain ⟨H', E'⟩ := H.adopt (val := .slice base 0 0) (o := .arr g []) (fun b _ hb => by cases base <;> simp [Value.blk] at hb) (.inl ⟨base, new_rep H.len _, rfl⟩)
  refine ⟨⟨X.ρ ++ [.slice base 0 0], X.Ok, X.w⟩, _, .own h0.length, .slice base 0 0, hrun, E', H', ⟨.slice base 0 0, ?_, rfl, rfl⟩, hk⟩
  rw [hh0]
  exact new_rep H.len _

theorem grows_obj {R : Type} {P : Program} {t u ty e e' : TypeId} {B : Base} {X : HS} {h h0 : List SO} {g : GT} {xs ys : List g.ty} {olds news : List Value} {base xb : Option Addr} {sCap xc : Nat} {K : Kont R} {r : R} (H : HRep B X h)
    (hh0 : h0.length = h.length) (ht : P.underlying t = some (.slice e)) (hu : P.underlying u = some (.slice e')) (he : elemOK P e g = true) (hsm : smallTy P e = true) (hz : zeroOK P e g = true)
    (ho : (Builtin.firstCells g.size xs.length (.slice base xs.length sCap)).run P X.w = .ok olds.toArray X.w) (hn : (Builtin.firstCells g.size ys.length (.slice xb ys.length xc)).run P X.w = .ok news.toArray X.w)
    (hx : Elems X g xs olds) (hy : Elems X g ys news) (hg : sCap < xs.length + ys.length) (hlim : xs.length + ys.length ≤ LIM)
    (hk : K (.own h0.length) (h ++ [.arr g (xs ++ ys)]) = some r) :
    Out B X K r ((Builtin.append_ #[t, u] ty #[.slice base xs.length sCap, .slice xb ys.length xc]).run P X.w) := by
  obtain ⟨e1, e2⟩ := elemOK_spec he
  obtain ⟨i, v, hi, hv, hcz⟩ := zeroOK_spec hz
  obtain ⟨i', hi', b1, _⟩ := smallTy_spec hsm
  rw [hi] at hi'
  cases hi'
  have hfit : (xs.length + ys.length) * i.bytes ≤ 140737488355328 := by
    have h1 : (xs.length + ys.length) * i.bytes ≤ 4294967296 * 4096 := Nat.mul_le_mul hlim b1
    omega
  have hrun := run_app_grows (P := P) (t := t) (u := u) (ty := ty) ht hu e1 hi hv X.w base xb xs.length sCap ys.length xc olds news hg (by unfold LIM at hlim; omega) hfit
    (firstCells_drew ⟨_, _, _, rfl⟩ ho) (firstCells_drew ⟨_, _, _, rfl⟩ hn)
  have hge := grownCap_ge X.w (xs.length + ys.length) sCap e
  have hE := hx.append hy
  have hzs : v.cells.size = g.size := by rw [← Array.length_toList, hcz, cellsZ_len]
  rw [hh0] at hk
  have hL : (olds ++ news ++ (Builtin.zeroCells v.cells (grownCap X.w (xs.length + ys.length) sCap e - (xs.length + ys.length))).toList).length = grownCap X.w (xs.length + ys.length) sCap e * g.size := by
    simp only [List.length_append, Array.length_toList, size_zeroCells, hzs, hx.len, hy.len]
    rw [← Nat.add_mul, ← Nat.add_mul]
    congr 1
    omega
  refine newRowObj (ys := xs ++ ys) (news := olds ++ news) (post := (Builtin.zeroCells v.cells (grownCap X.w (xs.length + ys.length) sCap e - (xs.length + ys.length))).toList) (T := e) (fz := (0, 0))
    (cap := grownCap X.w (xs.length + ys.length) sCap e) (w' := X.w.drew.alloc (.cells ((olds ++ news).toArray ++ Builtin.zeroCells v.cells (grownCap X.w (xs.length + ys.length) sCap e - (xs.length + ys.length))) e)) H rfl rfl rfl ?_ ⟨by intro j _; simp, fun _ => ⟨rfl, by have := grownCap_le_maxLen X.w (xs.length + ys.length) sCap e (by unfold LIM at hlim; simp only [maxLen]; omega); simpa only [maxLen] using this⟩⟩ hE (by simpa using hge) (by omega) e2 (by rw [hL]; exact Nat.le_refl _) (by rw [List.length_append]; exact hrun) hk
  show X.w.heap.push _ = X.w.heap.push _
  congr 2
  simp

theorem appendK_sound {R : Type} {P : Program} {ts : List TypeId} {un : Bool} {ty : TypeId} {B : Base} {X : HS} {h : List SO} {s x : SV} {sv xv : Value} {K : Kont R} {r : R} (H : HRep B X h) (hs : Rep X s .val [sv]) (hx : Rep X x .val [xv])
    (hk : appendK P ts un s x h K = some r) : Out B X K r ((Builtin.append_ ts.toArray ty #[sv, xv]).run P X.w) := by
  unfold appendK at hk
  split at hk
  · rename_i t u
    split at hk
    · rename_i e e' ht hu
      split at hk
      · rename_i g hg
        replace hk := bif_some hk
        obtain ⟨hc, hk⟩ := hk
        simp only [Bool.and_eq_true] at hc
        obtain ⟨⟨⟨_, he⟩, hsm⟩, hz⟩ := hc
        obtain ⟨e1, e2⟩ := elemOK_spec he
        split at hk
        · rename_i ys hys
          obtain ⟨xb, xc, news, rfl, hn, hE⟩ := listV_cells (P := P) H e2 hx hys
          have hnil : Elems X g [] [] := ⟨by simp, by simp⟩
          have emp : ∀ (base : Option Addr) (hh : List SO), HRep B X hh → hh.length = h.length → ys.length ≤ LIM → K (.own h.length) (hh ++ [.arr g ys]) = some r →
              Out B X K r ((Builtin.append_ #[t, u] ty #[.slice base 0 0, .slice xb ys.length xc]).run P X.w) := by
            intro base hh HH hhl hlim hk
            by_cases h0 : ys.length = 0
            · have : ys = [] := List.eq_nil_of_length_eq_zero h0
              subst this
              have hnews : news = [] := List.eq_nil_of_length_eq_zero (by simpa using hE.len)
              subst hnews
              have hrun := run_app_fits (P := P) (ty := ty) ht hu e1 X.w X.w base xb 0 0 0 xc [] (by omega) hn (by cases base <;> simp [storeCells])
              refine emptyObj (base := base) HH h hhl.symm ?_ hk
              simpa using hrun
            · have := grows_obj (P := P) (t := t) (u := u) (ty := ty) (xs := []) (ys := ys) (olds := []) (base := base) (sCap := 0) HH hhl.symm ht hu he hsm hz
                (by cases base <;> simp [Builtin.firstCells, loadCells, loadCellsFrom]) hn hnil hE (by simp; omega) (by simpa using hlim) (by simpa using hk)
              simpa using this
          split at hk
          · obtain ⟨hl, hk⟩ := asrt_true hk
            simp only [Rep, List.cons.injEq, and_true] at hs
            subst hs
            exact emp none h H rfl (by simpa using hl) hk
          · obtain ⟨hl, hk⟩ := asrt_true hk
            obtain ⟨b, hb⟩ := hs
            simp only [List.cons.injEq, and_true] at hb
            subst hb
            exact emp b h H rfl (by simpa using hl) hk
          · rename_i n
            split at hk
            · rename_i g' xs hnx
              split at hk
              · rename_i xs' hcast
                obtain ⟨eg, rfl⟩ := castD_some hcast
                cases eg
                obtain ⟨hl, hk⟩ := asrt_true hk
                simp only [decide_eq_true_eq] at hl
                obtain ⟨v, hv1, hv2, _⟩ := hs
                cases hv2
                have HD := H.drop n
                have hdl : (setN h n SO.dead).length = h.length := by rw [setN_eq]; simp
                rcases H.obj n _ hnx with ⟨base, k1, k2⟩ | ⟨bb, o, cap, cells, T, fz, k1, k2, k3, k4, k5, k6, k7, k8⟩
                · rw [k1] at hv1
                  cases hv1
                  subst k2
                  exact emp base _ HD hdl (by simpa using hl) (by simpa using hk)
                · rw [k1] at hv1
                  cases hv1
                  have hbk : blkOf X n = some bb := by
                    obtain ⟨c, rfl⟩ : ∃ c, cap = c + 1 := ⟨cap - 1, by omega⟩
                    simp [blkOf, k1, Value.blk]
                  by_cases hfits : List.length xs + List.length ys ≤ cap
                  · -- in place
                    have hmul : (List.length xs + List.length ys) * g.size ≤ cap * g.size := Nat.mul_le_mul_right _ hfits
                    rw [Nat.add_mul] at hmul
                    have hst := run_storeC (P := P) bb (o + List.length xs * g.size) T fz news 0 cells X.w k3 k4 (by rw [hE.len]; omega) hE.one
                    simp only [Nat.add_zero] at hst
                    have hrun := run_app_fits (P := P) (ty := ty) ht hu e1 X.w _ (some ⟨bb, o, none⟩) xb (List.length xs) cap (List.length ys) xc news hfits hn
                      (by simp only [add_none]; exact hst)
                    have hown := H.ownNew n _ bb hnx rfl hbk
                    have hsep := H.sep n _ hnx rfl bb hbk
                    have hoth : ∀ m o1, nth (setN h n SO.dead) m = some o1 → o1.live = true → blkOf X m ≠ some bb := by
                      intro m o1 hm l1 b1
                      rcases nth_setN hm with ⟨_, rfl⟩ | ⟨hne, h1⟩
                      · cases l1
                      · exact hne (H.inj m n o1 _ h1 hnx l1 rfl bb b1 hbk)
                    obtain ⟨H1, E1⟩ := HD.world (w' := X.w.setRow bb (ow cells.toList (o + List.length xs * g.size) news).toArray) rfl rfl rfl (Nat.le_of_eq (setRow_size _ _ _).symm)
                      (fun k hk => setRow_ne _ _ _ _ (fun e => hsep (e ▸ hk))) (fun m o1 k hm l1 b1 => setRow_ne _ _ _ _ (fun e => hoth m o1 hm l1 (e ▸ b1)))
                      (fun k hk hno => setRow_ne _ _ _ _ (fun e => by
                        subst e
                        rcases hown with h1 | h1
                        · exact hno h1
                        · omega))
                    have hρ : X.ρ.length = (setN h n SO.dead).length := by rw [hdl]; exact H.len
                    have hfit2 : o + List.length xs * g.size + news.length ≤ cells.toList.length := by
                      have hq : cells.toList.length = cells.size := Array.length_toList
                      rw [hE.len, hq]; omega
                    obtain ⟨H2, E2⟩ := H1.adopt (val := .slice (some ⟨bb, o, none⟩) (List.length xs + List.length ys) cap) (o := .arr g (xs ++ ys))
                      (fun b _ hb => by
                        obtain ⟨c, rfl⟩ : ∃ c, cap = c + 1 := ⟨cap - 1, by omega⟩
                        simp only [Value.blk, Option.some.injEq] at hb
                        subst hb
                        exact ⟨hsep, hown, hoth⟩)
                      (.inr ⟨bb, o, cap, _, T, fz, by rw [List.length_append]; exact new_rep hρ _, k2, setRow_at _ _ _ _ _ _ k3, by rw [List.size_toArray, ow_len hfit2, Array.length_toList]; exact k4,
                        by rw [List.length_append]; exact hfits, by rw [List.size_toArray, ow_len hfit2, Array.length_toList]; exact k6, k7, by
                        intro i y hi
                        simp only [List.getElem?_toArray]
                        by_cases hlt : i < List.length xs
                        · rw [List.getElem?_append_left hlt] at hi
                          obtain ⟨cs, q1, q2⟩ := k8 i y hi
                          have hl' := RepD_len g y cs q1
                          refine ⟨cs, RepD_mono E1.ok E1.st g y cs q1, fun j v hj => ?_⟩
                          have hjl : j < g.size := by rw [← hl']; exact (List.getElem?_eq_some_iff.1 hj).1
                          have hm2 := Nat.mul_le_mul_right g.size (show i + 1 ≤ List.length xs by omega)
                          rw [Nat.add_mul, Nat.one_mul] at hm2
                          rw [ow_get hfit2, if_pos (by omega), Array.getElem?_toList]
                          exact q2 j v hj
                        · rw [List.getElem?_append_right (by omega)] at hi
                          obtain ⟨cs, q1, q2⟩ := hE.at' _ y hi
                          have hl' := RepD_len g y cs q1
                          refine ⟨cs, RepD_mono E1.ok E1.st g y cs q1, fun j v hj => ?_⟩
                          have := q2 j v hj
                          have hm2 : List.length xs * g.size ≤ i * g.size := Nat.mul_le_mul_right _ (by omega)
                          rw [Nat.sub_mul] at this
                          have hlt2 := (List.getElem?_eq_some_iff.1 this).1
                          rw [ow_get hfit2, if_neg (by omega), if_pos (by omega), ← this]
                          congr 1
                          omega⟩)
                    exact ⟨_, _, .own h.length, _, hrun, E1.trans E2, H2, ⟨_, by rw [← hdl]; exact new_rep hρ _, rfl, rfl⟩, hk⟩
                  · -- a new row
                    obtain ⟨olds, o1, o2, o3⟩ := row_cells (R := RepD X.Ok X.w.heap g) (fun y cs r => RepD_len g y cs r) xs (cellAt X.w.heap bb) o (fun i y hy => by
                      obtain ⟨cs, r, k⟩ := k8 i y hy
                      exact ⟨cs, r, fun j v hj => by simp only [cellAt, k3]; exact k j v hj⟩)
                    have ho : (Builtin.firstCells g.size (List.length xs) (.slice (some ⟨bb, o, none⟩) (List.length xs) cap)).run P X.w = .ok olds.toArray X.w :=
                      run_firstCells_some X.w g.size _ _ _ _ olds o1 (fun j v hj => by rw [add_none rfl, cell_cellAt]; exact o3 j v hj)
                    exact grows_obj HD hdl.symm ht hu he hsm hz ho hn ⟨o1, o2⟩ hE (by omega) hl hk
              · cases hk
            · cases hk
          · cases hk
        · cases hk
      · cases hk
    · cases hk
  · cases hk

end Go.Eng
