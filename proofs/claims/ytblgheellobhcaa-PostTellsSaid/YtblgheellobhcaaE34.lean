/- The engine, part 34: slices.Insert into a list of whole numbers of the call's own. -/
import Derived.Test.YtblgheellobhcaaE32
import Derived.Shelf.Spec.SlicesInsertGrow
namespace Go.Eng
open Go
set_option linter.unusedVariables false
set_option linter.unusedSimpArgs false

/-- A list with another one put in. -/
def insL {α : Type} (xs : List α) (i : Nat) (ys : List α) : List α := xs.take i ++ (ys ++ xs.drop i)

def insE (f : Nat) : CmE :=
  ⟨f, fun R args h K => match args with
    | [.own n, .dat (.int .i64) i, .own m] => (match nth h n, nth h m with
      | some (.arr (.int .i64) xs), some (.arr (.int .i64) ys) => bif !(Nat.beq n m) then
          asrt true (decide (0 ≤ (show Int from i)) && decide ((show Int from i) ≤ (List.length xs : Int)) && (decide (0 < List.length ys) && decide (List.length xs + List.length ys ≤ LIM)))
            (K (.own h.length) (setN (setN h n .dead) m .dead ++ [.arr (.int .i64) (insL (show List Int from xs) (Int.toNat i) ys)])) else none
      | _, _ => none)
    | _ => none, false⟩

abbrev iv : Int → Value := Value.int .i64

theorem setCells_row (b : Nat) : ∀ (vs : List Value) (o : Nat) (w : World) (C : Array Value) (T : TypeId) (fz : Nat × Nat), w.heap[b]? = some (.cells C T fz) → o + vs.length ≤ C.size →
    w.setCells b o vs = w.setRow b (ow C.toList o vs).toArray
  | [], o, w, C, T, fz, hb, hl => by
    simp only [World.setCells, ow, List.nil_append, List.length_nil, Nat.add_zero, List.take_append_drop, Array.toArray_toList]
    rw [setRow_self w b C T fz hb]
  | v :: r, o, w, C, T, fz, hb, hl => by
    simp only [List.length_cons] at hl
    simp only [World.setCells]
    rw [setCell_eq_setRow w b o C T fz v hb, setCells_row b r (o + 1) _ _ T fz (setRow_heap w b C _ T fz hb) (by simp; omega), setRow_setRow]
    congr 1
    congr 1
    simp only [ow, Array.toList_setIfInBounds]
    apply List.ext_getElem?
    intro n
    have hlen : o < C.toList.length := by simp; omega
    have hlen2 : o + 1 + r.length ≤ C.toList.length := by simp; omega
    simp only [List.getElem?_append, List.length_take, List.getElem?_take, List.getElem?_drop, List.length_set, List.getElem?_set, List.length_cons, List.getElem?_cons]
    rw [Nat.min_eq_left (by omega), Nat.min_eq_left (by omega)]
    repeat' split
    all_goals first
      | rfl
      | (exfalso; omega)
      | (congr 1; omega)
      | simp_all

/-- What is known of slices.Insert at whole numbers. -/
structure InsSpec (P : Program) (f : Nat) (e : TypeId) : Prop where
  callable : callable P f
  shift : ∀ (b off n c i vb voff m vc : Nat) (cs vs : List Value) (w : World), i < n → 0 < m → n + m ≤ c → c ≤ 9223372036854775807 → vb ≠ b →
    cs.length = n → vs.length = m →
    (∀ j v, cs[j]? = some v → w.cell? ⟨b, off + j, none⟩ = some v) → (∀ j, j < n + m → (w.cell? ⟨b, off + j, none⟩).isSome = true) → (∀ j, j < n + m → w.frozen? ⟨b, off + j, none⟩ = false) →
    (∀ j v, vs[j]? = some v → w.cell? ⟨vb, voff + j, none⟩ = some v) → (∀ v ∈ cs, v.oneCell' = true) → (∀ v ∈ vs, v.oneCell' = true) →
    ∀ (tA tB : TypeId) (kA kB : Nat), w.shape? vb = some (tA, kA) → w.shape? b = some (tB, kB) → kB ≠ 0 → w.frozen? ⟨vb, voff, none⟩ = false → w.frozen? ⟨vb, kA, none⟩ = false →
    Calls P f #[.slice (some ⟨b, off, none⟩) n c, .int .i64 i, .slice (some ⟨vb, voff, none⟩) m vc] w fun e w' =>
      e = .returned (.slice (some ⟨b, off, none⟩) (n + m) c) ∧ w' = (w.drew.setCells b (off + (i + m)) (cs.drop i)).setCells b (off + i) vs
  room : ∀ (b off n c vb voff m vc : Nat) (vs : List Value) (w : World), 0 < m → n + m ≤ c → c ≤ 9223372036854775807 →
    vs.length = m → (∀ j, j < m → (w.cell? ⟨b, off + n + j, none⟩).isSome = true) → (∀ j, j < m → w.frozen? ⟨b, off + n + j, none⟩ = false) →
    (∀ j v, vs[j]? = some v → w.cell? ⟨vb, voff + j, none⟩ = some v) → (∀ v ∈ vs, v.oneCell' = true) →
    Calls P f #[.slice (some ⟨b, off, none⟩) n c, .int .i64 n, .slice (some ⟨vb, voff, none⟩) m vc] w fun e w' =>
      e = .returned (.slice (some ⟨b, off, none⟩) (n + m) c) ∧ w' = w.setCells b (off + n) vs
  grow : ∀ (base : Option Addr) (n c vb voff m vc : Nat) (cs vs : List Value) (w : World), 0 < m → n ≤ c → c < n + m → (n + m) * 8 ≤ 140737488355328 →
    cs.length = n → vs.length = m → (base = none → n = 0) →
    (∀ a, base = some a → ∀ j v, cs[j]? = some v → w.cell? (a.add j) = some v) →
    (∀ j v, vs[j]? = some v → w.cell? ⟨vb, voff + j, none⟩ = some v) → (∀ v ∈ vs, v.oneCell' = true) →
    Calls P f #[.slice base n c, .int .i64 n, .slice (some ⟨vb, voff, none⟩) m vc] w fun r w' =>
      r = .returned (.slice (some ⟨w.heap.size, 0, none⟩) (n + m) (grownCap w (n + m) c e)) ∧
      w' = w.drew.alloc (.cells ((cs ++ vs).toArray ++ Builtin.zeroCells (Value.int .i64 0).cells (grownCap w (n + m) c e - (n + m))) e)
  mid : ∀ (b off n c i vb voff m vc : Nat) (cs vs : List Value) (w : World), i < n → 0 < m → n ≤ c → c < n + m → (n + m) * 8 ≤ 140737488355328 →
    cs.length = n → vs.length = m →
    (∀ j v, cs[j]? = some v → w.cell? ⟨b, off + j, none⟩ = some v) →
    (∀ j v, vs[j]? = some v → w.cell? ⟨vb, voff + j, none⟩ = some v) → (∀ v ∈ cs, v.oneCell' = true) → (∀ v ∈ vs, v.oneCell' = true) →
    Calls P f #[.slice (some ⟨b, off, none⟩) n c, .int .i64 i, .slice (some ⟨vb, voff, none⟩) m vc] w fun r w' =>
      r = .returned (.slice (some ⟨w.heap.size, 0, none⟩) (n + m) (grownCap w (n + m) c e)) ∧
      w' = (((w.alloc (.cells ((cs.take i).toArray ++ Builtin.zeroCells (Value.int .i64 0).cells (n + m - i) ++ Builtin.zeroCells (Value.int .i64 0).cells (grownCap w (n + m) c e - (n + m))) e)).drew.setCells w.heap.size i vs).drew).setCells w.heap.size (i + m) (cs.drop i)

theorem insSpec_of {P : Program} {ρ : Shelf.Ren} (L : Proofs.Lays2.n21 P ρ) (hc : callable P (ρ.f 21)) : InsSpec P (ρ.f 21) (ρ.t 3) where
  callable := hc
  shift := Proofs.Any2.slices_Insert_int_shift L
  room := Proofs.Any2.slices_Insert_int_end_room L
  grow := Proofs.Any2.slices_Insert_int_end_grow L
  mid := Proofs.Any2.slices_Insert_int_grow L

/-- An own list of whole numbers with cells. -/
theorem own_cells {B : Base} {X : HS} {h : List SO} (H : HRep B X h) {n : Nat} {xs : List Int} (hn : nth h n = some (.arr (.int .i64) xs)) {v : Value} (hv : X.ρ[n]? = some v) :
    (∃ base, v = .slice base 0 0 ∧ xs = []) ∨ ∃ b o cap cells T, v = .slice (some ⟨b, o, none⟩) xs.length cap ∧ 0 < cap ∧ cap ≤ 9223372036854775807 ∧ X.w.heap[b]? = some (.cells cells T (0, 0)) ∧ xs.length ≤ cap ∧ o + cap ≤ cells.size ∧
      (∀ (i : Nat) (x : Int), xs[i]? = some x → cells[o + i]? = some (iv x)) ∧ blkOf X n = some b := by
  rcases H.obj n _ hn with ⟨base, h1, h2⟩ | ⟨b, o, cap, cells, T, fz, k1, k2, k3, k4, k5, k6, k7, k8⟩
  · rw [h1] at hv; cases hv
    exact .inl ⟨base, rfl, h2⟩
  · rw [k1] at hv; cases hv
    obtain ⟨rfl, hc⟩ := k4.2 rfl
    refine .inr ⟨b, o, cap, cells, T, rfl, k2, hc, k3, k5, by simpa [GT.size] using k6, ?_, ?_⟩
    · intro i x hx
      obtain ⟨cs, r1, r2⟩ := k8 i x hx
      simp only [RepD] at r1
      subst r1
      have := r2 0 (iv x) rfl
      simpa [GT.size] using this
    · obtain ⟨c, rfl⟩ : ∃ c, cap = c + 1 := ⟨cap - 1, by omega⟩
      simp [blkOf, k1, Value.blk]

theorem map_iv_at {xs : List Int} {o : Nat} {f : Nat → Option Value} (h : ∀ (i : Nat) (x : Int), xs[i]? = some x → f (o + i) = some (iv x)) : ∀ (j : Nat) (v : Value), (xs.map iv)[j]? = some v → f (o + j) = some v := by
  intro j v hj
  rw [List.getElem?_map] at hj
  cases hx : xs[j]? with
  | none => rw [hx] at hj; cases hj
  | some x =>
    rw [hx] at hj
    simp only [Option.map_some, Option.some.injEq] at hj
    rw [← hj]
    exact h j x hx

theorem cell_rowAt {w : World} {b : Nat} {cells : Array Value} {T : TypeId} {fz : Nat × Nat} (h : w.heap[b]? = some (.cells cells T fz)) (o : Nat) : w.cell? ⟨b, o, none⟩ = cells[o]? := by
  simp [World.cell?, h]

theorem map_iv_one (xs : List Int) : ∀ v ∈ xs.map iv, v.oneCell' = true := by
  intro v hv
  obtain ⟨x, _, rfl⟩ := List.mem_map.1 hv
  rfl

theorem elems_iv {X : HS} (xs : List Int) : Elems X (.int .i64) xs (xs.map iv) := by
  refine ⟨by simp [GT.size], fun i y hy => ⟨[iv y], rfl, fun j v hj => ?_⟩⟩
  match j, hj with
  | 0, hj =>
    simp only [List.getElem?_cons_zero, Option.some.injEq] at hj
    subst hj
    simp [GT.size, hy]

/-- A row that is written in place is the object's again, under a new name. -/
theorem in_place {R : Type} {B : Base} {X : HS} {h : List SO} (H : HRep B X h) {n m : Nat} {xs zs : List Int} {b o cap : Nat} {cells C : Array Value} {T : TypeId} {w' : World} {K : Kont R} {r : R}
    (hn : nth h n = some (.arr (.int .i64) xs)) (hblk : blkOf X n = some b) (hc : X.w.heap[b]? = some (.cells cells T (0, 0))) (hcap0 : 0 < cap) (hcap : cap ≤ 9223372036854775807) (hroom : o + cap ≤ cells.size)
    (hw : w'.os = X.w.os ∧ w'.tape = X.w.tape ∧ w'.output = X.w.output) (hheap : w'.heap = (X.w.setRow b C).heap) (hC : C.size = cells.size) (hz : zs.length ≤ cap)
    (hat : ∀ (i : Nat) (z : Int), zs[i]? = some z → C[o + i]? = some (iv z))
    (hk : K (.own h.length) (setN (setN h n .dead) m .dead ++ [.arr (.int .i64) zs]) = some r) :
    ∃ X' h' v, X'.w = w' ∧ Ext X X' ∧ HRep B X' h' ∧ Rep X' v .val [.slice (some ⟨b, o, none⟩) zs.length cap] ∧ K v h' = some r := by
  have HD := (H.drop n).drop m
  have hdl : (setN (setN h n SO.dead) m SO.dead).length = h.length := by rw [setN_eq, setN_eq]; simp
  have hown := H.ownNew n _ b hn rfl hblk
  have hsep := H.sep n _ hn rfl b hblk
  have hoth : ∀ k o1, nth (setN (setN h n SO.dead) m SO.dead) k = some o1 → o1.live = true → blkOf X k ≠ some b := by
    intro k o1 hk l1 b1
    rcases nth_setN hk with ⟨_, rfl⟩ | ⟨_, hk⟩
    · cases l1
    · rcases nth_setN hk with ⟨_, rfl⟩ | ⟨hne, h1⟩
      · cases l1
      · exact hne (H.inj k n o1 _ h1 hn l1 rfl b b1 hblk)
  obtain ⟨H1, E1⟩ := HD.world (w' := w') hw.1 hw.2.1 hw.2.2 (by rw [hheap]; exact Nat.le_of_eq (setRow_size _ _ _).symm)
    (fun k hk => by rw [hheap]; exact setRow_ne _ _ _ _ (fun e => hsep (e ▸ hk))) (fun k o1 q hk l1 b1 => by rw [hheap]; exact setRow_ne _ _ _ _ (fun e => hoth k o1 hk l1 (e ▸ b1)))
    (fun k hk hno => by
      rw [hheap]
      exact setRow_ne _ _ _ _ (fun e => by
        subst e
        rcases hown with h1 | h1
        · exact hno h1
        · omega))
  have hρ : X.ρ.length = (setN (setN h n SO.dead) m SO.dead).length := by rw [hdl]; exact H.len
  have hat' : w'.heap[b]? = some (.cells C T (0, 0)) := by rw [hheap]; exact setRow_at _ _ _ _ _ _ hc
  obtain ⟨c, rfl⟩ : ∃ c, cap = c + 1 := ⟨cap - 1, by omega⟩
  obtain ⟨H2, E2⟩ := H1.adopt (val := .slice (some ⟨b, o, none⟩) zs.length (c + 1)) (o := .arr (.int .i64) zs)
    (fun b' _ hb => by
      simp only [Value.blk, Option.some.injEq] at hb
      subst hb
      exact ⟨hsep, hown, hoth⟩)
    (.inr ⟨b, o, c + 1, C, T, (0, 0), new_rep hρ _, hcap0, hat', ⟨by intro j _; simp, fun _ => ⟨rfl, hcap⟩⟩, hz, by rw [hC]; simpa [GT.size] using hroom, by simp [GT.size], by
      intro i z hi
      refine ⟨[iv z], rfl, fun j v hj => ?_⟩
      match j, hj with
      | 0, hj =>
        simp only [List.getElem?_cons_zero, Option.some.injEq] at hj
        subst hj
        simpa [GT.size] using hat i z hi⟩)
  exact ⟨_, _, .own h.length, rfl, E1.trans E2, H2, ⟨_, by rw [← hdl]; exact new_rep hρ _, rfl, rfl⟩, hk⟩

/-- A new row bears the list. -/
theorem new_place {R : Type} {B : Base} {X : HS} {h : List SO} (H : HRep B X h) {n m : Nat} {zs : List Int} {cap : Nat} {C : Array Value} {T : TypeId} {w' : World} {K : Kont R} {r : R}
    (hw : w'.os = X.w.os ∧ w'.tape = X.w.tape ∧ w'.output = X.w.output) (hheap : w'.heap = X.w.heap.push (.cells C T)) (hz0 : 0 < zs.length) (hz : zs.length ≤ cap) (hcap : cap ≤ 9223372036854775807) (hroom : cap ≤ C.size)
    (hat : ∀ (i : Nat) (z : Int), zs[i]? = some z → C[i]? = some (iv z))
    (hk : K (.own h.length) (setN (setN h n .dead) m .dead ++ [.arr (.int .i64) zs]) = some r) :
    ∃ X' h' v, X'.w = w' ∧ Ext X X' ∧ HRep B X' h' ∧ Rep X' v .val [.slice (some ⟨X.w.heap.size, 0, none⟩) zs.length cap] ∧ K v h' = some r := by
  have HD := (H.drop n).drop m
  have hdl : (setN (setN h n SO.dead) m SO.dead).length = h.length := by rw [setN_eq, setN_eq]; simp
  have hρ : X.ρ.length = (setN (setN h n SO.dead) m SO.dead).length := by rw [hdl]; exact H.len
  obtain ⟨c, rfl⟩ : ∃ c, cap = c + 1 := ⟨cap - 1, by omega⟩
  obtain ⟨H2, E2⟩ := HD.new (w' := w') (val := .slice (some ⟨X.w.heap.size, 0, none⟩) zs.length (c + 1)) (o := .arr (.int .i64) zs) hw.1 hw.2.1 hw.2.2 hheap
    (fun b' hb => by simp only [Value.blk, Option.some.injEq] at hb; exact hb.symm)
    (fun E => .inr ⟨X.w.heap.size, 0, c + 1, C, T, (0, 0), new_rep hρ _, by omega, by show w'.heap[_]? = _; rw [hheap]; simp, ⟨by intro j _; simp, fun _ => ⟨rfl, hcap⟩⟩, hz, by simpa [GT.size] using hroom, by simp [GT.size], by
      intro i z hi
      refine ⟨[iv z], rfl, fun j v hj => ?_⟩
      match j, hj with
      | 0, hj =>
        simp only [List.getElem?_cons_zero, Option.some.injEq] at hj
        subst hj
        simpa [GT.size] using hat i z hi⟩)
  exact ⟨_, _, .own h.length, rfl, E2, H2, ⟨_, by rw [← hdl]; exact new_rep hρ _, rfl, rfl⟩, hk⟩

theorem insL_len {α : Type} (xs ys : List α) (i : Nat) (h : i ≤ xs.length) : (insL xs i ys).length = xs.length + ys.length := by
  simp only [insL, List.length_append, List.length_take, List.length_drop]; omega

theorem insL_at {α : Type} (xs ys : List α) (i : Nat) (h : i ≤ xs.length) (k : Nat) : (insL xs i ys)[k]? = if k < i then xs[k]? else if k < i + ys.length then ys[k - i]? else xs[k - ys.length]? := by
  simp only [insL, List.getElem?_append, List.length_take, List.getElem?_take, List.getElem?_drop]
  rw [Nat.min_eq_left h]
  repeat' split
  all_goals first
    | rfl
    | (exfalso; omega)
    | (congr 1; omega)

theorem heap_row {w : World} {C0 C : Array Value} {T : TypeId} : ((w.alloc (.cells C0 T)).setRow w.heap.size C).heap = w.heap.push (.cells C T) := by
  simp only [World.setRow, World.alloc]
  apply Array.ext
  · simp
  · intro k h1 h2
    rw [Array.getElem_modify]
    simp only [Array.getElem_push]
    split
    · subst_vars; simp
    · have hk : k < w.heap.size := by simp at h1; omega
      simp [hk]

theorem ins_ok {P : Program} {f : Nat} {e : TypeId} (S : InsSpec P f e) : CmOk P (insE f) := by
  constructor
  · intro R args h K r hk
    simp only [insE] at hk
    split at hk
    · rename_i n i m
      split at hk
      · rename_i xs ys hn hm
        obtain ⟨hne, hk⟩ := bif_some hk
        obtain ⟨hc, hk⟩ := asrt_true hk
        simp only [Bool.and_eq_true, decide_eq_true_eq] at hc
        obtain ⟨⟨c1, c2⟩, c3, c4⟩ := hc
        have hnm : n ≠ m := by
          intro e
          subst e
          simp at hne
        refine ⟨S.callable, fun B X H vals hvals => ?_⟩
        match vals, hvals with
        | [sv, kv, vv], hvals =>
        obtain ⟨⟨sv', hs1, hs2, _⟩, hkv, ⟨vv', hv1, hv2, _⟩, _⟩ := hvals
        cases hs2
        cases hv2
        have hkv := rep_int hkv
        subst hkv
        obtain ⟨k, rfl⟩ : ∃ k : Nat, i = (k : Int) := ⟨Int.toNat i, (Int.toNat_of_nonneg c1).symm⟩
        simp only [Int.toNat_natCast] at hk
        change List Int at xs ys
        replace c4 : xs.length + ys.length ≤ 4294967296 := c4
        replace c3 : 0 < ys.length := c3
        replace c2 : (k : Int) ≤ (xs.length : Int) := c2
        have hkn : k ≤ xs.length := by omega
        rcases own_cells H hm hv1 with ⟨base, rfl, h0⟩ | ⟨vb, vo, vc, vcells, vT, rfl, v1, v2, v3, v4, v5, v6, v7⟩
        · rw [h0] at c3; simp at c3
        have hvs : ∀ (j : Nat) (v : Value), (ys.map iv)[j]? = some v → X.w.cell? ⟨vb, vo + j, none⟩ = some v :=
          map_iv_at (f := fun q => X.w.cell? ⟨vb, q, none⟩) (fun q y hy => by rw [cell_rowAt v3]; exact v6 q y hy)
        have hw0 : ∀ w' : World, w'.os = X.w.os → w'.tape = X.w.tape → w'.output = X.w.output → w'.os = X.w.os ∧ w'.tape = X.w.tape ∧ w'.output = X.w.output := fun _ a b c => ⟨a, b, c⟩
        have hL : (xs.length + ys.length) * 8 ≤ 140737488355328 := by omega
        have hzl := insL_len xs ys k hkn
        rcases own_cells H hn hs1 with ⟨base, rfl, h0⟩ | ⟨b, o, cap, cells, T, rfl, b1, b2, b3, b4, b5, b6, b7⟩
        · -- an empty list
          subst h0
          simp only [List.length_nil, Nat.le_zero] at hkn
          subst hkn
          have hc := S.grow base 0 0 vb vo ys.length vc [] (ys.map iv) X.w c3 (Nat.le_refl _) (by omega) (by simpa using hL) rfl (by simp) (fun _ => rfl) (fun _ _ _ _ h => by simp at h) hvs (map_iv_one ys)
          refine hc.mono ?_
          rintro rr w' ⟨rfl, rfl⟩
          have hge := grownCap_ge X.w (0 + ys.length) 0 e
          have hle : grownCap X.w (0 + ys.length) 0 e ≤ 9223372036854775807 := by
            have := grownCap_le_maxLen X.w (0 + ys.length) 0 e (by simp only [maxLen]; simp at c4; omega)
            simpa only [maxLen] using this
          obtain ⟨X', h', v, e1, e2, e3, e4, e5⟩ := new_place H (n := n) (m := m) (zs := insL [] 0 ys) (cap := grownCap X.w (0 + ys.length) 0 e) (T := e) (K := K) (r := r)
            (C := ([] ++ ys.map iv).toArray ++ Builtin.zeroCells (Value.int .i64 0).cells (grownCap X.w (0 + ys.length) 0 e - (0 + ys.length)))
            (w' := X.w.drew.alloc (.cells (([] ++ ys.map iv).toArray ++ Builtin.zeroCells (Value.int .i64 0).cells (grownCap X.w (0 + ys.length) 0 e - (0 + ys.length))) e))
            ⟨rfl, rfl, rfl⟩ rfl (by rw [hzl]; simp; omega) (by rw [hzl]; simpa using hge) hle (by
              simp [Builtin.zeroCells, Value.cells]; omega) (by
              intro q z hz
              have hq := (List.getElem?_eq_some_iff.1 hz).1
              rw [hzl] at hq
              rw [Array.getElem?_append_left (by simp; simpa using hq)]
              simp only [insL, List.take_nil, List.drop_nil, List.nil_append, List.append_nil] at hz ⊢
              simp [hz]) hk
          refine ⟨_, X', h', v, e1, e2, e3, rfl, ?_, e5⟩
          rw [hzl] at e4
          exact e4
        · have hvb : vb ≠ b := by
            intro e
            subst e
            exact hnm (H.inj n m _ _ hn hm rfl rfl vb b7 v7)
          have hcs : ∀ (j : Nat) (v : Value), (xs.map iv)[j]? = some v → X.w.cell? ⟨b, o + j, none⟩ = some v :=
            map_iv_at (f := fun q => X.w.cell? ⟨b, q, none⟩) (fun q y hy => by rw [cell_rowAt b3]; exact b6 q y hy)
          have hsome : ∀ j, j < cap → (X.w.cell? ⟨b, o + j, none⟩).isSome = true := fun j hj => by
            rw [cell_rowAt b3, Array.getElem?_eq_getElem (by omega)]; rfl
          have hfr : ∀ q, X.w.frozen? ⟨b, q, none⟩ = false := fun q => by simp [World.frozen?, b3]
          have hfv : ∀ q, X.w.frozen? ⟨vb, q, none⟩ = false := fun q => by simp [World.frozen?, v3]
          by_cases hroom : xs.length + ys.length ≤ cap
          · rcases Nat.lt_or_ge k xs.length with hlt | hge
            · -- in place, in the middle
              have hc := S.shift b o xs.length cap k vb vo ys.length vc (xs.map iv) (ys.map iv) X.w hlt c3 hroom b2 hvb (by simp) (by simp) hcs (fun j hj => hsome j (by omega)) (fun j _ => hfr _) hvs (map_iv_one xs) (map_iv_one ys)
                vT T vcells.size cells.size (by simp [World.shape?, v3]) (by simp [World.shape?, b3]) (by omega) (hfv _) (hfv _)
              refine hc.mono ?_
              rintro rr w' ⟨rfl, rfl⟩
              have hl1 : o + (k + ys.length) + ((xs.map iv).drop k).length ≤ cells.toList.length := by simp; omega
              have e0 : X.w.drew.setCells b (o + (k + ys.length)) ((xs.map iv).drop k) = X.w.drew.setRow b (ow cells.toList (o + (k + ys.length)) ((xs.map iv).drop k)).toArray :=
                setCells_row b _ _ X.w.drew cells T (0, 0) b3 (by simpa using hl1)
              have hl2 : o + k + (ys.map iv).length ≤ (ow cells.toList (o + (k + ys.length)) ((xs.map iv).drop k)).length := by rw [ow_len hl1]; simp; omega
              have e1 : (X.w.drew.setCells b (o + (k + ys.length)) ((xs.map iv).drop k)).setCells b (o + k) (ys.map iv) = X.w.drew.setRow b (ow (ow cells.toList (o + (k + ys.length)) ((xs.map iv).drop k)) (o + k) (ys.map iv)).toArray := by
                rw [e0, setCells_row b _ _ _ _ T (0, 0) (setRow_heap X.w.drew b cells _ T (0, 0) b3) (by simpa using hl2), setRow_setRow]
              obtain ⟨X', h', v, q1, q2, q3, q4, q5⟩ := in_place H (m := m) (zs := insL xs k ys) (K := K) (r := r) (C := (ow (ow cells.toList (o + (k + ys.length)) ((xs.map iv).drop k)) (o + k) (ys.map iv)).toArray)
                (w' := (X.w.drew.setCells b (o + (k + ys.length)) ((xs.map iv).drop k)).setCells b (o + k) (ys.map iv)) hn b7 b3 b1 b2 b5 (by rw [e1]; exact ⟨rfl, rfl, rfl⟩) (by rw [e1]; rfl)
                (by rw [List.size_toArray, ow_len hl2, ow_len hl1]; simp) (by rw [hzl]; exact hroom) (by
                  intro q z hz
                  rw [insL_at xs ys k (by omega)] at hz
                  rw [List.getElem?_toArray, ow_get hl2]
                  split at hz
                  · rw [if_pos (by omega), ow_get hl1, if_pos (by omega), Array.getElem?_toList]
                    exact b6 q z hz
                  · split at hz
                    · rw [if_neg (by omega), if_pos (by simp; omega), List.getElem?_map, show o + q - (o + k) = q - k by omega, hz]; rfl
                    · rw [if_neg (by omega), if_neg (by simp; omega), ow_get hl1, if_neg (by omega)]
                      have hq := (List.getElem?_eq_some_iff.1 hz).1
                      rw [if_pos (by simp; omega), List.getElem?_drop, List.getElem?_map, show k + (o + q - (o + (k + ys.length))) = q - ys.length by omega, hz]; rfl) hk
              refine ⟨_, X', h', v, q1, q2, q3, rfl, ?_, q5⟩
              rw [hzl] at q4
              exact q4
            · -- in place, at the end
              have hkx : k = xs.length := by omega
              subst hkx
              have hc := S.room b o xs.length cap vb vo ys.length vc (ys.map iv) X.w c3 hroom b2 (by simp) (fun j hj => by rw [Nat.add_assoc]; exact hsome _ (by omega)) (fun j _ => hfr _) hvs (map_iv_one ys)
              refine hc.mono ?_
              rintro rr w' ⟨rfl, rfl⟩
              have hl1 : o + xs.length + (ys.map iv).length ≤ cells.toList.length := by simp; omega
              have e1 : X.w.setCells b (o + xs.length) (ys.map iv) = X.w.setRow b (ow cells.toList (o + xs.length) (ys.map iv)).toArray := setCells_row b _ _ X.w cells T (0, 0) b3 (by simpa using hl1)
              obtain ⟨X', h', v, q1, q2, q3, q4, q5⟩ := in_place H (m := m) (zs := insL xs xs.length ys) (K := K) (r := r) (C := (ow cells.toList (o + xs.length) (ys.map iv)).toArray)
                (w' := X.w.setCells b (o + xs.length) (ys.map iv)) hn b7 b3 b1 b2 b5 (by rw [e1]; exact ⟨rfl, rfl, rfl⟩) (by rw [e1])
                (by rw [List.size_toArray, ow_len hl1]; simp) (by rw [hzl]; exact hroom) (by
                  intro q z hz
                  rw [insL_at xs ys _ (Nat.le_refl _)] at hz
                  rw [List.getElem?_toArray, ow_get hl1]
                  split at hz
                  · rw [if_pos (by omega), Array.getElem?_toList]
                    exact b6 q z hz
                  · split at hz
                    · rw [if_neg (by omega), if_pos (by simp; omega), List.getElem?_map, show o + q - (o + xs.length) = q - xs.length by omega, hz]; rfl
                    · have hq := (List.getElem?_eq_some_iff.1 hz).1
                      omega) hk
              refine ⟨_, X', h', v, q1, q2, q3, rfl, ?_, q5⟩
              rw [hzl] at q4
              exact q4
          · have hgc := grownCap_ge X.w (xs.length + ys.length) cap e
            have hle : grownCap X.w (xs.length + ys.length) cap e ≤ 9223372036854775807 := by
              have := grownCap_le_maxLen X.w (xs.length + ys.length) cap e (by simp only [maxLen]; omega)
              simpa only [maxLen] using this
            rcases Nat.lt_or_ge k xs.length with hlt | hge
            · -- a new row, in the middle
              have hc := S.mid b o xs.length cap k vb vo ys.length vc (xs.map iv) (ys.map iv) X.w hlt c3 b4 (by omega) hL (by simp) (by simp) hcs hvs (map_iv_one xs) (map_iv_one ys)
              refine hc.mono ?_
              rintro rr w' ⟨rfl, rfl⟩
              generalize hG : grownCap X.w (xs.length + ys.length) cap e = G at *
              generalize hR : ((List.take k (xs.map iv)).toArray ++ Builtin.zeroCells (Value.int .i64 0).cells (xs.length + ys.length - k) ++ Builtin.zeroCells (Value.int .i64 0).cells (G - (xs.length + ys.length))) = ROW
              have hRl : ROW.size = G := by rw [← hR]; simp [Builtin.zeroCells, Value.cells]; omega
              have hRt : ∀ q z, q < k → xs[q]? = some z → ROW[q]? = some (iv z) := by
                intro q z hq hz
                rw [← hR, Array.getElem?_append_left (by simp; omega), Array.getElem?_append_left (by simp; omega)]
                rw [List.getElem?_toArray, List.getElem?_take, if_pos hq, List.getElem?_map, hz]; rfl
              have hnew : (X.w.alloc (.cells ROW e)).heap[X.w.heap.size]? = some (.cells ROW e (0, 0)) := by show (X.w.heap.push _)[_]? = _; simp
              have hl1 : k + (ys.map iv).length ≤ ROW.toList.length := by simp; omega
              have e1 : (X.w.alloc (.cells ROW e)).drew.setCells X.w.heap.size k (ys.map iv) = (X.w.alloc (.cells ROW e)).drew.setRow X.w.heap.size (ow ROW.toList k (ys.map iv)).toArray :=
                setCells_row _ _ _ _ ROW e (0, 0) hnew (by simpa using hl1)
              have hl2 : k + ys.length + ((xs.map iv).drop k).length ≤ (ow ROW.toList k (ys.map iv)).length := by rw [ow_len hl1]; simp; omega
              have e2 : (((X.w.alloc (.cells ROW e)).drew.setCells X.w.heap.size k (ys.map iv)).drew).setCells X.w.heap.size (k + ys.length) ((xs.map iv).drop k) =
                  ((X.w.alloc (.cells ROW e)).drew.setRow X.w.heap.size (ow ROW.toList k (ys.map iv)).toArray).drew.setRow X.w.heap.size (ow (ow ROW.toList k (ys.map iv)) (k + ys.length) ((xs.map iv).drop k)).toArray := by
                rw [e1]
                exact setCells_row _ _ _ _ _ e (0, 0) (setRow_heap _ _ ROW _ e (0, 0) hnew) (by rw [List.size_toArray]; exact hl2)
              obtain ⟨X', h', v, q1, q2, q3, q4, q5⟩ := new_place H (n := n) (m := m) (zs := insL xs k ys) (cap := G) (T := e) (K := K) (r := r) (C := (ow (ow ROW.toList k (ys.map iv)) (k + ys.length) ((xs.map iv).drop k)).toArray)
                (w' := (((X.w.alloc (.cells ROW e)).drew.setCells X.w.heap.size k (ys.map iv)).drew).setCells X.w.heap.size (k + ys.length) ((xs.map iv).drop k))
                (by rw [e2]; exact ⟨rfl, rfl, rfl⟩) (by
                  rw [e2]
                  show (((X.w.alloc (.cells ROW e)).setRow X.w.heap.size (ow ROW.toList k (ys.map iv)).toArray).setRow X.w.heap.size _).heap = _
                  rw [setRow_setRow]
                  exact heap_row) (by rw [hzl]; omega) (by rw [hzl]; exact hgc) hle (by rw [List.size_toArray, ow_len hl2, ow_len hl1]; simp; omega) (by
                  intro q z hz
                  rw [insL_at xs ys k (by omega)] at hz
                  rw [List.getElem?_toArray, ow_get hl2]
                  split at hz
                  · rw [if_pos (by omega), ow_get hl1, if_pos (by omega), Array.getElem?_toList]
                    exact hRt q z (by omega) hz
                  · split at hz
                    · rw [if_pos (by omega), ow_get hl1, if_neg (by omega), if_pos (by simp; omega), List.getElem?_map, hz]; rfl
                    · have hq := (List.getElem?_eq_some_iff.1 hz).1
                      rw [if_neg (by omega), if_pos (by simp; omega), List.getElem?_drop, List.getElem?_map, show k + (q - (k + ys.length)) = q - ys.length by omega, hz]; rfl) hk
              refine ⟨_, X', h', v, q1, q2, q3, rfl, ?_, q5⟩
              rw [hzl] at q4
              exact q4
            · -- a new row, at the end
              have hkx : k = xs.length := by omega
              subst hkx
              have hc := S.grow (some ⟨b, o, none⟩) xs.length cap vb vo ys.length vc (xs.map iv) (ys.map iv) X.w c3 b4 (by omega) hL (by simp) (by simp) (fun e => by cases e)
                (fun a ha j v hj => by cases ha; rw [add_none rfl]; exact hcs j v hj) hvs (map_iv_one ys)
              refine hc.mono ?_
              rintro rr w' ⟨rfl, rfl⟩
              generalize hG : grownCap X.w (xs.length + ys.length) cap e = G at *
              obtain ⟨X', h', v, q1, q2, q3, q4, q5⟩ := new_place H (n := n) (m := m) (zs := insL xs xs.length ys) (cap := G) (T := e) (K := K) (r := r)
                (C := (xs.map iv ++ ys.map iv).toArray ++ Builtin.zeroCells (Value.int .i64 0).cells (G - (xs.length + ys.length)))
                (w' := X.w.drew.alloc (.cells ((xs.map iv ++ ys.map iv).toArray ++ Builtin.zeroCells (Value.int .i64 0).cells (G - (xs.length + ys.length))) e))
                ⟨rfl, rfl, rfl⟩ rfl (by rw [hzl]; omega) (by rw [hzl]; exact hgc) hle (by simp [Builtin.zeroCells, Value.cells]; omega) (by
                  intro q z hz
                  have hq := (List.getElem?_eq_some_iff.1 hz).1
                  rw [hzl] at hq
                  rw [Array.getElem?_append_left (by simp; omega), List.getElem?_toArray, ← List.map_append, List.getElem?_map]
                  simp only [insL, List.take_length, List.drop_length, List.append_nil] at hz
                  rw [hz]; rfl) hk
              refine ⟨_, X', h', v, q1, q2, q3, rfl, ?_, q5⟩
              rw [hzl] at q4
              exact q4
      · cases hk
    · cases hk
  · intro R args h K
    simp only [insE]
    split
    · split
      · unfold asrt
        rw [cond_bind]
        congr 1
        rw [cond_bind]
        congr 1
      · rfl
    · rfl
  · intro h
    cases h

end Go.Eng
