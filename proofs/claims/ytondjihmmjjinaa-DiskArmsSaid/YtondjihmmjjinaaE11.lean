/- The engine, part 11: make, literals, conversions. -/
import Derived.Test.YtondjihmmjjinaaE10
namespace Go.Eng
open Go
set_option linter.unusedVariables false
set_option linter.unusedSimpArgs false

theorem madeCells_get {z : Array Value} {n k : Nat} (hk : k < n) : (madeCells z n)[k]? = some (z[k % z.size]!) := by
  simp [madeCells, hk]

theorem mul_mod_add (i s j : Nat) (hj : j < s) : (i * s + j) % s = j := by
  rw [Nat.add_comm, Nat.add_mul_mod_self_right, Nat.mod_eq_of_lt hj]

theorem makeSliceK_sound {R : Type} {P : Program} {t : TypeId} {un : Bool} {B : Base} {X : HS} {h : List SO} {l c : SV} {lv cv : Value} {K : Kont R} {r : R} (H : HRep B X h) (hl : Rep X l .val [lv]) (hc : Rep X c .val [cv])
    (hk : makeSliceK P t true un l c h K = some r) : Out B X K r ((Instr.makeSlice t lv cv).run P X.w) := by
  unfold makeSliceK at hk
  split at hk
  · rename_i e k1 n k2 m ht
    rw [rep_int hl, rep_int hc]
    split at hk
    · rename_i g hg
      replace hk := bif_some hk
      obtain ⟨hc1, hk⟩ := hk
      simp only [Bool.and_eq_true] at hc1
      obtain ⟨⟨⟨_, he⟩, hsm⟩, hz⟩ := hc1
      obtain ⟨e1, e2⟩ := elemOK_spec he
      obtain ⟨i, v, hi, hv, hcz⟩ := zeroOK_spec hz
      obtain ⟨i', hi', b1, _⟩ := smallTy_spec hsm
      rw [hi] at hi'
      cases hi'
      replace hk := asrt_true hk
      obtain ⟨hc2, hk⟩ := hk
      simp only [Bool.and_eq_true, decide_eq_true_eq] at hc2
      obtain ⟨⟨n0, nm⟩, mL⟩ := hc2
      have n0 : (0 : Int) ≤ n := n0
      have nm : (show Int from n) ≤ (show Int from m) := nm
      have mL : (show Int from m) ≤ ((LIM : Nat) : Int) := mL
      obtain ⟨n, rfl⟩ := Int.eq_ofNat_of_zero_le n0
      obtain ⟨m, rfl⟩ := Int.eq_ofNat_of_zero_le (Int.le_trans n0 nm)
      have nm' : n ≤ m := by simpa using nm
      have mL' : m ≤ 4294967296 := by
        have h : (m : Int) ≤ ((4294967296 : Nat) : Int) := mL
        omega
      have hby : (i.bytes : Int) * (m : Int) ≤ 281474976710656 := by
        have : i.bytes * m ≤ 4096 * 4294967296 := Nat.mul_le_mul b1 mL'
        have h2 : ((i.bytes * m : Nat) : Int) ≤ 281474976710656 := by omega
        rwa [Int.natCast_mul] at h2
      have hrun := run_make (P := P) X.w t e i v ht hi hv k1 k2 (n : Int) (m : Int) (by omega) (by omega) hby (by omega)
      simp only [Int.toNat_natCast] at hrun
      have hsz : i.size = g.size := by
        obtain ⟨d, i', _, h2, h3, _⟩ := tyShape_spec e1
        rw [hi] at h2
        cases h2
        exact h3
      have hzl : v.cells.size = g.size := by rw [← Array.length_toList, hcz, cellsZ_len]
      rw [hsz] at hrun
      have hk' : K (.own h.length) (h ++ [.arr g (List.replicate n g.dflt)]) = some r := by simpa using hk
      by_cases hm : m = 0
      · subst hm
        have : n = 0 := by omega
        subst this
        obtain ⟨H', E'⟩ := H.new (w' := X.w.alloc (.cells (madeCells v.cells (0 * g.size)) e)) (val := .slice (some ⟨X.w.heap.size, 0, none⟩) 0 0) (o := .arr g []) rfl rfl rfl rfl
          (fun b hb => by simp [Value.blk] at hb) (fun _ => .inl ⟨_, new_rep H.len _, rfl⟩)
        exact ⟨_, _, .own h.length, _, hrun, E', H', ⟨_, new_rep H.len _, rfl, rfl⟩, by simpa using hk'⟩
      · have hE : Elems X g (List.replicate n g.dflt) ((madeCells v.cells (m * g.size)).toList.take (n * g.size)) := by
          have hnm : n * g.size ≤ m * g.size := Nat.mul_le_mul_right _ nm'
          refine ⟨by rw [List.length_take, Array.length_toList, size_madeCells, Nat.min_eq_left hnm, List.length_replicate], ?_⟩
          intro i y hy
          have hin : i < n := by have := (List.getElem?_eq_some_iff.1 hy).1; simpa using this
          have : y = g.dflt := by simp [hin] at hy; exact hy.symm
          subst this
          refine ⟨cellsZ g, cellsZ_rep g, fun j w hj => ?_⟩
          have hjl : j < g.size := by rw [← cellsZ_len g]; exact (List.getElem?_eq_some_iff.1 hj).1
          have h1 := Nat.mul_le_mul_right g.size (show i + 1 ≤ n by omega)
          rw [Nat.add_mul, Nat.one_mul] at h1
          rw [List.getElem?_take, if_pos (by omega), Array.getElem?_toList, madeCells_get (by omega), hzl, mul_mod_add _ _ _ hjl]
          rw [← hcz, Array.getElem?_toList] at hj
          have hjs : j < v.cells.size := by omega
          rw [Array.getElem?_eq_getElem hjs] at hj
          rw [getElem!_pos v.cells j hjs]
          exact hj
        refine newRowObj (ys := List.replicate n g.dflt) (post := (madeCells v.cells (m * g.size)).toList.drop (n * g.size)) (T := e) (fz := (0, 0)) (cap := m) (w' := X.w.alloc (.cells (madeCells v.cells (m * g.size)) e)) H rfl rfl rfl ?_
          ⟨by intro j _; simp, fun _ => ⟨rfl, by unfold LIM at *; omega⟩⟩ hE (by simpa using nm') (by omega) e2 (by rw [List.take_append_drop]; simp [size_madeCells]) (by simpa using hrun) hk'
        rw [List.take_append_drop]
        rfl
    · cases hk
  · cases hk

/-! ### The literal of a slice, of a struct -/

theorem foldSet (v : List Value) : ∀ (k off : Nat) (cs : Array Value), off + k + v.length ≤ cs.size →
    (v.zipIdx k).foldl (fun (cs : Array Value) (x : Value × Nat) => cs.setIfInBounds (off + x.2) x.1) cs = (ow cs.toList (off + k) v).toArray := by
  induction v with
  | nil => intro k off cs h; simp [ow]
  | cons a v ih =>
    intro k off cs h
    simp only [List.length_cons] at h
    simp only [List.zipIdx_cons, List.foldl_cons]
    rw [ih (k + 1) off _ (by simpa using by omega)]
    congr 1
    apply List.ext_getElem?
    intro n
    have hq : cs.toList.length = cs.size := Array.length_toList
    rw [ow_get (by simp; omega), ow_get (by simp only [List.length_cons, hq]; omega)]
    simp only [Array.toList_setIfInBounds, List.getElem?_set, List.length_cons, List.getElem?_cons, hq]
    repeat' split
    all_goals first
      | rfl
      | (exfalso; omega)
      | (congr 1; omega)
      | simp_all

theorem fill_cons {pl : Nat → Option (Nat × Nat)} {cs : List Value} {i off size : Nat} {v : Value} {rest : List (Nat × Value)} (hp : pl i = some (off, size)) (hs : v.cells.size = size) (hl : off + size ≤ cs.length) :
    Instr.fill pl cs.toArray ((i, v) :: rest) = Instr.fill pl (ow cs off v.cells.toList).toArray rest := by
  simp only [Instr.fill, hp]
  rw [if_neg (by simp; omega)]
  have := foldSet v.cells.toList 0 off cs.toArray (by simp; omega)
  simp only [Nat.add_zero] at this
  rw [← this]
  congr 1
  rw [← Array.foldl_toList]
  simp

theorem setS_shape {v : SV} : ∀ (l : SV) (i : Nat) (l' : SV), setS l i v = some l' → ∀ n, offS l' n = offS l n ∧ (nthS l' n).map SV.size = (nthS l n).map SV.size
  | .scons a b, 0, l', h, n => by
    simp only [setS] at h
    obtain ⟨hc, h⟩ := bif_some h
    simp only [Bool.and_eq_true, Nat.beq_eq] at hc
    cases h
    cases n with
    | zero => simp [offS, nthS, hc.1.1]
    | succ n => simp [offS, nthS, hc.1.1]
  | .scons a b, i + 1, l', h, n => by
    simp only [setS] at h
    split at h
    · rename_i b' hb
      cases h
      cases n with
      | zero => simp [offS, nthS]
      | succ n =>
        obtain ⟨h1, h2⟩ := setS_shape b i b' hb n
        simp [offS, nthS, h1, h2]
    · cases h
  | .dat _ _, i, u, hn, _ => by simp [setS] at hn
  | .nils, i, u, hn, _ => by simp [setS] at hn
  | .emp, i, u, hn, _ => by simp [setS] at hn
  | .nilp, i, u, hn, _ => by simp [setS] at hn
  | .nilm, i, u, hn, _ => by simp [setS] at hn
  | .nilfn, i, u, hn, _ => by simp [setS] at hn
  | .nsl _ _, i, u, hn, _ => by simp [setS] at hn
  | .box _ _ _, i, u, hn, _ => by simp [setS] at hn
  | .el _ _ _ _ _, i, u, hn, _ => by simp [setS] at hn
  | .rd _ _, i, u, hn, _ => by simp [setS] at hn
  | .own _, i, u, hn, _ => by simp [setS] at hn
  | .mp _, i, u, hn, _ => by simp [setS] at hn
  | .fn _ _, i, u, hn, _ => by simp [setS] at hn
  | .snil, i, u, hn, _ => by simp [setS] at hn
  | .agg _, i, u, hn, _ => by simp [setS] at hn
  | .tup _, i, u, hn, _ => by simp [setS] at hn

theorem setS_nth {v : SV} : ∀ (l : SV) (i : Nat) (l' : SV), setS l i v = some l' → v.stor = true ∧ ∃ u, nthS l i = some u ∧ u.size = v.size
  | .scons a b, 0, l', h => by
    simp only [setS] at h
    obtain ⟨hc, h⟩ := bif_some h
    simp only [Bool.and_eq_true, Nat.beq_eq] at hc
    exact ⟨hc.2, a, rfl, hc.1.1⟩
  | .scons a b, i + 1, l', h => by
    simp only [setS] at h
    split at h
    · rename_i b' hb
      exact setS_nth b i b' hb
    · cases h
  | .dat _ _, i, u, hn => by simp [setS] at hn
  | .nils, i, u, hn => by simp [setS] at hn
  | .emp, i, u, hn => by simp [setS] at hn
  | .nilp, i, u, hn => by simp [setS] at hn
  | .nilm, i, u, hn => by simp [setS] at hn
  | .nilfn, i, u, hn => by simp [setS] at hn
  | .nsl _ _, i, u, hn => by simp [setS] at hn
  | .box _ _ _, i, u, hn => by simp [setS] at hn
  | .el _ _ _ _ _, i, u, hn => by simp [setS] at hn
  | .rd _ _, i, u, hn => by simp [setS] at hn
  | .own _, i, u, hn => by simp [setS] at hn
  | .mp _, i, u, hn => by simp [setS] at hn
  | .fn _ _, i, u, hn => by simp [setS] at hn
  | .snil, i, u, hn => by simp [setS] at hn
  | .agg _, i, u, hn => by simp [setS] at hn
  | .tup _, i, u, hn => by simp [setS] at hn

theorem fill_rep {X : HS} {ev : Operand → Option SV} {σ : Operand → Value} (hev : ∀ x v, ev x = some v → Rep X v .val [σ x]) {pl : Nat → Option (Nat × Nat)} :
    ∀ (ps : List (Nat × Operand)) (l l' : SV) (cs : List Value), setParts ev l ps = some l' → Rep X l .cells cs → (∀ n u, nthS l n = some u → pl n = some (offS l n, u.size)) →
    ∃ cs', Instr.fill pl cs.toArray (ps.map fun x => (x.1, σ x.2)) = some cs'.toArray ∧ Rep X l' .cells cs'
  | [], l, l', cs, h, hr, _ => by
    simp only [setParts, Option.some.injEq] at h
    subst h
    exact ⟨cs, rfl, hr⟩
  | (i, x) :: ps, l, l', cs, h, hr, hp => by
    simp only [setParts] at h
    split at h
    · rename_i v hv
      split at h
      · rename_i l1 hl1
        have hxv := hev x v hv
        obtain ⟨hst, u, hu, hus⟩ := setS_nth l i l1 hl1
        obtain ⟨vv, e, hvc, _⟩ := Rep_val_one v _ hst hxv
        have e : σ x = vv := by simpa using e
        rw [← e] at hvc
        have hvl := Rep_len v _ hvc
        obtain ⟨k1, k2⟩ := setS_rep hvc l i l1 cs hr hl1
        have hpl := hp i u hu
        obtain ⟨cs', q1, q2⟩ := fill_rep hev ps l1 l' _ h k2 (fun n w hw => by
          obtain ⟨s1, s2⟩ := setS_shape l i l1 hl1 n
          rw [hw] at s2
          simp only [Option.map_some] at s2
          cases hn : nthS l n with
          | none => rw [hn] at s2; cases s2
          | some w' =>
            rw [hn] at s2
            simp only [Option.map_some, Option.some.injEq] at s2
            rw [s1, s2]
            exact hp n w' hn)
        refine ⟨cs', ?_, q2⟩
        simp only [List.map_cons]
        rw [fill_cons hpl (by rw [hus, ← hvl]; simp) (by rw [hus, ← hvl]; simpa using k1)]
        exact q1
      · cases h
    · cases h

theorem run_mapM {α β : Type} {P : Program} {w : World} {f : α → Sem β} {g : α → β} : ∀ (l : List α), (∀ x ∈ l, (f x).run P w = .ok (g x) w) → (l.mapM f).run P w = .ok (l.map g) w
  | [], _ => by simp
  | x :: l, h => by
    rw [List.mapM_cons]
    simp only [Sem.run_bind, h x (by simp), Result.andThen_ok, run_mapM l (fun y hy => h y (by simp [hy])), Sem.run_pure, List.map_cons]

theorem placesOK_spec {P : Program} {l : SV} : ∀ (fs : List Field) (n : Nat), placesOK P l fs n = true → ∀ k f, fs[k]? = some f → ∃ u, nthS l (n + k) = some u ∧ offS l (n + k) = f.offset ∧ fits P f.type u = true
  | [], n, _, k, f, hf => by simp at hf
  | f0 :: fs, n, h, k, f, hf => by
    simp only [placesOK, Bool.and_eq_true] at h
    cases k with
    | zero =>
      simp only [List.getElem?_cons_zero, Option.some.injEq] at hf
      subst hf
      obtain ⟨h1, _⟩ := h
      split at h1
      · rename_i u hu
        simp only [Bool.and_eq_true, Nat.beq_eq] at h1
        exact ⟨u, hu, h1.1, h1.2⟩
      · cases h1
    | succ k =>
      obtain ⟨u, q⟩ := placesOK_spec fs (n + 1) h.2 k f (by simpa using hf)
      rw [show n + 1 + k = n + (k + 1) by omega] at q
      exact ⟨u, q⟩

theorem nthS_lt : ∀ (l : SV) (n : Nat) (u : SV), nthS l n = some u → n < l.toL.length
  | .scons a b, 0, u, _ => by simp [SV.toL]
  | .scons a b, n + 1, u, h => by simp only [nthS] at h; have := nthS_lt b n u h; simp [SV.toL]; omega
  | .dat _ _, i, u, hn => by simp [nthS] at hn
  | .nils, i, u, hn => by simp [nthS] at hn
  | .emp, i, u, hn => by simp [nthS] at hn
  | .nilp, i, u, hn => by simp [nthS] at hn
  | .nilm, i, u, hn => by simp [nthS] at hn
  | .nilfn, i, u, hn => by simp [nthS] at hn
  | .nsl _ _, i, u, hn => by simp [nthS] at hn
  | .box _ _ _, i, u, hn => by simp [nthS] at hn
  | .el _ _ _ _ _, i, u, hn => by simp [nthS] at hn
  | .rd _ _, i, u, hn => by simp [nthS] at hn
  | .own _, i, u, hn => by simp [nthS] at hn
  | .mp _, i, u, hn => by simp [nthS] at hn
  | .fn _ _, i, u, hn => by simp [nthS] at hn
  | .snil, i, u, hn => by simp [nthS] at hn
  | .agg _, i, u, hn => by simp [nthS] at hn
  | .tup _, i, u, hn => by simp [nthS] at hn

theorem pack_isAgg : ∀ (l : SV) (g : GT) (x : g.ty), pack? l = some ⟨g, x⟩ → g.isAgg = true
  | .snil, g, x, h => by
    simp only [pack?, Option.some.injEq] at h
    cases h
    rfl
  | .scons (.dat a y) b, g, x, h => by
    simp only [pack?] at h
    split at h
    · simp only [Option.some.injEq] at h
      cases h
      rfl
    · cases h

theorem mkAgg_agg {l : SV} {X : HS} {cs : List Value} (h : Rep X l .cells cs) : Rep X (mkAgg l) .val [.agg cs.toArray] := by
  unfold mkAgg
  split
  · rename_i g x hp
    exact ⟨cs, pack_rep l g x cs hp h, by simp [mkV, pack_isAgg l g x hp]⟩
  · exact ⟨cs, h, rfl⟩

/-- The places of parts of one size. -/
theorem nthS_even {s : Nat} : ∀ {l : SV} {n : Nat} {u : SV}, (∀ x ∈ l.toL, x.size = s) → nthS l n = some u → offS l n = n * s ∧ u.size = s
  | .scons a b, 0, u, h, e => by
    simp only [nthS, Option.some.injEq] at e
    subst e
    exact ⟨by simp [offS], h a (by simp [SV.toL])⟩
  | .scons a b, n + 1, u, h, e => by
    simp only [nthS] at e
    obtain ⟨h1, h2⟩ := nthS_even (l := b) (n := n) (u := u) (fun x hx => h x (by simp [SV.toL, hx])) e
    refine ⟨?_, h2⟩
    simp only [offS]
    rw [h1, h a (by simp [SV.toL]), Nat.add_mul, Nat.one_mul, Nat.add_comm]
  | .snil, n, u, _, e => by simp [nthS] at e
  | .dat _ _, n, u, _, e => by simp [nthS] at e
  | .nils, n, u, _, e => by simp [nthS] at e
  | .emp, n, u, _, e => by simp [nthS] at e
  | .nilp, n, u, _, e => by simp [nthS] at e
  | .nilm, n, u, _, e => by simp [nthS] at e
  | .nilfn, n, u, _, e => by simp [nthS] at e
  | .nsl _ _, n, u, _, e => by simp [nthS] at e
  | .box _ _ _, n, u, _, e => by simp [nthS] at e
  | .el _ _ _ _ _, n, u, _, e => by simp [nthS] at e
  | .rd _ _, n, u, _, e => by simp [nthS] at e
  | .own _, n, u, _, e => by simp [nthS] at e
  | .mp _, n, u, _, e => by simp [nthS] at e
  | .vw _ _ _ _, n, u, _, e => by simp [nthS] at e
  | .fn _ _, n, u, _, e => by simp [nthS] at e
  | .agg _, n, u, _, e => by simp [nthS] at e
  | .tup _, n, u, _, e => by simp [nthS] at e

theorem buildK_sound {R : Type} {P : Program} {t : TypeId} {ps : Array (Nat × Operand)} {ev : Operand → Option SV} {σ : Operand → Value} {B : Base} {X : HS} {h : List SO} {K : Kont R} {r : R} (H : HRep B X h)
    (hev : ∀ x v, ev x = some v → Rep X v .val [σ x]) (hk : buildK P t ps.toList ev h K = some r) : Out B X K r ((Instr.build t (ps.map fun x => (x.1, σ x.2))).run P X.w) := by
  unfold buildK at hk
  split at hk
  · rename_i fs z ht hz
    split at hk
    · rename_i l hl
      obtain ⟨hc, hk⟩ := bif_some hk
      simp only [Bool.and_eq_true, Nat.beq_eq] at hc
      obtain ⟨⟨hpl, hlen⟩, _⟩ := hc
      split at hk
      · rename_i l' hl'
        obtain ⟨i, v, h1, h2, h3, h4⟩ := zero_spec hz
        have hzr := partsOf_rep (h4 X) hl
        have hsz : ∀ f ∈ fs.toList, (sizeOf f.type).run P X.w = .ok (((P.info? f.type).map (·.size)).getD 0) X.w := by
          intro f hf
          obtain ⟨k, hk⟩ := List.getElem?_of_mem hf
          obtain ⟨u, _, _, hf3⟩ := placesOK_spec fs.toList 0 hpl k f hk
          obtain ⟨_, i', _, hi', hsi, _⟩ := tyShape_spec (fits_spec hf3).1
          rw [run_sizeOf (fits_spec hf3).1, hi']
          simp [hsi]
        obtain ⟨cs', q1, q2⟩ := fill_rep hev (pl := fun n => ((fs.toList.map fun f => (f.offset, ((P.info? f.type).map (·.size)).getD 0)).toArray)[n]?) ps.toList l l' v.cells.toList hl' hzr (fun n u hu => by
          have hn := nthS_lt l n u hu
          rw [hlen] at hn
          obtain ⟨u', g1, g2, g3⟩ := placesOK_spec fs.toList 0 hpl n _ (List.getElem?_eq_getElem hn)
          rw [Nat.zero_add] at g1 g2
          rw [hu] at g1
          cases g1
          obtain ⟨_, i', _, hi', hsi, _⟩ := tyShape_spec (fits_spec g3).1
          simp only [List.getElem?_toArray, List.getElem?_map, List.getElem?_eq_getElem hn, Option.map_some, hi', Option.getD_some, hsi, g2])
        refine Out.here H ?_ (mkAgg_agg q2) hk
        have hmap : (ps.map fun x => (x.1, σ x.2)).toList = ps.toList.map fun x => (x.1, σ x.2) := by simp
        have hm := run_mapM (P := P) (w := X.w) (f := fun f : Field => (do pure (f.offset, ← sizeOf f.type) : Sem (Nat × Nat))) (g := fun f => (f.offset, ((P.info? f.type).map (·.size)).getD 0)) fs.toList
          (fun f hf => by simp [hsz f hf])
        simp only [Instr.build, Sem.run_bind, zeroValue, typeInfo, run_program, h1, h2, Result.andThen_ok, Sem.run_pure, run_underlying ht, Array.mapM_eq_mapM_toList, Sem.run_map, hm, hmap, q1]
      · cases hk
    · cases hk
  · rename_i len e z ht hz
    split at hk
    · rename_i l ag s hl hs
      obtain ⟨hc, hk⟩ := bif_some hk
      simp only [Bool.and_eq_true, List.all_eq_true, Nat.beq_eq] at hc
      split at hk
      · rename_i l' hl'
        obtain ⟨i, v, h1, h2, h3, h4⟩ := zero_spec hz
        have hzr := partsOf_rep (h4 X) hl
        obtain ⟨cs', q1, q2⟩ := fill_rep hev (pl := fun n => some (n * s, s)) ps.toList l l' v.cells.toList hl' hzr (fun n u hu => by
          obtain ⟨g1, g2⟩ := nthS_even hc.1 hu
          rw [g1, g2])
        refine Out.here H ?_ (mkAgg_agg q2) hk
        have hmap : (ps.map fun x => (x.1, σ x.2)).toList = ps.toList.map fun x => (x.1, σ x.2) := by simp
        simp only [Instr.build, Sem.run_bind, zeroValue, typeInfo, run_program, h1, h2, Result.andThen_ok, Sem.run_pure, run_underlying ht, run_sizeOf hs, hmap, q1]
      · cases hk
    · cases hk
  · cases hk

theorem fill_order {X : HS} {ev : Operand → Option SV} {σ : Operand → Value} (hev : ∀ x v, ev x = some v → Rep X v .val [σ x]) {size : Nat} :
    ∀ (ps : List (Nat × Operand)) (n : Nat) (vs : List SV) (cs : List Value), inOrder ev n ps = some vs → (∀ v ∈ vs, v.stor = true ∧ v.size = size) → (n + vs.length) * size ≤ cs.length →
    ∃ news, Instr.fill (fun i => some (i * size, size)) cs.toArray (ps.map fun x => (x.1, σ x.2)) = some (cs.take (n * size) ++ (news ++ cs.drop ((n + vs.length) * size))).toArray ∧ news.length = vs.length * size ∧
      ∀ (i : Nat) (v : SV), vs[i]? = some v → Rep X v .cells ((news.drop (i * size)).take size)
  | [], n, vs, cs, h, _, _ => by
    simp only [inOrder, Option.some.injEq] at h
    subst h
    exact ⟨[], by simp [Instr.fill], by simp, by simp⟩
  | (i, x) :: ps, n, vs, cs, h, hs, hl => by
    simp only [inOrder] at h
    replace h := bif_some h
    obtain ⟨hi, h⟩ := h
    simp only [Nat.beq_eq] at hi
    subst hi
    split at h
    · rename_i v hv
      split at h
      · rename_i vs' hvs
        simp only [Option.some.injEq] at h
        subst h
        obtain ⟨hst, hsz⟩ := hs v (by simp)
        obtain ⟨vv, e, hvc, _⟩ := Rep_val_one v _ hst (hev x v hv)
        have e : σ x = vv := by simpa using e
        rw [← e] at hvc
        have hvl := Rep_len v _ hvc
        rw [hsz] at hvl
        simp only [List.length_cons] at hl
        have hm : (i + 1) * size ≤ (i + (vs'.length + 1)) * size := Nat.mul_le_mul_right _ (by omega)
        have hm' := hm
        rw [Nat.add_mul, Nat.one_mul] at hm'
        have hfit : i * size + (σ x).cells.toList.length ≤ cs.length := by rw [hvl]; omega
        obtain ⟨news, q1, q2, q3⟩ := fill_order hev ps (i + 1) vs' (ow cs (i * size) (σ x).cells.toList) hvs (fun u hu => hs u (by simp [hu])) (by
          rw [ow_len hfit, show i + 1 + vs'.length = i + (vs'.length + 1) by omega]; exact hl)
        refine ⟨(σ x).cells.toList ++ news, ?_, by simp only [List.length_append, List.length_cons, q2, hvl, Nat.add_mul]; omega, ?_⟩
        · simp only [List.map_cons]
          rw [fill_cons rfl (by rw [← Array.length_toList]; exact hvl) (by omega), q1]
          congr 2
          have e1 : (ow cs (i * size) (σ x).cells.toList).take ((i + 1) * size) = cs.take (i * size) ++ (σ x).cells.toList := by
            unfold ow
            rw [← List.append_assoc, List.take_left']
            rw [List.length_append, List.length_take, hvl, Nat.add_mul, Nat.one_mul, Nat.min_eq_left (by omega)]
          have e2 : (ow cs (i * size) (σ x).cells.toList).drop ((i + 1 + vs'.length) * size) = cs.drop ((i + (vs'.length + 1)) * size) := by
            unfold ow
            rw [hvl, ← List.append_assoc, show i + 1 + vs'.length = i + (vs'.length + 1) by omega]
            have hx : (cs.take (i * size) ++ (σ x).cells.toList).length = i * size + size := by
              rw [List.length_append, List.length_take, hvl, Nat.min_eq_left (by omega)]
            rw [List.drop_append, List.drop_drop, hx, List.drop_eq_nil_of_le (by rw [hx]; omega), List.nil_append]
            congr 1
            omega
          rw [e1, e2]
          simp only [List.append_assoc, List.length_cons]
        · intro k u hu
          cases k with
          | zero =>
            simp only [List.getElem?_cons_zero, Option.some.injEq] at hu
            subst hu
            rw [Nat.zero_mul, List.drop_zero, List.take_append_of_le_length (by rw [hvl]; exact Nat.le_refl _), List.take_of_length_le (by rw [hvl]; exact Nat.le_refl _)]
            exact hvc
          | succ k =>
            have := q3 k u (by simpa using hu)
            rw [Nat.add_mul, Nat.one_mul, Nat.add_comm, List.drop_append, hvl, List.drop_eq_nil_of_le (by rw [hvl]; omega), List.nil_append, Nat.add_sub_cancel_left]
            exact this
      · cases h
    · cases h

theorem coeAll_get {h : List SO} {g : GT} : ∀ (vs : List SV) (xs : List g.ty), coeAll h g vs = some xs → vs.length = xs.length ∧ ∀ (i : Nat) (x : g.ty), xs[i]? = some x → ∃ v, vs[i]? = some v ∧ coe h v g = some x
  | [], xs, hc => by simp only [coeAll, Option.some.injEq] at hc; subst hc; simp
  | v :: vs, xs, hc => by
    simp only [coeAll] at hc
    split at hc
    · rename_i x hx
      split at hc
      · rename_i ys hy
        simp only [Option.some.injEq] at hc
        subst hc
        obtain ⟨h1, h2⟩ := coeAll_get vs ys hy
        refine ⟨by simp [h1], fun i z hz => ?_⟩
        cases i with
        | zero => simp only [List.getElem?_cons_zero, Option.some.injEq] at hz; subst hz; exact ⟨v, rfl, hx⟩
        | succ i => obtain ⟨u, q⟩ := h2 i z (by simpa using hz); exact ⟨u, by simpa using q⟩
      · cases hc
    · cases hc

theorem ownsAll_mem : ∀ (vs : List SV) (i : Nat) (v : SV), vs[i]? = some v → ∀ n ∈ v.owns, n ∈ ownsAll vs
  | [], i, v, h, _, _ => by simp at h
  | u :: vs, 0, v, h, n, hn => by simp only [List.getElem?_cons_zero, Option.some.injEq] at h; subst h; simp [ownsAll, hn]
  | u :: vs, i + 1, v, h, n, hn => by simp only [ownsAll, List.mem_append]; exact .inr (ownsAll_mem vs i v (by simpa using h) n hn)

theorem buildSliceK_sound {R : Type} {P : Program} {t : TypeId} {un : Bool} {len : Nat} {ps : Array (Nat × Operand)} {ev : Operand → Option SV} {σ : Operand → Value} {B : Base} {X : HS} {h : List SO} {K : Kont R} {r : R} (H : HRep B X h)
    (hev : ∀ x v, ev x = some v → Rep X v .val [σ x]) (hk : buildSliceK P t un len ps.toList ev h K = some r) : Out B X K r ((Instr.buildSlice t len (ps.map fun x => (x.1, σ x.2))).run P X.w) := by
  unfold buildSliceK at hk
  cases hlen0 : Nat.beq len 0 with
  | true =>
    rw [hlen0] at hk
    simp only [cond_true] at hk
    have hl0 : len = 0 := Nat.eq_of_beq_eq_true hlen0
    subst hl0
    split at hk
    · rename_i e ht hps
      have hps : ps = #[] := Array.ext' hps
      subst hps
      split at hk
      · rename_i g hg
        obtain ⟨hc, hk⟩ := bif_some hk
        simp only [Bool.and_eq_true] at hc
        obtain ⟨e1, e2⟩ := elemOK_spec hc.1
        obtain ⟨i, v, hi, hv, hcz⟩ := zeroOK_spec hc.2
        have hrun : (Instr.buildSlice t 0 ((#[] : Array (Nat × Operand)).map fun x => (x.1, σ x.2))).run P X.w = .ok (.slice (some ⟨X.w.heap.size, 0, none⟩) 0 0) (X.w.alloc (.cells #[] e)) := by
          simp [Instr.buildSlice, run_underlying ht, run_sizeOf e1, zeroValue, typeInfo, hi, hv, newRow, Instr.fill, Array.range_zero']
        have old : ∀ k : Nat, k < X.w.heap.size → (X.w.alloc (.cells #[] e)).heap[k]? = X.w.heap[k]? := fun k hk => by
          show (X.w.heap.push _)[k]? = _
          rw [Array.getElem?_push, if_neg (by omega)]
        obtain ⟨H1, E1⟩ := H.world (w' := X.w.alloc (.cells #[] e)) rfl rfl rfl (by show X.w.heap.size ≤ (X.w.heap.push _).size; simp) (fun b hb => old b (H.okLt b hb)) (fun n o b hn hl hb => old b (H.lt hn hl hb))
          (fun b hb _ => old b (Nat.lt_of_lt_of_le hb H.size))
        exact ⟨⟨X.ρ, X.Ok, X.w.alloc (.cells #[] e)⟩, h, .emp, _, hrun, E1, H1, ⟨_, rfl⟩, hk⟩
      · cases hk
    · cases hk
  | false =>
  rw [hlen0] at hk
  simp only [cond_false] at hk
  split at hk
  · rename_i e ht
    split at hk
    · rename_i g vs hg hvs
      replace hk := bif_some hk
      obtain ⟨hc, hk⟩ := hk
      simp only [Bool.and_eq_true, Nat.beq_eq, Nat.ble_eq, List.all_eq_true] at hc
      obtain ⟨⟨⟨⟨⟨_, he⟩, hz⟩, hlen⟩, hst⟩, hbig⟩ := hc
      obtain ⟨e1, e2⟩ := elemOK_spec he
      split at hk
      · rename_i xs hxs
        obtain ⟨i, v, hi, hv, hcz⟩ := zeroOK_spec hz
        obtain ⟨hl1, hget⟩ := coeAll_get vs xs hxs
        -- the sizes
        have hsz : ∀ u ∈ vs, u.stor = true ∧ u.size = g.size := by
          intro u hu
          refine ⟨hst u hu, ?_⟩
          obtain ⟨k, hk'⟩ := List.getElem?_of_mem hu
          have hkl : k < xs.length := by rw [← hl1]; exact (List.getElem?_eq_some_iff.1 hk').1
          obtain ⟨u', q1, q2⟩ := hget k _ (List.getElem?_eq_getElem hkl)
          rw [hk'] at q1
          cases q1
          -- u comes of an operand
          have hop : ∃ y, ev y = some u := by
            have : ∀ (ps : List (Nat × Operand)) (n : Nat) (vs : List SV), inOrder ev n ps = some vs → ∀ u ∈ vs, ∃ y, ev y = some u := by
              intro ps
              induction ps with
              | nil => intro n vs hh u hu; simp only [inOrder, Option.some.injEq] at hh; subst hh; simp at hu
              | cons p ps ih =>
                intro n vs hh u hu
                obtain ⟨i, x⟩ := p
                simp only [inOrder] at hh
                obtain ⟨_, hh⟩ := bif_some hh
                split at hh
                · rename_i w hw
                  split at hh
                  · rename_i ws hws
                    simp only [Option.some.injEq] at hh
                    subst hh
                    rcases List.mem_cons.1 hu with rfl | hu
                    · exact ⟨x, hw⟩
                    · exact ih _ _ hws u hu
                  · cases hh
                · cases hh
            exact this _ _ _ hvs u hu
          obtain ⟨y, hy⟩ := hop
          obtain ⟨vv, _, hvc, _⟩ := Rep_val_one u _ (hst u hu) (hev y u hy)
          rw [← Rep_len u _ hvc]
          exact RepD_len g _ _ (coe_rep H u g _ _ q2 hvc)
        have hzl : v.cells.size = g.size := by rw [← Array.length_toList, hcz, cellsZ_len]
        subst hlen
        -- the cells that are filled
        obtain ⟨news, q1, q2, q3⟩ := fill_order hev ps.toList 0 vs ((Array.range (vs.length * g.size)).map ((if vs.length * g.size = 0 then #[] else v.cells)[· % (if vs.length * g.size = 0 then #[] else v.cells).size]!)).toList hvs hsz (by simp)
        have hmap : (ps.map fun x => (x.1, σ x.2)).toList = ps.toList.map fun x => (x.1, σ x.2) := by simp
        have hdrop : (((Array.range (vs.length * g.size)).map ((if vs.length * g.size = 0 then #[] else v.cells)[· % (if vs.length * g.size = 0 then #[] else v.cells).size]!)).toList.drop ((0 + vs.length) * g.size)) = [] := by
          apply List.drop_eq_nil_of_le
          simp
        rw [hdrop] at q1
        simp only [Nat.zero_mul, List.take_zero, List.nil_append, List.append_nil, Array.toArray_toList] at q1
        have hrun : (Instr.buildSlice t vs.length (ps.map fun x => (x.1, σ x.2))).run P X.w = .ok (.slice (some ⟨X.w.heap.size, 0, none⟩) vs.length vs.length) (X.w.alloc (.cells news.toArray e)) := by
          have hb : ¬ (16777216 < vs.length * g.size) := by omega
          by_cases h0 : vs.length * g.size = 0
          · rw [if_pos h0] at q1
            simp only [h0, Array.range_zero', Array.map_empty] at q1
            simp [Instr.buildSlice, run_underlying ht, run_sizeOf e1, h0, q1, newRow, Array.range_zero']
          · rw [if_neg h0] at q1
            simp [Instr.buildSlice, run_underlying ht, run_sizeOf e1, h0, hb, zeroValue, typeInfo, hi, hv, q1, newRow]
        obtain ⟨H1, E1⟩ := kill_seal H (ownsAll vs)
        have hE : Elems ⟨X.ρ, okS X h (ownsAll vs), X.w⟩ g xs news := by
          refine ⟨by rw [q2, hl1], ?_⟩
          intro k y hy
          obtain ⟨u, p1, p2⟩ := hget k y hy
          have hr := coe_rep H u g y _ p2 (q3 k u p1)
          refine ⟨_, RepD_mono (okS_mono (ownsAll_mem vs k u p1)) (fun _ _ => rfl) g y _ hr, fun j w hj => get_take_drop hj⟩
        have hkl : (kill h (ownsAll vs)).length = h.length := kill_len _
        have hk' : K (.own (kill h (ownsAll vs)).length) (kill h (ownsAll vs) ++ [.arr g xs]) = some r := by rw [hkl]; exact hk
        by_cases h0 : vs.length = 0
        · have hx0 : xs = [] := List.eq_nil_of_length_eq_zero (by rw [← hl1]; exact h0)
          subst hx0
          rw [h0] at hrun
          obtain ⟨H', E'⟩ := H1.new (w' := X.w.alloc (.cells news.toArray e)) (val := .slice (some ⟨X.w.heap.size, 0, none⟩) 0 0) (o := .arr g []) rfl rfl rfl rfl
            (fun b hb => by simp [Value.blk] at hb) (fun _ => .inl ⟨_, new_rep H1.len _, rfl⟩)
          have hrun2 : (Instr.buildSlice t vs.length (ps.map fun x => (x.1, σ x.2))).run P X.w = .ok (.slice (some ⟨X.w.heap.size, 0, none⟩) 0 0) (X.w.alloc (.cells news.toArray e)) := by rw [h0]; exact hrun
          exact ⟨_, _, .own (kill h (ownsAll vs)).length, _, hrun2, E1.trans E', H', ⟨_, new_rep H1.len _, rfl, rfl⟩, hk'⟩
        · have key : Out B ⟨X.ρ, okS X h (ownsAll vs), X.w⟩ K r ((Instr.buildSlice t vs.length (ps.map fun x => (x.1, σ x.2))).run P X.w) := newRowObj (ys := xs) (news := news) (post := []) (T := e) (fz := (0, 0)) (cap := vs.length) (w' := X.w.alloc (.cells news.toArray e)) H1 rfl rfl rfl (by rw [List.append_nil]; rfl) ⟨by intro j _; simp, fun _ => ⟨rfl, by have := Nat.le_mul_of_pos_right vs.length e2; omega⟩⟩ hE
            (by rw [hl1]; exact Nat.le_refl _) (by omega) e2 (by simp [q2]) (by rw [← hl1]; exact hrun) hk'
          obtain ⟨X', h', v', val, a1, a2, a3, a4, a5⟩ := key
          exact ⟨X', h', v', val, a1, E1.trans a2, a3, a4, a5⟩
      · cases hk
    · cases hk
  · cases hk

/-! ### Conversions -/

theorem fold_push {α : Type} (f : α → UInt8) : ∀ (ns : List α) (s : ByteArray), ns.foldl (fun r n => r.push (f n)) s = ⟨s.data ++ (ns.map f).toArray⟩
  | [], s => by cases s; simp
  | n :: ns, s => by
    simp only [List.foldl_cons, fold_push f ns, List.map_cons]
    cases s
    simp [ByteArray.push]

theorem convK_sound {R : Type} {P : Program} {s d : TypeId} {un : Bool} {B : Base} {X : HS} {h : List SO} {x : SV} {xv : Value} {K : Kont R} {r : R} (H : HRep B X h) (hx : Rep X x .val [xv])
    (hk : convK P s d un x h K = some r) : Out B X K r ((convert s d xv).run P X.w) := by
  unfold convK at hk
  split at hk
  · rename_i k1 k2 k3 n hs hd
    rw [rep_int hx]
    exact Out.here H (by simp [convert, run_underlying hs, run_underlying hd, Conv.intToInt]) int_rep hk
  · rename_i l hs hd
    rw [rep_str hx]
    exact Out.here H (by simp [convert, run_underlying hs, run_underlying hd]) str_rep hk
  · rename_i e l hs hd
    rw [rep_str hx]
    split at hk
    · rename_i hu
      replace hk := bif_some hk
      obtain ⟨hc, hk⟩ := hk
      simp only [Bool.and_eq_true] at hc
      obtain ⟨⟨_, he⟩, _⟩ := hc
      obtain ⟨e1, e2⟩ := elemOK_spec he
      have hsz : (⟨l.toArray⟩ : ByteArray).size = l.length := by simp [ByteArray.size]
      let cells : List Value := l.map (fun b : UInt8 => Value.int .u8 (b.toNat : Int))
      let cap : Nat := (Question.appendCap l.length 0 e).cut (X.w.tape X.w.drawn (.appendCap l.length 0 e))
      have hcap : l.length ≤ cap := by simp only [cap, Question.cut]; omega
      let all : List Value := cells ++ List.replicate (cap - l.length) (.int .u8 0)
      let w' : World := { X.w with heap := X.w.heap.push (.cells all.toArray e (all.length, all.length + 1)), drawn := X.w.drawn + 1 }
      have hall : all.length = cap := by simp [all, cells]; omega
      have hrun : (convert s d (.string ⟨l.toArray⟩)).run P X.w = .ok (.slice (some ⟨X.w.heap.size, 0, none⟩) l.length cap) w' := by
        simp only [convert, Sem.run_bind, run_underlying hs, run_underlying hd, run_underlying hu, Result.andThen_ok, Conv.stringToBytes, hsz]
        have hch : (choose (.appendCap l.length 0 e)).run P X.w = .ok cap { X.w with drawn := X.w.drawn + 1 } := by
          simp [choose, Sem.run, Question.forced, cap]
        simp only [hch, Result.andThen_ok, newRow, Sem.run_bind, markStringish]
        have hn : ∀ (w : World) (o : Obj), (newObj o).run P w = .ok w.heap.size { w with heap := w.heap.push o } := fun _ _ => rfl
        simp only [hn, Result.andThen_ok, Sem.run_pure, run_shape]
        have harr : ((⟨l.toArray⟩ : ByteArray).data.map fun b => Value.int .u8 (b.toNat : Int)) ++ Array.replicate (cap - l.length) (Value.int .u8 0) = all.toArray := by
          simp [all, cells]
        rw [harr]
        have hshape : ({ X.w with drawn := X.w.drawn + 1, heap := X.w.heap.push (.cells all.toArray e) } : World).shape? X.w.heap.size = some (e, all.length) := by
          simp [World.shape?]
        have hshape' : World.shape? { heap := X.w.heap.push (.cells all.toArray e), tape := X.w.tape, drawn := X.w.drawn + 1, os := X.w.os, output := X.w.output } X.w.heap.size = some (e, all.length) := hshape
        simp only [hshape', run_freeze, Result.andThen_ok, World.freeze]
        simp only [Nat.one_ne_zero, if_false, w']
        congr 2
        apply Array.ext
        · simp
        · intro k h1 h2
          simp only [Array.getElem_modify, Array.getElem_push]
          simp only [Array.size_modify, Array.size_push] at h1
          by_cases hks : X.w.heap.size = k
          · subst hks
            simp
          · simp only [hks, if_false]
            rw [dif_pos (by omega), dif_pos (by omega)]
      have hE : Elems X (.int .u8) (l.map fun c => (c.toNat : Int)) cells := by
        refine ⟨by simp [cells, GT.size], ?_⟩
        intro i y hy
        refine ⟨[.int .u8 y], rfl, fun j v hj => ?_⟩
        cases j with
        | zero =>
          simp only [List.getElem?_cons_zero, Option.some.injEq] at hj
          subst hj
          simp only [List.getElem?_map] at hy
          cases hli : l[i]? with
          | none => rw [hli] at hy; cases hy
          | some c =>
            rw [hli] at hy
            simp only [Option.map_some, Option.some.injEq] at hy
            simp [cells, GT.size, hli, ← hy]
        | succ j => simp at hj
      by_cases h0 : cap = 0
      · have hl0 : l = [] := List.eq_nil_of_length_eq_zero (by omega)
        subst hl0
        rw [h0] at hrun
        obtain ⟨H', E'⟩ := H.new (w' := w') (val := .slice (some ⟨X.w.heap.size, 0, none⟩) 0 0) (o := .arr (.int .u8) []) rfl rfl rfl rfl
          (fun b hb => by simp [Value.blk] at hb) (fun _ => .inl ⟨_, new_rep H.len _, rfl⟩)
        exact ⟨_, _, .own h.length, _, hrun, E', H', ⟨_, new_rep H.len _, rfl, rfl⟩, by simpa using hk⟩
      · exact newRowObj (g := .int .u8) (ys := l.map fun c => (c.toNat : Int)) (news := cells) (post := List.replicate (cap - l.length) (.int .u8 0)) (T := e) (fz := (all.length, all.length + 1)) (cap := cap) (w' := w') H rfl rfl rfl rfl
          ⟨by intro j hj hh; have : j < all.length := hj; omega, fun e => by cases e⟩ hE (by simpa using hcap) (by omega) e2 (by show cap * 1 ≤ all.length; omega) (by simpa using hrun) hk
    · cases hk
  · rename_i e hs hd
    split at hk
    · rename_i hu
      split at hk
      · rename_i xs hxs
        obtain ⟨base, cap, news, rfl, hf, hE⟩ := listV_cells (P := P) (g := .int .u8) H (by decide) hx hxs
        have hxs' : ∃ zs : List Int, zs = xs := ⟨xs, rfl⟩
        obtain ⟨zs, rfl⟩ := hxs'
        have hnews : news = zs.map (Value.int .u8) := by
          apply List.ext_getElem?
          intro i
          cases hi : zs[i]? with
          | none =>
            have h1 : zs.length ≤ i := by simpa using hi
            have h2 : news.length = zs.length := by have := hE.len; simpa [GT.size] using this
            rw [List.getElem?_eq_none (by omega), List.getElem?_map, hi]
            rfl
          | some n =>
            obtain ⟨cs, q1, q2⟩ := hE.at' i n hi
            simp only [RepD] at q1
            subst q1
            have := q2 0 _ rfl
            simp only [GT.size, Nat.mul_one, Nat.add_zero] at this
            rw [this, List.getElem?_map, hi]
            rfl
        refine Out.here H ?_ str_rep hk
        rw [run_convert_bytes_string X.w s d e base _ cap hs hu hd]
        cases base with
        | none =>
          simp only [Builtin.firstCells, Sem.run_pure, Result.ok.injEq, and_true] at hf
          have h0 : news = [] := by simpa using hf.symm
          rw [h0] at hnews
          have hz0 : zs = [] := by simpa using hnews.symm
          rw [hz0]
          simp [Conv.bytesToString]
          rfl
        | some a =>
          simp only [Builtin.firstCells, GT.size, Nat.mul_one] at hf
          rw [run_bytesToString X.w a _ cap zs (by rw [hf, hnews]), fold_push]
          simp
      · cases hk
    · cases hk
  · cases hk

end Go.Eng
