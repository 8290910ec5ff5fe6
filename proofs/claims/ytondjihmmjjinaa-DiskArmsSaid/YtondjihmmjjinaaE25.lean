/- The engine, part 25: a row's arguments, opened as plain data. -/
import Derived.Test.YtondjihmmjjinaaE24
import Derived.WalkKit
import Derived.ProofKit
import Derived.OpenShut
import Derived.Below
import Derived.ChangeSame
namespace Go.Eng
open Go Go.ChangeShapes Go.WideShapes Go.ChangeAt Go.RowKit
set_option linter.unusedVariables false
set_option linter.unusedSimpArgs false

/-- What holds of plain data that was read. -/
def Wf : (g : GT) → g.ty → Prop
  | .int k, n => (Lit.int k n).wf = true
  | .bool, _ => True
  | .str, l => List.length l ≤ maxLen
  | .nil, _ => True
  | .cons a b, x => Wf a x.1 ∧ Wf b x.2
  | .sl t, xs => List.length xs ≤ maxLen ∧ ∀ y ∈ (show List t.ty from xs), Wf t y
  | .opq, _ => True

mutual
/-- The type's cells lie as the plain data's. -/
def openOK (P : Program) : Nat → TypeId → GT → Bool
  | 0, _, _ => false
  | n + 1, t, g => match P.underlying t with
    | some .bool => (match g with | .bool => true | _ => false)
    | some (.int k) => (match g with | .int k' => decide (k = k') | _ => false)
    | some .string => (match g with | .str => true | _ => false)
    | some (.slice e) => (match g with | .sl g => Nat.beq (P.cellsOf e) g.size && openOK P n e g | .opq => true | _ => false)
    | some (.struct fs) => g.isAgg && Nat.beq (P.cellsOf t) g.size && openFs P n fs.toList 0 g
    | _ => false
def openFs (P : Program) : Nat → List Field → Nat → GT → Bool
  | 0, _, _, _ => false
  | _ + 1, [], _, .nil => true
  | n + 1, f :: l, off, .cons a b => Nat.beq f.offset off && Nat.beq (P.cellsOf f.type) a.size && openOK P n f.type a && openFs P n l (off + a.size) b
  | _, _, _, _ => false
end

/-- The reading's data, for what is plain. -/
def dat2 {H : Type} : (g : GT) → g.ty → DataW H → Prop
  | .int k, n, d => d = .lit (.int k n)
  | .bool, b, d => d = .lit (.bool b)
  | .str, l, d => d = .lit (.string l)
  | .nil, _, d => d = .agg []
  | .cons a b, x, d => ∃ d1 ds, d = .agg (d1 :: ds) ∧ dat2 a x.1 d1 ∧ dat2 b x.2 (.agg ds)
  | .sl t, xs, d => (d = .nil ∧ xs = []) ∨ ∃ ds rest, d = .slice ds rest ∧ ds.length = List.length xs ∧ ∀ (i : Nat) (y : t.ty) (e : DataW H), (show List t.ty from xs)[i]? = some y → ds[i]? = some e → dat2 t y e
  | .opq, _, _ => True

/-- Blocks that are there. -/
def OldB (w : World) (b : Nat) : Prop := b < w.heap.size

def Opened {H : Type} (w : World) (g : GT) (cs : List Value) (d : DataW H) : Prop := ∃ x : g.ty, RepD (OldB w) w.heap g x cs ∧ Wf g x ∧ dat2 g x d

theorem pick_list {α : Type} {Q : Nat → α → Prop} : ∀ (n : Nat), (∀ i, i < n → ∃ y, Q i y) → ∃ l : List α, l.length = n ∧ ∀ i y, l[i]? = some y → Q i y
  | 0, _ => ⟨[], rfl, by simp⟩
  | n + 1, h => by
    obtain ⟨l, h1, h2⟩ := pick_list n (fun i hi => h i (by omega))
    obtain ⟨y, hy⟩ := h n (by omega)
    refine ⟨l ++ [y], by simp [h1], fun i z hz => ?_⟩
    rcases Nat.lt_or_ge i n with hi | hi
    · rw [List.getElem?_append_left (by omega)] at hz
      exact h2 i z hz
    · have hl := (List.getElem?_eq_some_iff.1 hz).1
      have : i = n := by simp [h1] at hl; omega
      subst this
      rw [List.getElem?_append_right (by omega)] at hz
      simp [h1] at hz
      subst hz
      exact hy

theorem cells?_spec {w : World} {b : Nat} {a : Addr} {n : Nat} {cs : List Value} (h : w.cells? b a n = some cs) : cs.length = n ∧ ∀ j v, cs[j]? = some v → w.cell? (a.add j) = some v := by
  unfold World.cells? at h
  split at h
  · refine ⟨by simpa using mapM_some_length h, fun j v hj => ?_⟩
    have hl : j < n := by
      have := (List.getElem?_eq_some_iff.1 hj).1
      rw [mapM_some_length h] at this
      simpa using this
    have := mapM_some_get h j j (by simp [hl])
    rw [this]
    exact hj
  · cases h

theorem cell_at {w : World} {a : Addr} {j : Nat} {v : Value} (hs : a.spot = none) (h : w.cell? (a.add j) = some v) : OldB w a.block ∧ cellAt w.heap a.block (a.off + j) = some v := by
  rw [add_none hs, cell_cellAt] at h
  refine ⟨?_, h⟩
  unfold cellAt at h
  split at h
  · rename_i hb
    exact (Array.getElem?_eq_some_iff.1 hb).1
  · cases h

/-- A slice's elements. -/
theorem row_open {H : Type} {w : World} {g : GT} {a : Addr} {len : Nat} {ds : List (DataW H)} (h : ∀ i, i < len → ∃ cs d, w.cells? 0 (a.add (i * g.size)) g.size = some cs ∧ ds[i]? = some d ∧ Opened w g cs d) :
    ∃ xs : List g.ty, xs.length = len ∧ RowRep (OldB w) w.heap g.size (RepD (OldB w) w.heap g) (some a) xs ∧ (∀ y ∈ xs, Wf g y) ∧ ∀ (i : Nat) (y : g.ty) (e : DataW H), xs[i]? = some y → ds[i]? = some e → dat2 g y e := by
  obtain ⟨xs, h1, h2⟩ := pick_list (Q := fun i (y : g.ty) => ∃ cs d, w.cells? 0 (a.add (i * g.size)) g.size = some cs ∧ ds[i]? = some d ∧ RepD (OldB w) w.heap g y cs ∧ Wf g y ∧ dat2 g y d) len (fun i hi => by
    obtain ⟨cs, d, k1, k2, y, k3, k4, k5⟩ := h i hi
    exact ⟨y, cs, d, k1, k2, k3, k4, k5⟩)
  have hsp : 0 < len → 0 < g.size → a.spot = none := by
    intro hl hg
    obtain ⟨cs, d, k1, _⟩ := h 0 hl
    obtain ⟨c1, c2⟩ := cells?_spec k1
    have hl : 0 < cs.length := by omega
    have := World.cell?_spot (c2 0 cs[0] (by simp [hl]))
    simpa [Addr.add] using this
  refine ⟨xs, h1, ?_, ?_, ?_⟩
  · intro i y hy
    obtain ⟨cs, d, k1, k2, k3, k4, k5⟩ := h2 i y hy
    obtain ⟨c1, c2⟩ := cells?_spec k1
    have hi : i < len := by rw [← h1]; exact (List.getElem?_eq_some_iff.1 hy).1
    have key : ∀ j v, cs[j]? = some v → a.spot = none ∧ OldB w a.block ∧ cellAt w.heap a.block (a.off + i * g.size + j) = some v := by
      intro j v hj
      have hjl := (List.getElem?_eq_some_iff.1 hj).1
      have hs := hsp (by omega) (by omega)
      have e := c2 j v hj
      rw [add_none hs] at e
      obtain ⟨e2, e3⟩ := cell_at rfl e
      exact ⟨hs, e2, e3⟩
    refine ⟨cs, k3, fun hz => ?_, fun j v hj => (key j v hj).2.2⟩
    have hl : 0 < cs.length := by omega
    have := key 0 cs[0] (by simp [hl])
    exact ⟨this.2.1, this.1⟩
  · intro y hy
    obtain ⟨i, hi⟩ := List.getElem?_of_mem hy
    obtain ⟨_, _, _, _, _, k4, _⟩ := h2 i y hi
    exact k4
  · intro i y e hy he
    obtain ⟨cs, d, k1, k2, k3, k4, k5⟩ := h2 i y hy
    rw [k2] at he
    cases he
    exact k5

theorem open_both {H : Type} {enc : TypeId × Value → H} {P : Program} {w : World} : ∀ (n : Nat),
    (∀ (t : TypeId) (g : GT) (fuel : Nat) (cs : List Value) (d : DataW H) (ps : List MemPlace), openOK P n t g = true → DataW.trod enc P w 0 (fun _ => true) true fuel t cs = some (d, ps) → Opened w g cs d) ∧
    (∀ (fs : List Field) (off : Nat) (g : GT) (fuel : Nat) (cs : List Value) (xs : List (DataW H × List MemPlace)), openFs P n fs off g = true → off + g.size ≤ cs.length → xs.length = fs.length →
      (∀ (i : Nat) (f : Field), fs[i]? = some f → DataW.trod enc P w 0 (fun _ => true) true fuel f.type ((cs.drop f.offset).take (P.cellsOf f.type)) = xs[i]?) →
      ∃ x : g.ty, RepD (OldB w) w.heap g x ((cs.drop off).take g.size) ∧ Wf g x ∧ dat2 g x (DataW.agg (xs.map (·.1))))
  | 0 => ⟨fun t g fuel cs d ps h => by simp [openOK] at h, fun fs off g fuel cs xs h => by simp [openFs] at h⟩
  | n + 1 => by
    obtain ⟨ih1, ih2⟩ := open_both (enc := enc) (P := P) (w := w) n
    refine ⟨fun t g fuel cs d ps h hd => ?_, fun fs off g fuel cs xs h hl hx hd => ?_⟩
    · simp only [openOK] at h
      split at h
      · rename_i hu
        cases g <;> simp only at h <;> try (cases h; done)
        obtain ⟨b, rfl, e⟩ := DataW.trod_bool hu hd
        cases e
        exact ⟨b, rfl, trivial, rfl⟩
      · rename_i k hu
        cases g <;> simp only at h <;> try (cases h; done)
        have h := of_decide_eq_true h
        subst h
        obtain ⟨m, rfl, e, hw⟩ := DataW.trod_int hu hd
        cases e
        exact ⟨m, rfl, hw, rfl⟩
      · rename_i hu
        cases g <;> simp only at h <;> try (cases h; done)
        obtain ⟨b, rfl, e, hs⟩ := DataW.trod_string hu hd
        cases e
        refine ⟨b.data.toList, ?_, ?_, rfl⟩
        · have : (⟨b.data.toList.toArray⟩ : ByteArray) = b := by cases b; simp
          simp only [RepD, this]
        · have : b.data.toList.length = b.size := Array.length_toList
          simp only [Wf, this]
          exact hs
      · rename_i e hu
        cases g <;> simp only at h <;> try (cases h; done)
        rotate_left
        · rcases DataW.trod_slice hu hd with ⟨rfl, _⟩ | ⟨a, len, cap, _, _, _, _, rfl, _⟩
          · exact ⟨Value.slice none 0 0, ⟨rfl, rfl⟩, trivial, trivial⟩
          · exact ⟨Value.slice (some a) len cap, ⟨rfl, rfl⟩, trivial, trivial⟩
        rename_i g
        simp only [Bool.and_eq_true, Nat.beq_eq] at h
        obtain ⟨hsz, hok⟩ := h
        rcases DataW.trod_slice hu hd with ⟨rfl, e⟩ | ⟨a, len, cap, elems, rest, m, rfl, rfl, e, _, hlc, hcm, hel, hel2, _, _⟩
        · cases e
          exact ⟨([] : List g.ty), ⟨none, 0, rfl, Nat.le_refl _, fun _ => rfl, rfl⟩, ⟨Nat.zero_le _, by simp⟩, .inl ⟨rfl, rfl⟩⟩
        · cases e
          rw [hsz] at hel2
          obtain ⟨xs, x1, x2, x3, x4⟩ := row_open (w := w) (g := g) (a := a) (len := len) (ds := elems.map (·.1)) (fun i hi => by
            have hi' : i < elems.length := by omega
            have h3 := hel2 i hi
            rw [List.getElem?_eq_getElem hi'] at h3
            obtain ⟨cs, k1, k2⟩ := Option.bind_eq_some_iff.1 h3
            refine ⟨cs, elems[i].1, k1, by simp [hi'], ih1 e g m cs elems[i].1 elems[i].2 hok k2⟩)
          refine ⟨xs, ⟨some a, cap, by rw [x1], by rw [x1]; exact hlc, (fun e => by cases e), x2⟩, ⟨by rw [x1]; omega, x3⟩, .inr ⟨_, _, rfl, by simp [x1, hel], x4⟩⟩
      · rename_i fs hu
        simp only [Bool.and_eq_true, Nat.beq_eq] at h
        obtain ⟨⟨hag, hsz⟩, hfs⟩ := h
        obtain ⟨xs, m, rfl, e, hl, hx, hf⟩ := DataW.trod_struct hu hd
        cases e
        obtain ⟨x, k1, k2, k3⟩ := ih2 fs.toList 0 g m cs xs hfs (by omega) (by simpa using hx) (fun i f hi => hf i f (by simpa using hi))
        refine ⟨x, ?_, k2, k3⟩
        rw [List.drop_zero, List.take_of_length_le (by omega)] at k1
        exact k1
      · cases h
    · cases fs with
      | nil =>
        cases g <;> simp only [openFs] at h <;> try (cases h; done)
        have : xs = [] := by simpa using hx
        subst this
        exact ⟨(), by simp [RepD, GT.size], trivial, rfl⟩
      | cons f l =>
        cases g <;> simp only [openFs] at h <;> try (cases h; done)
        rename_i a b
        simp only [Bool.and_eq_true, Nat.beq_eq] at h
        obtain ⟨⟨⟨ho, hc⟩, hok⟩, hfs⟩ := h
        match xs, hx with
        | y :: ys, hx =>
          simp only [GT.size] at hl
          have h0 := hd 0 f rfl
          rw [ho, hc] at h0
          simp only [List.getElem?_cons_zero] at h0
          obtain ⟨x1, k1, k2, k3⟩ := ih1 f.type a fuel _ y.1 y.2 hok h0
          obtain ⟨x2, m1, m2, m3⟩ := ih2 l (off + a.size) b fuel cs ys hfs (by omega) (by simpa using hx) (fun i f' hi => by simpa using hd (i + 1) f' (by simpa using hi))
          refine ⟨(x1, x2), ⟨_, _, ?_, k1, m1⟩, ⟨k2, m2⟩, ⟨y.1, ys.map (·.1), rfl, k3, m3⟩⟩
          simp only [GT.size]
          rw [List.take_add, List.drop_drop]

/-- Types of parameters. -/
def openL (P : Program) : List TypeId → List GT → Bool
  | [], [] => true
  | t :: ts, g :: gs => openOK P 40 t g && openL P ts gs
  | _, _ => false

def WfL : (gs : List GT) → tyL gs → Prop
  | [], _ => True
  | g :: gs, x => Wf g x.1 ∧ WfL gs x.2

def dat2L {H : Type} : (gs : List GT) → tyL gs → List (DataW H) → Prop
  | [], _, ds => ds = []
  | g :: gs, x, ds => ∃ d r, ds = d :: r ∧ dat2 g x.1 d ∧ dat2L gs x.2 r

/-- A parameter's value has its type's outer form. -/
theorem form_of {P : Program} {w : World} {r : Reach} {b0 n : Nat} {t : TypeId} {g : GT} {v : Value} (h : openOK P n t g = true) (hv : Value.okWide P w r b0 t v) : v = mkV g.isAgg v.cells.toList := by
  cases n with
  | zero => simp [openOK] at h
  | succ n =>
    simp only [openOK] at h
    split at h
    · rename_i hu
      cases g <;> simp only at h <;> try (cases h; done)
      obtain ⟨b, rfl⟩ := okWide_bool hu hv
      simp [mkV, GT.isAgg, Value.cells]
    · rename_i k hu
      cases g <;> simp only at h <;> try (cases h; done)
      obtain ⟨b, rfl⟩ := okWide_int hu hv
      simp [mkV, GT.isAgg, Value.cells]
    · rename_i hu
      cases g <;> simp only at h <;> try (cases h; done)
      obtain ⟨b, rfl⟩ := okWide_string hu hv
      simp [mkV, GT.isAgg, Value.cells]
    · rename_i e hu
      cases g <;> simp only at h <;> try (cases h; done)
      all_goals
        obtain ⟨a, len, cap, rfl⟩ := okWide_slice hu hv
        simp [mkV, GT.isAgg, Value.cells]
    · rename_i fs hu
      simp only [Bool.and_eq_true] at h
      simp only [Value.okWide, hu] at hv
      obtain ⟨cs, rfl, _⟩ := hv
      rw [h.1.1]
      simp [mkV, Value.cells]
    · cases h

/-- All parameters, opened. -/
theorem open_all {H : Type} {enc : TypeId × Value → H} {P : Program} {w : World} {r : Reach} {b0 : Nat} : ∀ (ts : List TypeId) (gs : List GT) (vs : List Value) (ds : List (DataW H)) (ps : List MemPlace),
    DataW.TrodAll enc P w 0 (fun _ => true) true ts vs ds ps → (∀ (j : Nat) t v, ts[j]? = some t → vs[j]? = some v → Value.okWide P w r b0 t v) → openL P ts gs = true →
    ∃ xs : tyL gs, RepL ⟨[], OldB w, w⟩ (datL gs xs) vs ∧ WfL gs xs ∧ dat2L gs xs ds
  | [], [], vs, ds, ps, h, _, _ => by
    cases vs with
    | nil => cases ds with
      | nil => exact ⟨(), trivial, trivial, rfl⟩
      | cons _ _ => exact h.elim
    | cons _ _ => cases ds <;> exact h.elim
  | t :: ts, g :: gs, vs, ds, ps, h, hv, ho => by
    simp only [openL, Bool.and_eq_true] at ho
    match vs, ds, h with
    | v :: vs, d :: ds, ⟨p, q, h1, h2, _⟩ =>
      obtain ⟨fuel, h1⟩ := h1
      obtain ⟨x, k1, k2, k3⟩ := (open_both (enc := enc) (P := P) (w := w) 40).1 t g fuel _ d p ho.1 h1
      obtain ⟨xs, m1, m2, m3⟩ := open_all ts gs vs ds q h2 (fun j t v ht hv' => hv (j + 1) t v (by simpa using ht) (by simpa using hv')) ho.2
      refine ⟨(x, xs), ⟨⟨_, k1, ?_⟩, m1⟩, ⟨k2, m2⟩, ⟨d, ds, rfl, k3, m3⟩⟩
      rw [← form_of ho.1 (hv 0 t v rfl rfl)]
  | [], _ :: _, _, _, _, _, _, ho => by cases ho
  | _ :: _, [], _, _, _, _, _, ho => by cases ho

end Go.Eng
