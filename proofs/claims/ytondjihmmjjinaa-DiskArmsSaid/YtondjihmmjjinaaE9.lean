/- The engine, part 9: new variables, zero values, slices of slices and strings. -/
import Derived.Test.YtondjihmmjjinaaE8
namespace Go.Eng
open Go
set_option linter.unusedVariables false
set_option linter.unusedSimpArgs false

/-- A new block, and an object of it. -/
theorem HRep.new {B : Base} {X : HS} {h : List SO} (H : HRep B X h) {w' : World} {ob : Obj} (hos : w'.os = X.w.os) (ht : w'.tape = X.w.tape) (hu : w'.output = X.w.output)
    (hh : w'.heap = X.w.heap.push ob) {val : Value} {o : SO} (hval : ∀ b, val.blk = some b → b = X.w.heap.size)
    (ho : Ext X ⟨X.ρ ++ [val], X.Ok, w'⟩ → RepO ⟨X.ρ ++ [val], X.Ok, w'⟩ h.length o) :
    HRep B ⟨X.ρ ++ [val], X.Ok, w'⟩ (h ++ [o]) ∧ Ext X ⟨X.ρ ++ [val], X.Ok, w'⟩ := by
  have old : ∀ k : Nat, k < X.w.heap.size → w'.heap[k]? = X.w.heap[k]? := fun k hk => by
    rw [hh, Array.getElem?_push, if_neg (by omega)]
  obtain ⟨H1, E1⟩ := H.world (w' := w') hos ht hu (by rw [hh]; simp) (fun b hb => old b (H.okLt b hb)) (fun n o b hn hl hb => old b (H.lt hn hl hb))
    (fun b hb _ => old b (Nat.lt_of_lt_of_le hb H.size))
  have E2 : Ext X ⟨X.ρ ++ [val], X.Ok, w'⟩ := ⟨fun n v e => by
    show (X.ρ ++ [val])[n]? = some v
    rw [List.getElem?_append_left (List.getElem?_eq_some_iff.1 e).1]; exact e, fun _ e => e, E1.st⟩
  obtain ⟨H3, E3⟩ := H1.adopt (val := val) (o := o) (fun b _ hb => by
    have hbs := hval b hb
    subst hbs
    refine ⟨fun hok => absurd (H.okLt _ hok) (by omega), .inr H.size, fun n o' hn hl hb' => ?_⟩
    exact absurd (H.lt hn hl hb') (by omega)) (ho E2)
  exact ⟨H3, E2⟩

theorem new_rep {X : HS} {h : List SO} (hlen : X.ρ.length = h.length) (val : Value) : (X.ρ ++ [val])[h.length]? = some val := by
  rw [← hlen]; simp

theorem sameV_eq {a b : Value} (h : sameV a b = true) : a = b := by
  cases a <;> cases b <;> simp only [sameV] at h <;> try (cases h; done)
  case int.int => simp only [Bool.and_eq_true, decide_eq_true_eq] at h; rw [h.1, h.2]
  case bool.bool => simp only [beq_iff_eq] at h; rw [h]
  case string.string a b =>
    simp only [decide_eq_true_eq] at h
    cases a; cases b
    congr 1
    congr 1
    exact Array.ext' h
  case pointer.pointer a b => cases a <;> cases b <;> simp_all
  case slice.slice a l c b l' c' => cases a <;> cases b <;> simp_all
  case map.map a b => cases a <;> cases b <;> simp_all
  all_goals rfl

theorem sameVs_eq : ∀ {a b : List Value}, sameVs a b = true → a = b
  | [], [], _ => rfl
  | x :: a, y :: b, h => by
    simp only [sameVs, Bool.and_eq_true] at h
    rw [sameV_eq h.1, sameVs_eq h.2]
  | [], _ :: _, h => by simp [sameVs] at h
  | _ :: _, [], h => by simp [sameVs] at h

theorem cellsD_rep {Ok : Nat → Prop} {hp : Array Obj} : ∀ (g : GT) (x : g.ty) (acc cs : List Value), cellsB.cellsD g x acc = some cs → ∃ c, cs = c ++ acc ∧ RepD Ok hp g x c
  | .int k, n, acc, cs, h => by simp only [cellsB.cellsD, Option.some.injEq] at h; exact ⟨[_], h.symm, rfl⟩
  | .bool, n, acc, cs, h => by simp only [cellsB.cellsD, Option.some.injEq] at h; exact ⟨[_], h.symm, rfl⟩
  | .str, n, acc, cs, h => by simp only [cellsB.cellsD, Option.some.injEq] at h; exact ⟨[_], h.symm, rfl⟩
  | .nil, n, acc, cs, h => by simp only [cellsB.cellsD, Option.some.injEq] at h; exact ⟨[], h.symm, rfl⟩
  | .cons a b, x, acc, cs, h => by
    simp only [cellsB.cellsD] at h
    split at h
    · rename_i cs' h'
      obtain ⟨c2, rfl, r2⟩ := cellsD_rep (Ok := Ok) (hp := hp) b x.2 acc cs' h'
      obtain ⟨c1, rfl, r1⟩ := cellsD_rep (Ok := Ok) (hp := hp) a x.1 _ cs h
      exact ⟨c1 ++ c2, by simp, c1, c2, rfl, r1, r2⟩
    · cases h
  | .sl t, x, acc, cs, h => by simp [cellsB.cellsD] at h
  | .opq, x, acc, cs, h => by simp [cellsB.cellsD] at h

theorem cellsB_rep {X : HS} : ∀ (z : SV) (acc cs : List Value), cellsB z acc = some cs → ∃ c, cs = c ++ acc ∧ Rep X z .cells c
  | .dat g x, acc, cs, h => by
    cases g with
    | int k => simp only [cellsB, Option.some.injEq] at h; exact ⟨[_], h.symm, rfl⟩
    | bool => simp only [cellsB, Option.some.injEq] at h; exact ⟨[_], h.symm, rfl⟩
    | str => simp only [cellsB, Option.some.injEq] at h; exact ⟨[_], h.symm, rfl⟩
    | nil => simp only [cellsB, Option.some.injEq] at h; exact ⟨[], h.symm, rfl⟩
    | cons a b => simp only [cellsB] at h; exact cellsD_rep (.cons a b) x acc cs h
    | sl t => simp [cellsB] at h
    | opq => simp [cellsB] at h
  | .nils, acc, cs, h => by simp only [cellsB, Option.some.injEq] at h; exact ⟨[_], h.symm, rfl⟩
  | .nilp, acc, cs, h => by simp only [cellsB, Option.some.injEq] at h; exact ⟨[_], h.symm, rfl⟩
  | .nilm, acc, cs, h => by simp only [cellsB, Option.some.injEq] at h; exact ⟨[_], h.symm, rfl⟩
  | .nilfn, acc, cs, h => by simp only [cellsB, Option.some.injEq] at h; exact ⟨[_], h.symm, rfl⟩
  | .nsl _ _, acc, cs, h => by simp [cellsB] at h
  | .agg l, acc, cs, h => by simp only [cellsB] at h; exact cellsB_rep l acc cs h
  | .scons a b, acc, cs, h => by
    simp only [cellsB] at h
    split at h
    · rename_i cs' h'
      obtain ⟨c2, rfl, r2⟩ := cellsB_rep (X := X) b acc cs' h'
      obtain ⟨c1, rfl, r1⟩ := cellsB_rep (X := X) a _ cs h
      exact ⟨c1 ++ c2, by simp, c1, c2, rfl, r1, r2⟩
    · cases h
  | .snil, acc, cs, h => by simp only [cellsB, Option.some.injEq] at h; exact ⟨[], h.symm, rfl⟩
  | .emp, acc, cs, h => by simp [cellsB] at h
  | .box _ _ _, acc, cs, h => by simp [cellsB] at h
  | .el _ _ _ _ _, acc, cs, h => by simp [cellsB] at h
  | .rd _ _, acc, cs, h => by simp [cellsB] at h
  | .own _, acc, cs, h => by simp [cellsB] at h
  | .mp _, acc, cs, h => by simp [cellsB] at h
  | .fn _ _, acc, cs, h => by simp [cellsB] at h
  | .tup _, acc, cs, h => by simp [cellsB] at h

theorem zero_spec {P : Program} {t : TypeId} {z : SV} (h : zero P t = some z) : ∃ i v, P.info? t = some i ∧ i.zero = some v ∧ fits P t z = true ∧ ∀ X, Rep X z .cells v.cells.toList := by
  unfold zero at h
  split at h
  · rename_i z' i hz hi
    split at h
    · rename_i cs v hcs hv
      obtain ⟨hc, h⟩ := bif_some h
      simp only [Option.some.injEq] at h
      subst h
      simp only [Bool.and_eq_true] at hc
      refine ⟨i, v, hi, hv, hc.2, fun X => ?_⟩
      obtain ⟨c, e, r⟩ := cellsB_rep (X := X) z' [] cs hcs
      rw [List.append_nil] at e
      subst e
      rw [← sameVs_eq hc.1]
      exact r
    · cases h
  · cases h

/-- A new variable that holds a value. -/
theorem newBox {R : Type} {B : Base} {X : HS} {h : List SO} {v : SV} {val : Value} {T : TypeId} {K : Kont R} {r : R} {run : Result Value} (H : HRep B X h) (hv : Rep X v .cells val.cells.toList)
    (hrun : run = .ok (.pointer (some ⟨X.w.heap.size, 0, none⟩)) { X.w with heap := X.w.heap.push (.cells val.cells T) })
    (hk : K (.box h.length [] 0) (h ++ [.box v]) = some r) : Out B X K r run := by
  obtain ⟨H', E'⟩ := H.new (w' := { X.w with heap := X.w.heap.push (.cells val.cells T) }) (val := .pointer (some ⟨X.w.heap.size, 0, none⟩)) (o := .box v) rfl rfl rfl rfl
    (fun b hb => by simp only [Value.blk, Option.some.injEq] at hb; exact hb.symm)
    (fun E => ⟨X.w.heap.size, val.cells.toList, T, new_rep H.len _, by simp, Rep_mono E v .cells _ hv⟩)
  exact ⟨_, _, .box h.length [] 0, .pointer (some ⟨X.w.heap.size, 0, none⟩), hrun, E', H', ⟨X.w.heap.size, new_rep H.len _, rfl⟩, hk⟩

theorem alloc_sound {R : Type} {P : Program} {t : TypeId} {B : Base} {X : HS} {h : List SO} {z : SV} {K : Kont R} {r : R} (H : HRep B X h) (hz : zero P t = some z)
    (hk : K (.box h.length [] 0) (h ++ [.box z]) = some r) : Out B X K r ((Instr.alloc t true (.tuple #[])).run P X.w) := by
  obtain ⟨i, v, h1, h2, _, h4⟩ := zero_spec hz
  refine newBox (val := v) (T := t) H (h4 X) ?_ hk
  simp [Instr.alloc, zeroValue, typeInfo, h1, h2, newVar, newRow]

theorem box_sound {R : Type} {P : Program} {t : TypeId} {B : Base} {X : HS} {h : List SO} {v : SV} {vv : Value} {K : Kont R} {r : R} (H : HRep B X h) (hv : Rep X v .val [vv]) (hs : v.stor = true)
    (hk : K (.box h.length [] 0) (h ++ [.box v]) = some r) : Out B X K r ((Instr.box t vv).run P X.w) := by
  obtain ⟨u, e, hc, _⟩ := Rep_val_one v _ hs hv
  cases e
  refine newBox (val := vv) (T := t) H hc ?_ hk
  simp [Instr.box, newVar, newRow]

/-! ### Cutting strings and slices -/

/-- An operand that may be left out, and its value. -/
def RepOpt (X : HS) (v : Option SV) (x : Option Value) : Prop :=
  match v, x with
  | none, none => True
  | some v, some x => Rep X v .val [x]
  | _, _ => False

theorem optI_rep {X : HS} {v : Option SV} {x : Option Value} {n : Option Int} (h : optI v = some n) (hr : RepOpt X v x) :
    (n = none ∧ x = none) ∨ ∃ k m, n = some m ∧ x = some (.int k m) := by
  unfold optI at h
  split at h
  · cases h
    cases x with
    | none => exact .inl ⟨rfl, rfl⟩
    | some x => exact hr.elim
  · rename_i k m
    cases h
    cases x with
    | none => exact hr.elim
    | some x => exact .inr ⟨k, m, rfl, by rw [rep_int hr]⟩
  · cases h

theorem run_cut {P : Program} {w : World} {sl : Bool} {len cap : Nat} {lo hi : Option Value} {a b : Option Int} (ha : (a = none ∧ lo = none) ∨ ∃ k m, a = some m ∧ lo = some (.int k m))
    (hb : (b = none ∧ hi = none) ∨ ∃ k m, b = some m ∧ hi = some (.int k m)) (hc : bounds true len (a.getD 0) (b.getD (len : Int)) = true) (hcap : len ≤ cap) :
    (Instr.sliceBounds sl len cap lo hi none).run P w = .ok ((a.getD 0).toNat, (b.getD (len : Int)).toNat, cap) w := by
  simp only [bounds, Bool.and_eq_true, decide_eq_true_eq] at hc
  obtain ⟨⟨h1, h2⟩, h3⟩ := hc
  rcases ha with ⟨rfl, rfl⟩ | ⟨k, m, rfl, rfl⟩ <;> rcases hb with ⟨rfl, rfl⟩ | ⟨k', m', rfl, rfl⟩
  · simp [Instr.sliceBounds]
  · simp only [Option.getD_some, Option.getD_none] at h1 h2 h3
    have e1 : m' ≤ (cap : Int) := by omega
    simp [Instr.sliceBounds, Instr.sliceBound, asIntOf, h2, e1]
  · simp only [Option.getD_some, Option.getD_none] at h1 h2 h3
    simp [Instr.sliceBounds, Instr.sliceBound, asIntOf, h1, h2]
  · simp only [Option.getD_some] at h1 h2 h3
    have e1 : m' ≤ (cap : Int) := by omega
    have e2 : 0 ≤ m' := by omega
    have e3 : m ≤ max m' 0 := by omega
    simp [Instr.sliceBounds, Instr.sliceBound, asIntOf, h1, e1, e2, e3]

theorem subl_get {α : Type} (l : List α) (lo hi : Int) (i : Nat) : (subl l lo hi)[i]? = if lo.toNat + i < hi.toNat then l[lo.toNat + i]? else none := by
  simp only [subl, List.getElem?_drop, List.getElem?_take]

theorem subl_len {α : Type} (l : List α) (lo hi : Int) (h : hi ≤ (l.length : Int)) : (subl l lo hi).length = hi.toNat - lo.toNat := by
  simp only [subl, List.length_drop, List.length_take]
  omega

theorem addSpot {a : Addr} (h : a.spot = none) (n : Nat) : (a.add n).block = a.block ∧ (a.add n).off = a.off + n ∧ (a.add n).spot = none := by
  rw [add_none h]; exact ⟨rfl, rfl, rfl⟩

theorem sliceK_sound {R : Type} {P : Program} {t : TypeId} {un : Bool} {B : Base} {X : HS} {h : List SO} {x : SV} {lo hi mx : Option SV} {xv : Value} {lov hiv mxv : Option Value} {K : Kont R} {r : R} (H : HRep B X h)
    (hx : Rep X x .val [xv]) (hlo : RepOpt X lo lov) (hhi : RepOpt X hi hiv) (hmx : RepOpt X mx mxv)
    (hk : sliceK P t true un x lo hi mx h K = some r) : Out B X K r ((Instr.sliceAt t xv lov hiv mxv).run P X.w) := by
  unfold sliceK at hk
  split at hk
  · rename_i a b ht ha hb
    have ha' := optI_rep ha hlo
    have hb' := optI_rep hb hhi
    cases mxv with
    | some _ => exact hmx.elim
    | none =>
      split at hk
      · rename_i l
        obtain ⟨hc, hk⟩ := asrt_true hk
        rw [rep_str hx]
        refine Out.here H ?_ str_rep hk
        have hs : (⟨l.toArray⟩ : ByteArray).size = l.length := by simp [ByteArray.size]
        have hcut := run_cut (P := P) (w := X.w) (sl := false) ha' hb' hc (Nat.le_refl _)
        simp [Instr.sliceAt, Instr.slice, run_underlying ht, hs, hcut, bytes_extract, subl]
      · cases hk
  · rename_i e a b ht ha hb
    have ha' := optI_rep ha hlo
    have hb' := optI_rep hb hhi
    cases mxv with
    | some _ => exact hmx.elim
    | none =>
      split at hk
      · rename_i g xs
        obtain ⟨he, hk⟩ := bif_some hk
        obtain ⟨e1, e2⟩ := elemOK_spec he
        obtain ⟨hc, hk⟩ := asrt_true hk
        obtain ⟨cs, ⟨base, cap, rfl, hcap, hb0, hrow⟩, hxv⟩ := hx
        simp only [GT.isAgg, mkV, List.headD_cons, List.cons.injEq, and_true] at hxv
        subst hxv
        have hcut := run_cut (P := P) (w := X.w) (sl := true) ha' hb' hc hcap
        simp only [bounds, Bool.and_eq_true, decide_eq_true_eq] at hc
        obtain ⟨⟨c1, c2⟩, c3⟩ := hc
        generalize a.getD 0 = p at *
        generalize b.getD (List.length xs : Int) = q at *
        have hlen := subl_len xs p q c3
        refine Out.here H (v := .dat (.sl g) (subl xs p q)) (val := .slice (if cap = p.toNat then base else base.map (·.add (p.toNat * g.size))) (q.toNat - p.toNat) (cap - p.toNat)) ?_
          ⟨[.slice (if cap = p.toNat then base else base.map (·.add (p.toNat * g.size))) (q.toNat - p.toNat) (cap - p.toNat)], ⟨if cap = p.toNat then base else base.map (·.add (p.toNat * g.size)), cap - p.toNat, ?_, ?_, ?_, ?_⟩, by simp [mkV, GT.isAgg]⟩ hk
        · simp [Instr.sliceAt, Instr.slice, run_underlying ht, hcut, run_sizeOf e1]
        · rw [hlen]
        · rw [hlen]; omega
        · intro hbn
          have : base = none := by
            split at hbn
            · exact hbn
            · cases base with
              | none => rfl
              | some _ => cases hbn
          rw [hb0 this]; omega
        · cases base with
          | none =>
            have hxs : xs = [] := hrow
            subst hxs
            simp only [Option.map_none, ite_self]
            show subl [] p q = []
            simp [subl]
          | some ad =>
            by_cases hcp : cap = p.toNat
            · rw [if_pos hcp]
              intro i y hy
              rw [subl_get] at hy
              split at hy
              · exfalso; omega
              · cases hy
            · rw [if_neg hcp]
              intro i y hy
              rw [subl_get] at hy
              split at hy
              · obtain ⟨cs, q1, q2, q3⟩ := hrow _ y hy
                obtain ⟨k1, k2⟩ := q2 e2
                obtain ⟨a1, a2, a3⟩ := addSpot k2 (p.toNat * g.size)
                refine ⟨cs, q1, fun _ => ⟨by rw [a1]; exact k1, a3⟩, fun j v hj => ?_⟩
                rw [a1, a2]
                have := q3 j v hj
                rw [Nat.add_mul] at this
                rw [← this]
                congr 1
                omega
              · cases hy
      · rename_i n
        split at hk
        · rename_i g xs hn
          obtain ⟨he, hk⟩ := bif_some hk
          simp only [Bool.and_eq_true] at he
          obtain ⟨e1, e2⟩ := elemOK_spec he.1
          obtain ⟨hc, hk⟩ := asrt_true hk
          obtain ⟨v, hv1, hv2, _⟩ := hx
          cases hv2
          have c3' := hc
          simp only [bounds, Bool.and_eq_true, decide_eq_true_eq] at c3'
          obtain ⟨⟨c1, c2⟩, c3⟩ := c3'
          have HD := H.drop n
          have hdl : (setN h n SO.dead).length = h.length := by rw [setN_eq]; simp
          have hρ : X.ρ.length = (setN h n SO.dead).length := by rw [hdl]; exact H.len
          rcases H.obj n _ hn with ⟨base, k1, k2⟩ | ⟨bb, o, cap, cells, T, fz, k1, k2, k3, k4, k5, k6, k7, k8⟩
          · rw [k1] at hv1
            cases hv1
            have hcut := run_cut (P := P) (w := X.w) (sl := true) ha' hb' hc (cap := 0) (by rw [k2]; simp)
            rw [k2] at c3 c2 hcut hk
            generalize a.getD 0 = p at *
            have c3 : b.getD 0 ≤ (0 : Int) := by simpa using c3
            have c2 : p ≤ b.getD 0 := by simpa using c2
            have hcut : (Instr.sliceBounds true 0 0 lov hiv none).run P X.w = .ok (p.toNat, (b.getD 0).toNat, 0) X.w := by simpa using hcut
            have p0 : p = 0 := by omega
            have q0 : b.getD 0 = 0 := by omega
            rw [p0, q0] at hcut
            have hs : subl ([] : List g.ty) p (b.getD ((List.length ([] : List g.ty) : Nat) : Int)) = [] := by simp [subl]
            rw [hs] at hk
            obtain ⟨H', E'⟩ := HD.adopt (val := .slice base 0 0) (o := .arr g []) (fun b _ hb => by cases base <;> simp [Value.blk] at hb) (.inl ⟨base, new_rep hρ _, rfl⟩)
            refine ⟨_, _, .own h.length, .slice base 0 0, ?_, E', H', ⟨_, by rw [← hdl]; exact new_rep hρ _, rfl, rfl⟩, hk⟩
            simp [Instr.sliceAt, Instr.slice, run_underlying ht, hcut, run_sizeOf e1]
          · rw [k1] at hv1
            cases hv1
            have hcut := run_cut (P := P) (w := X.w) (sl := true) ha' hb' hc k5
            generalize a.getD 0 = p at *
            generalize b.getD (List.length xs : Int) = q at *
            have hlen := subl_len xs p q c3
            obtain ⟨cp, rfl⟩ : ∃ c, cap = c + 1 := ⟨cap - 1, by omega⟩
            have hown := H.ownNew n _ bb hn rfl (by simp [blkOf, k1, Value.blk])
            have hsep := H.sep n _ hn rfl bb (by simp [blkOf, k1, Value.blk])
            have hoth : ∀ m o1, nth (setN h n SO.dead) m = some o1 → o1.live = true → blkOf X m ≠ some bb := by
              intro m o1 hm l1 b1
              rcases nth_setN hm with ⟨_, rfl⟩ | ⟨hne, h1⟩
              · cases l1
              · exact hne (H.inj m n o1 _ h1 hn l1 rfl bb b1 (by simp [blkOf, k1, Value.blk]))
            by_cases hcp : cp + 1 = p.toNat
            · have hnil : subl xs p q = [] := List.eq_nil_of_length_eq_zero (by rw [hlen]; omega)
              have hq : q.toNat - p.toNat = 0 := by omega
              obtain ⟨H', E'⟩ := HD.adopt (val := .slice (some ⟨bb, o, none⟩) 0 0) (o := .arr g (subl xs p q)) (fun b _ hb => by simp [Value.blk] at hb) (.inl ⟨_, new_rep hρ _, hnil⟩)
              refine ⟨_, _, .own h.length, .slice (some ⟨bb, o, none⟩) 0 0, ?_, E', H', ⟨_, by rw [← hdl]; exact new_rep hρ _, rfl, rfl⟩, hk⟩
              rw [hcp] at hcut
              simp [Instr.sliceAt, Instr.slice, run_underlying ht, hcut, run_sizeOf e1, hcp, hq]
            · have hadd : (⟨bb, o, none⟩ : Addr).add (p.toNat * g.size) = ⟨bb, o + p.toNat * g.size, none⟩ := add_none rfl _
              obtain ⟨H', E'⟩ := HD.adopt (val := .slice (some ⟨bb, o + p.toNat * g.size, none⟩) (q.toNat - p.toNat) (cp + 1 - p.toNat)) (o := .arr g (subl xs p q))
                (fun b _ hb => by
                  have : b = bb := by
                    obtain ⟨c, hc⟩ : ∃ c, cp + 1 - p.toNat = c + 1 := ⟨cp - p.toNat, by omega⟩
                    rw [hc] at hb
                    simp only [Value.blk, Option.some.injEq] at hb
                    exact hb.symm
                  subst this
                  exact ⟨hsep, hown, hoth⟩)
                (.inr ⟨bb, o + p.toNat * g.size, cp + 1 - p.toNat, cells, T, fz, by rw [hlen]; exact new_rep hρ _, by omega, k3, ⟨k4.1, fun e => ⟨(k4.2 e).1, Nat.le_trans (Nat.sub_le _ _) (k4.2 e).2⟩⟩, by rw [hlen]; omega, by
                  have := k6
                  rw [Nat.sub_mul]
                  have hle : p.toNat * g.size ≤ (cp + 1) * g.size := Nat.mul_le_mul_right _ (by omega)
                  omega, k7, by
                  intro i y hy
                  rw [subl_get] at hy
                  split at hy
                  · obtain ⟨cs, q1, q2⟩ := k8 _ y hy
                    refine ⟨cs, q1, fun j v hj => ?_⟩
                    have := q2 j v hj
                    rw [Nat.add_mul] at this
                    rw [← this]
                    congr 1
                    omega
                  · cases hy⟩)
              refine ⟨_, _, .own h.length, .slice (some ⟨bb, o + p.toNat * g.size, none⟩) (q.toNat - p.toNat) (cp + 1 - p.toNat), ?_, E', H', ⟨_, by rw [← hdl]; exact new_rep hρ _, rfl, rfl⟩, hk⟩
              simp [Instr.sliceAt, Instr.slice, run_underlying ht, hcut, run_sizeOf e1, hcp, hadd]
        · cases hk
      · cases hk
  · rename_i e hi' k m ht hl hh
    have ha' := optI_rep hl hlo
    have hb' := optI_rep hh hhi
    split at hk
    · rename_i g xs
      obtain ⟨he, hk⟩ := bif_some hk
      obtain ⟨e1, e2⟩ := elemOK_spec he
      obtain ⟨hc, hk⟩ := asrt_true hk
      simp only [Bool.and_eq_true, decide_eq_true_eq] at hc
      obtain ⟨rfl, rfl⟩ := hc
      cases mxv with
      | none => exact hmx.elim
      | some mv =>
        have hm : mv = .int k 0 := rep_int hmx
        subst hm
        rcases ha' with ⟨_, rfl⟩ | ⟨_, _, h0, _⟩
        · rcases hb' with ⟨h0, _⟩ | ⟨k', m', h0, rfl⟩
          · cases h0
          · cases h0
            obtain ⟨cs, ⟨base, cap, rfl, hcap, hb0, hrow⟩, hxv⟩ := hx
            simp only [GT.isAgg, mkV, List.headD_cons, List.cons.injEq, and_true] at hxv
            subst hxv
            refine Out.here H (v := .emp) (val := .slice base 0 0) ?_ ⟨base, rfl⟩ hk
            simp [Instr.sliceAt, Instr.slice, run_underlying ht, run_sizeOf e1, Instr.sliceBounds, Instr.sliceBound, asIntOf]
        · cases h0
    · cases hk
  · cases hk

end Go.Eng
