/- The engine, part 15: a guarded operation that is passed over; a region in the order of its text, whole. -/
import Derived.Test.YtondjihmmjjinaaE14
namespace Go.Eng
open Go
set_option linter.unusedVariables false
set_option linter.unusedSimpArgs false

theorem bif_none {α : Type} {c : Bool} {x : Option α} {r : α} (h : (bif c then none else x) = some r) : c = false ∧ x = some r := by
  cases c
  · exact ⟨rfl, by simpa using h⟩
  · simp at h

section
variable {R : Type} {P : Program} {h : List SO} {K : Kont R} {r : R}

theorem loadK_skip {t : TypeId} {p : SV} (hk : loadK P t false p h K = some r) : ∃ v, K v h = some r := by
  simp only [loadK, cond_false, Option.bind_some] at hk
  repeat' (first | (split at hk) | (replace hk := (bif_some hk).2))
  all_goals first | (cases hk; done) | exact ⟨_, hk⟩

theorem fieldAddrK_skip {t : TypeId} {p : SV} {f : Nat} (hk : fieldAddrK P t p f h K = some r) : ∃ v, K v h = some r := by
  simp only [fieldAddrK] at hk
  repeat' (first | (split at hk) | (replace hk := (bif_some hk).2) | (replace hk := (bif_none hk).2))
  all_goals first | (cases hk; done) | exact ⟨_, hk⟩

theorem fieldK_skip {t : TypeId} {p : SV} {f : Nat} (hk : fieldK P t p f h K = some r) : ∃ v, K v h = some r := by
  simp only [fieldK] at hk
  repeat' (first | (split at hk) | (replace hk := (bif_some hk).2))
  all_goals first | (cases hk; done) | exact ⟨_, hk⟩

theorem sliceAddrK_skip {t : TypeId} {x i : SV} (hk : sliceAddrK P t false x i h K = some r) : ∃ v, K v h = some r := by
  simp only [sliceAddrK, idxG, asrt, cond_false, Option.bind_some, Bool.not_false, Bool.true_or, cond_true] at hk
  repeat' (first | (split at hk) | (replace hk := (bif_some hk).2))
  all_goals first | (cases hk; done) | exact ⟨_, hk⟩

theorem indexAddrK_skip {t : TypeId} {x i : SV} (hk : indexAddrK P t false x i h K = some r) : ∃ v, K v h = some r := by
  unfold indexAddrK at hk
  split at hk
  · unfold arrAddrK at hk
    split at hk
    · split at hk
      · obtain ⟨⟨k, hk⟩, _⟩ := pickI_some false _ _ hk
        exact ⟨_, hk⟩
      · cases hk
    · cases hk
  · exact sliceAddrK_skip hk

theorem indexK_skip {t : TypeId} {x i : SV} (hk : indexK P t false x i h K = some r) : ∃ v, K v h = some r := by
  simp only [indexK, idxG, cond_false, Option.bind_some] at hk
  repeat' (first | (split at hk) | (replace hk := (bif_some hk).2))
  all_goals first | (cases hk; done) | exact ⟨_, hk⟩

theorem sliceK_skip {t : TypeId} {x : SV} {lo hi mx : Option SV} (hk : sliceK P t false false x lo hi mx h K = some r) : ∃ v, K v h = some r := by
  simp only [sliceK, asrt, Bool.not_false, Bool.true_or, cond_true, Bool.and_false, cond_false] at hk
  repeat' (first | (split at hk) | (replace hk := (bif_some hk).2))
  all_goals first | (cases hk; done) | exact ⟨_, hk⟩

theorem lenK_skip {t : TypeId} {x : SV} (hk : lenK P t x h K = some r) : ∃ v, K v h = some r := by
  simp only [lenK] at hk
  repeat' (first | (split at hk) | (replace hk := (bif_some hk).2))
  all_goals first | (cases hk; done) | exact ⟨_, hk⟩

theorem minK_skip {x y : SV} (hk : minK x y h K = some r) : ∃ v, K v h = some r := by
  simp only [minK] at hk
  split at hk
  · exact ⟨_, hk⟩
  · cases hk

theorem maxK_skip {x y : SV} (hk : maxK x y h K = some r) : ∃ v, K v h = some r := by
  simp only [maxK] at hk
  split at hk
  · exact ⟨_, hk⟩
  · cases hk

theorem unK_skip {op : UnOp} {x : SV} (hk : unK op x h K = some r) : ∃ v, K v h = some r := by
  simp only [unK] at hk
  split at hk
  · exact ⟨_, hk⟩
  · exact ⟨_, hk⟩
  · cases hk

theorem convK_skip {s d : TypeId} {x : SV} (hk : convK P s d false x h K = some r) : ∃ v, K v h = some r := by
  simp only [convK, Bool.false_and, cond_false] at hk
  repeat' (first | (split at hk) | (replace hk := (bif_some hk).2))
  all_goals first | (cases hk; done) | exact ⟨_, hk⟩

theorem arithK_skip {op : BinOp} {k : IntKind} {a b : Int} (hk : arithK op k false a b h K = some r) : ∃ v, K v h = some r := by
  cases op <;> simp only [arithK, asrt, Bool.not_false, Bool.true_or, cond_true] at hk <;> first | (cases hk; done) | exact ⟨_, hk⟩

theorem strK_skip {op : BinOp} {a b : List UInt8} (hk : strK op false a b h K = some r) : ∃ v, K v h = some r := by
  cases op <;> simp only [strK, asrt, Bool.not_false, Bool.true_or, cond_true] at hk <;> first | (cases hk; done) | exact ⟨_, hk⟩

theorem binK_skip {op : BinOp} {t : TypeId} {x y : SV} (hk : binK P op t false x y h K = some r) : ∃ v, K v h = some r := by
  unfold binK at hk
  split at hk
  · exact arithK_skip (bif_some hk).2
  · exact strK_skip hk
  · repeat' (first | (split at hk) | (replace hk := (bif_some hk).2))
    all_goals first | (cases hk; done) | exact ⟨_, hk⟩
  · repeat' (first | (split at hk) | (replace hk := (bif_some hk).2))
    all_goals first | (cases hk; done) | exact ⟨_, hk⟩
  · repeat' (first | (split at hk) | (replace hk := (bif_some hk).2))
    all_goals first | (cases hk; done) | exact ⟨_, hk⟩
  · cases hk

theorem makeSliceK_skip {t : TypeId} {l c : SV} (hk : makeSliceK P t false false l c h K = some r) : ∃ v, K v h = some r := by
  simp only [makeSliceK, Bool.false_and, cond_false] at hk
  repeat' (first | (split at hk) | (replace hk := (bif_some hk).2))
  all_goals first | (cases hk; done) | exact ⟨_, hk⟩

theorem makeMapK_skip {t : TypeId} (hk : makeMapK P t false h K = some r) : ∃ v, K v h = some r := by
  simp only [makeMapK, cond_false] at hk
  repeat' (first | (split at hk))
  all_goals (cases hk; done)

theorem lookupK_skip {t : TypeId} {x i : SV} {co : Bool} (hk : lookupK P t x i co h K = some r) : ∃ v, K v h = some r := by
  simp only [lookupK] at hk
  repeat' (first | (split at hk) | (replace hk := (bif_some hk).2))
  all_goals first | (cases hk; done) | (cases co <;> exact ⟨_, hk⟩)

theorem viewK_skip {t : TypeId} {x : SV} {lo hi mx : Option SV} (hk : viewK P t false x lo hi mx h K = some r) : ∃ v, K v h = some r := by
  simp only [viewK, asrt, Bool.not_false, Bool.true_or, cond_true] at hk
  repeat' (first | (split at hk) | (replace hk := (bif_some hk).2))
  all_goals first | (cases hk; done) | exact ⟨_, hk⟩

theorem srcK_none {α : Type} {x : SV} {g : GT} {f : List g.ty → Option α} {q : α} (hf : ∀ ys, f ys = none) (hk : srcK h x g f = some q) : False := by
  unfold srcK at hk
  repeat' (first | (split at hk) | (replace hk := (bif_some hk).2) | (replace hk := (asrt_true hk).2))
  all_goals first | (cases hk; done) | (rw [hf] at hk; cases hk)

theorem copyK_skip {ts : List TypeId} {d s : SV} (hk : copyK P ts false d s h K = some r) : ∃ v, K v h = some r := by
  simp only [copyK, Bool.false_and, cond_false] at hk
  repeat' (first | (split at hk))
  all_goals (cases hk; done)

theorem mapEntryK_skip {t : TypeId} {m x : SV} (hk : mapEntryK P t false m x h K = some r) : ∃ v, K v h = some r := by
  simp only [mapEntryK, Bool.false_and, cond_false] at hk
  repeat' (first | (split at hk))
  all_goals (cases hk; done)

theorem deleteK_skip {ts : List TypeId} {m x : SV} (hk : deleteK P ts false m x h K = some r) : ∃ v, K v h = some r := by
  simp only [deleteK, Bool.false_and, cond_false] at hk
  repeat' (first | (split at hk))
  all_goals (cases hk; done)

theorem clearK_skip {ts : List TypeId} {d : SV} (hk : clearK P ts false d h K = some r) : ∃ v, K v h = some r := by
  simp only [clearK, Bool.false_and, cond_false] at hk
  repeat' (first | (split at hk))
  all_goals (cases hk; done)

theorem buildK_skip {t : TypeId} {ps : List (Nat × Operand)} {ev : Operand → Option SV} (hk : buildK P t ps ev h K = some r) : ∃ v, K v h = some r := by
  simp only [buildK] at hk
  repeat' (first | (split at hk) | (replace hk := (bif_some hk).2))
  all_goals first | (cases hk; done) | exact ⟨_, hk⟩

theorem buildSliceK_skip {t : TypeId} {n : Nat} {ps : List (Nat × Operand)} {ev : Operand → Option SV} (hk : buildSliceK P t false n ps ev h K = some r) : ∃ v, K v h = some r := by
  simp only [buildSliceK, Bool.false_and, cond_false] at hk
  cases hn0 : Nat.beq n 0 <;> rw [hn0] at hk <;> simp only [cond_true, cond_false] at hk
  all_goals repeat' (first | (split at hk) | (replace hk := (bif_some hk).2))
  all_goals first | (cases hk; done) | exact ⟨_, hk⟩

theorem appendK_skip {ts : List TypeId} {s x : SV} (hk : appendK P ts false s x h K = some r) : ∃ v, K v h = some r := by
  simp only [appendK, Bool.false_and, cond_false] at hk
  repeat' (first | (split at hk) | (replace hk := (bif_some hk).2))
  all_goals first | (cases hk; done) | exact ⟨_, hk⟩

end

theorem opK0_skip {E : Env} {R : Type} {o : Op} {ev : Operand → Option SV} {evg : Nat → Bool → Operand → Option SV} {h : List SO} {K : Kont R} {r : R} (hk : opK0 E o false false ev evg h K = some r) : ∃ v, K v h = some r := by
  cases o <;> simp only [opK0] at hk <;> try (cases hk; done)
  case move x => split at hk; exact ⟨_, hk⟩; cases hk
  case assign x => split at hk; exact ⟨_, hk⟩; cases hk
  case pick c x y =>
    cases c <;> simp only [opK0] at hk <;> try (cases hk; done)
    split at hk
    · exact ⟨_, hk⟩
    · cases hk
  case alloc t =>
    split at hk
    · simp at hk
    · cases hk
  case box t x =>
    split at hk
    · simp at hk
    · cases hk
  case build t ps => exact buildK_skip hk
  case buildSlice t n ps => exact buildSliceK_skip hk
  case load t x => split at hk; exact loadK_skip hk; cases hk
  case store t x y =>
    split at hk
    · simp at hk
    · cases hk
  case nilCheck x => split at hk; exact ⟨_, (bif_some hk).2⟩; cases hk
  case binOp op t x y t2 => split at hk; exact binK_skip hk; cases hk
  case unOp op t x => split at hk; exact unK_skip hk; cases hk
  case convert s d x => split at hk; exact convK_skip hk; cases hk
  case makeFunc fn first caps =>
    cases fn <;> simp only [opK0] at hk <;> try (cases hk; done)
    split at hk; exact ⟨_, (bif_some hk).2⟩; cases hk
  case makeSlice t l c => split at hk; exact makeSliceK_skip hk; cases hk
  case makeMap t res =>
    cases res with
    | none => exact makeMapK_skip hk
    | some _ => cases hk
  case lookup t x i co => split at hk; exact lookupK_skip hk; cases hk
  case mapUpdate t m x y =>
    split at hk
    · simp at hk
    · cases hk
  case mapEntry t m x => split at hk; exact mapEntryK_skip hk; cases hk
  case entryStore t m x y =>
    split at hk
    · simp at hk
    · cases hk
  case slice t x lo hi mx =>
    split at hk
    · rename_i v _ _ _ _ _ _ _
      cases hvw : vwB E x v with
      | true => rw [hvw] at hk; exact viewK_skip hk
      | false => rw [hvw] at hk; exact sliceK_skip hk
    · cases hk
  case fieldAddr t x f => split at hk; exact fieldAddrK_skip hk; cases hk
  case field t x f => split at hk; exact fieldK_skip hk; cases hk
  case indexAddr t x i => split at hk; exact indexAddrK_skip hk; cases hk
  case index t x i => split at hk; exact indexK_skip hk; cases hk
  case extract x i =>
    split at hk
    · split at hk
      · exact ⟨_, (bif_some hk).2⟩
      · cases hk
    · cases hk
  case call c =>
    split at hk
    · rename_i args _
      split at hk
      · rename_i b _
        unfold builtinK at hk
        split at hk
        · exact lenK_skip hk
        · exact appendK_skip hk
        · exact minK_skip hk
        · exact maxK_skip hk
        · exact copyK_skip hk
        · exact clearK_skip hk
        · exact deleteK_skip hk
        · cases hk
      · split at hk
        · replace hk := (bif_some hk).2
          unfold callK at hk
          cases hpm : E.isPm _ with
          | true =>
            rw [hpm] at hk
            simp only [cond_true, cond_false] at hk
            split at hk
            · exact ⟨_, by simpa using hk⟩
            · cases hk
          | false =>
            rw [hpm] at hk
            simp at hk
        · cases hk
      · cases hk
    · cases hk

theorem opK_skip {E : Env} {R : Type} {o : Oper} {ev : Operand → Option SV} {evg : Nat → Bool → Operand → Option SV} {h : List SO} {K : Kont R} {r : R} (hk : opK E o false false ev evg h K = some r) : ∃ v, K v h = some r := by
  unfold opK at hk
  cases hb : (false || Nat.ble (clsK E o.op ev) 1) with
  | true => rw [hb] at hk; exact opK0_skip hk
  | false => rw [hb] at hk; exact ⟨_, hk⟩

theorem nodupB_cons {a : Nat} {l : List Nat} (h : nodupB (a :: l) = true) : a ∉ l ∧ nodupB l = true := by
  simp only [nodupB, Bool.and_eq_true, Bool.not_eq_true'] at h
  refine ⟨fun hm => ?_, h.2⟩
  have : l.any (Nat.beq a) = true := List.any_eq_true.2 ⟨a, hm, by simp⟩
  rw [h.1] at this
  cases this

/-- What holds of the slots that the rest of a region writes. -/
structure Todo (a : Act) (rs : List Rc) (l : List Oper) : Prop where
  lt : ∀ d ∈ dsts l, d < a.tmps.size ∧ hasDst rs d = false
  nd : nodupB (dsts l) = true

theorem Todo.tail {a : Act} {rs : List Rc} {o : Oper} {l : List Oper} (h : Todo a rs (o :: l)) (rc : Rc) (hr : rc.dst = o.dst) (val : Value) :
    (∀ d, o.dst = some d → d < a.tmps.size ∧ hasDst rs d = false) ∧ Todo (a.put o.dst val) (rc :: rs) l := by
  obtain ⟨h1, h2⟩ := h
  simp only [dsts] at h1 h2
  cases hd : o.dst with
  | none =>
    rw [hd] at h1 h2
    exact ⟨(fun d e => by cases e), ⟨fun d hm => by
      obtain ⟨k1, k2⟩ := h1 d hm
      exact ⟨k1, by simp [hasDst, hr, hd, k2]⟩, h2⟩⟩
  | some d0 =>
    rw [hd] at h1 h2
    obtain ⟨n1, n2⟩ := nodupB_cons h2
    refine ⟨(fun d e => by cases e; exact h1 d0 (by simp)), ⟨fun d hm => ?_, n2⟩⟩
    obtain ⟨k1, k2⟩ := h1 d (by simp [hm])
    refine ⟨by simp only [Act.put, Array.size_setIfInBounds]; exact k1, ?_⟩
    have hne : d0 ≠ d := fun e => n1 (e ▸ hm)
    simp only [hasDst, hr, hd, Bool.or_eq_false_iff, k2, and_true]
    cases hb : Nat.beq d0 d with
    | false => rfl
    | true => exact absurd (Nat.eq_of_beq_eq_true hb) hne

theorem put_defers' {a : Act} {d : Option Tmp} {v : Value} : (a.put d v).defers = a.defers := by cases d <;> rfl
theorem put_size' {a : Act} {d : Option Tmp} {v : Value} : (a.put d v).tmps.size = a.tmps.size := by cases d <;> simp [Act.put]

/-- No slot was written twice. -/
def PW (rs : List Rc) : Prop := rs.Pairwise fun r1 r2 => ∀ d, r1.dst = some d → r2.dst ≠ some d

theorem hasDst_not {t : Nat} : ∀ {rs : List Rc}, hasDst rs t = false → ∀ r ∈ rs, r.dst ≠ some t
  | [], _, r, hr => by simp at hr
  | r0 :: l, h, r, hr => by
    simp only [hasDst, Bool.or_eq_false_iff] at h
    rcases List.mem_cons.1 hr with rfl | hr
    · intro e
      rw [e] at h
      simp at h
    · exact hasDst_not h.2 r hr

theorem PW.cons {rc : Rc} {rs : List Rc} (h : PW rs) (hd : ∀ d, rc.dst = some d → hasDst rs d = false) : PW (rc :: rs) :=
  List.pairwise_cons.2 ⟨fun r hr d e => hasDst_not (hd d e) r hr, h⟩

theorem lk_app {α : Type} {t : Nat} : ∀ (l r : List (Nat × α)), lk (l ++ r) t = match lk l t with
    | some v => some v
    | none => lk r t
  | [], r => rfl
  | e :: l, r => by
    simp only [List.cons_append, lk]
    cases Nat.beq e.1 t with
    | true => rfl
    | false => exact lk_app l r

theorem lk_rmv {l : List Nat} {t : Nat} {v : SV} : ∀ (base : List (Nat × SV)), lk (rmv l base) t = some v → t ∉ l ∧ lk base t = some v
  | [], h => by simp [rmv, lk] at h
  | e :: r, h => by
    simp only [rmv] at h
    cases hb : l.any (Nat.beq e.1) with
    | true =>
      rw [hb] at h
      obtain ⟨h1, h2⟩ := lk_rmv r h
      refine ⟨h1, ?_⟩
      simp only [lk]
      cases hq : Nat.beq e.1 t with
      | false => exact h2
      | true =>
        exfalso
        have e1 := Nat.eq_of_beq_eq_true hq
        obtain ⟨x, hx, hy⟩ := List.any_eq_true.1 hb
        have := Nat.eq_of_beq_eq_true hy
        exact h1 (by rw [← e1, this]; exact hx)
    | false =>
      rw [hb] at h
      simp only [cond_false, lk] at h ⊢
      cases hq : Nat.beq e.1 t with
      | true =>
        rw [hq] at h
        refine ⟨fun hm => ?_, h⟩
        have e1 := Nat.eq_of_beq_eq_true hq
        have : l.any (Nat.beq e.1) = true := List.any_eq_true.2 ⟨t, hm, hq⟩
        rw [hb] at this
        cases this
      | false =>
        rw [hq] at h
        exact lk_rmv r h

theorem ents_lkR {t : Nat} {v : SV} : ∀ {rs : List Rc}, PW rs → lk (ents rs) t = some v → lkR rs t = some (none, v)
  | [], _, h => by simp [ents, lk] at h
  | r :: l, hP, h => by
    obtain ⟨p1, p2⟩ := List.pairwise_cons.1 hP
    rw [lkR_cons]
    simp only [ents] at h
    cases hd : r.dst with
    | none => rw [hd] at h; exact ents_lkR p2 h
    | some d =>
      rw [hd] at h
      cases hg : r.g with
      | none =>
        rw [hg] at h
        simp only [lk] at h ⊢
        cases hq : Nat.beq d t with
        | true =>
          rw [hq] at h
          rw [if_pos (Nat.eq_of_beq_eq_true hq)]
          simp only [cond_true, Option.some.injEq] at h
          rw [h]
        | false =>
          rw [hq] at h
          rw [if_neg (fun e => by subst e; simp at hq)]
          exact ents_lkR p2 h
      | some g =>
        rw [hg] at h
        simp only at h ⊢
        have hl := ents_lkR p2 h
        by_cases e : d = t
        · exfalso
          subst e
          -- a later entry of the same slot
          have : ∀ {rs : List Rc} {x}, lkR rs d = some x → ∃ r ∈ rs, r.dst = some d := by
            intro rs
            induction rs with
            | nil => intro x hx; simp [lkR] at hx
            | cons r0 l0 ih =>
              intro x hx
              rw [lkR_cons] at hx
              cases hd0 : r0.dst with
              | none => rw [hd0] at hx; obtain ⟨r', h1, h2⟩ := ih hx; exact ⟨r', by simp [h1], h2⟩
              | some d0 =>
                rw [hd0] at hx
                simp only at hx
                split at hx
                · rename_i e; subst e; exact ⟨r0, by simp, hd0⟩
                · obtain ⟨r', h1, h2⟩ := ih hx; exact ⟨r', by simp [h1], h2⟩
          obtain ⟨r', h1, h2⟩ := this hl
          exact p1 r' h1 d hd h2
        · rw [if_neg e]; exact hl

theorem lkR_in {t : Nat} {v : SV} : ∀ {rs : List Rc}, lkR rs t = some (none, v) → ∃ u, lk (ents rs) t = some u
  | [], h => by simp [lkR] at h
  | r :: l, h => by
    rw [lkR_cons] at h
    simp only [ents]
    cases hd : r.dst with
    | none => rw [hd] at h; exact lkR_in h
    | some d =>
      rw [hd] at h
      simp only at h
      cases hg : r.g with
      | none =>
        simp only [lk]
        cases hq : Nat.beq d t with
        | true => exact ⟨_, rfl⟩
        | false =>
          rw [if_neg (fun e => by subst e; simp at hq)] at h
          exact lkR_in h
      | some g =>
        simp only
        split at h
        · rw [hg] at h; simp at h
        · exact lkR_in h

theorem lkR_gds {t : Nat} {g : Nat × Bool} {v : SV} : ∀ {rs : List Rc}, lkR rs t = some (some g, v) → t ∈ gds rs
  | [], h => by simp [lkR] at h
  | r :: l, h => by
    rw [lkR_cons] at h
    simp only [gds]
    cases hd : r.dst with
    | none => rw [hd] at h; exact lkR_gds h
    | some d =>
      rw [hd] at h
      simp only at h
      split at h
      · rename_i e
        subst e
        simp only [Option.some.injEq, Prod.mk.injEq] at h
        rw [h.1]
        simp
      · have := lkR_gds h
        cases r.g with
        | none => exact this
        | some _ => simp [this]

theorem after_look {rs : List Rc} {base : List (Nat × SV)} {t : Nat} {v : SV} (hP : PW rs) (h : lk (after rs base) t = some v) : look rs base t = some (none, v) := by
  unfold after at h
  rw [lk_app] at h
  unfold look
  split at h
  · rename_i u hu
    cases h
    rw [ents_lkR hP hu]
  · rename_i hu
    have key : t ∉ gds rs ∧ lk base t = some v := by
      split at h
      · rename_i hg
        exact ⟨by rw [hg]; simp, h⟩
      · rename_i a l hg
        rw [hg]
        exact lk_rmv base h
    cases hl : lkR rs t with
    | none => simp only [key.2]
    | some x =>
      obtain ⟨g, u⟩ := x
      exfalso
      cases g with
      | none => obtain ⟨u', h'⟩ := lkR_in hl; rw [hu] at h'; cases h'
      | some g => exact key.1 (lkR_gds hl)

theorem runOps_sound {E : Env} (hE : EnvOk E) {R : Type} {ops : List Oper} {base : List (Nat × SV)} {B : Base} {k : List Rc → List SO → Option R} {r : R} {Q : Exit → Act → World → Prop} :
    ∀ (l : List Oper) (rs : List Rc) (h : List SO) (a : Act) (X : HS), RegsOk X a (look rs base) → HRep B X h → GIn rs → PW rs → Todo a rs l → a.defers = [] → runOps E ops base l rs h k = some r →
    (∀ rs' h' a' X', PW rs' → RegsOk X' a' (look rs' base) → HRep B X' h' → a'.tmps.size = a.tmps.size → a'.defers = [] → Ext X X' → k rs' h' = some r → Q .normal a' X'.w) → wpList E.P ops.toArray Q l a X.w
  | [], rs, h, a, X, hR, H, _, hP, _, hd, hk, hq => hq rs h a X hP hR H rfl hd (Ext.refl X) hk
  | o :: l, rs, h, a, X, hR, H, hG, hP, hT, hd, hk, hq => by
    simp only [runOps] at hk
    unfold wpList
    split at hk
    · rename_i hg
      rw [if_pos (by simp [Region.wanted, hg])]
      left
      refine op_sound hE H (fun x v hv => opnd_rep hR (by simp) hv) (fun c t x v hv hc => opnd_rep hR (gs := [(c, t)]) (by intro g hg; simp only [List.mem_singleton] at hg; subst hg; exact hc) hv) hk ?_
      intro X' h' v val hx H' hv hk'
      obtain ⟨t1, t2⟩ := hT.tail ⟨clsK E o.op (opnd (look rs base) []), footK E o.op (opnd (look rs base) []) h, o.dst, none, v, h'⟩ rfl val
      refine runOps_sound hE l _ h' _ X' (hR.put (r := ⟨clsK E o.op (opnd (look rs base) []), footK E o.op (opnd (look rs base) []) h, o.dst, none, v, h'⟩) hx hG t1 (by simp) (fun d _ => hv)) H' (hG.cons (by simp)) (hP.cons fun d e => (t1 d e).2) t2 (by rw [put_defers']; exact hd) hk' ?_
      intro rs' h'' a' X'' q0 q1 q2 q3 q4 q6 q5
      exact hq rs' h'' a' X'' q0 q1 q2 (q3.trans put_size') q4 (hx.trans q6) q5
    · rename_i j w hg
      split at hk
      · rename_i t ht
        split at hk
        · rename_i c gs hgc
          cases hds : hasDst rs t with
          | false => rw [hds] at hk; simp at hk
          | true =>
            rw [hds] at hk
            simp only [Bool.not_true, cond_false] at hk
            obtain ⟨c1, c2⟩ := gcOf_sound hR 6 t w c gs hgc
            have hw := wanted_iff (a := a) hg ht
            cases c with
            | true =>
              have hsat := c1.1 rfl
              rw [if_pos (hw.2 hsat)]
              left
              refine op_sound hE H (fun x v hv => opnd_rep hR (c2 rfl) hv) (fun c t x v hv hc => opnd_rep hR (gs := (c, t) :: gs) (by
                intro g hg
                rcases List.mem_cons.1 hg with rfl | hg
                · exact hc
                · exact c2 rfl g hg) hv) hk ?_
              intro X' h' v val hx H' hv hk'
              obtain ⟨t1, t2⟩ := hT.tail ⟨clsK E o.op (opnd (look rs base) gs), footK E o.op (opnd (look rs base) gs) h, o.dst, some (t, w), v, h'⟩ rfl val
              refine runOps_sound hE l _ h' _ X' (hR.put (r := ⟨clsK E o.op (opnd (look rs base) gs), footK E o.op (opnd (look rs base) gs) h, o.dst, some (t, w), v, h'⟩) hx hG t1 (by intro g hg; cases hg; exact hds)
                (fun d _ => ⟨fun _ => hv, fun hne => absurd hsat hne⟩)) H' (hG.cons (by intro g hg; cases hg; exact hds)) (hP.cons fun d e => (t1 d e).2) t2 (by rw [put_defers']; exact hd) hk' ?_
              intro rs' h'' a' X'' q0 q1 q2 q3 q4 q6 q5
              exact hq rs' h'' a' X'' q0 q1 q2 (q3.trans put_size') q4 (hx.trans q6) q5
            | false =>
              have hns : ¬ a.tmps.getD t undef = .bool w := fun e => by have := c1.2 e; cases this
              rw [if_neg (fun e => hns (hw.1 e))]
              obtain ⟨v, hk'⟩ := opK_skip hk
              obtain ⟨t1, t2⟩ := hT.tail ⟨clsK E o.op (opnd (look rs base) gs), footK E o.op (opnd (look rs base) gs) h, o.dst, some (t, w), v, h⟩ rfl undef
              refine runOps_sound hE l _ h _ X (hR.put (r := ⟨clsK E o.op (opnd (look rs base) gs), footK E o.op (opnd (look rs base) gs) h, o.dst, some (t, w), v, h⟩) (Ext.refl X) hG t1 (by intro g hg; cases hg; exact hds)
                (fun d _ => ⟨fun e => absurd e hns, fun _ => rfl⟩)) H (hG.cons (by intro g hg; cases hg; exact hds)) (hP.cons fun d e => (t1 d e).2) t2 (by rw [put_defers']; exact hd) hk' ?_
              intro rs' h'' a' X'' q0 q1 q2 q3 q4 q6 q5
              exact hq rs' h'' a' X'' q0 q1 q2 (q3.trans put_size') q4 q6 q5
        · cases hk
      · cases hk

end Go.Eng
