/- The engine, part 18: a region that draws its order: whatever order, the same comes of it. -/
import Derived.Test.YtondjihmmjjinaaE17
namespace Go.Eng
open Go
set_option linter.unusedVariables false
set_option linter.unusedSimpArgs false

/-! ### What comes before what -/

theorem masks_len : ∀ (l : List Oper) (acc : List Nat), (masks l acc).length = acc.length + l.length
  | [], acc => by simp [masks]
  | o :: l, acc => by simp only [masks, masks_len l, List.length_append, List.length_cons, List.length_nil]; omega

theorem masks_old : ∀ (l : List Oper) (acc : List Nat) (k : Nat), k < acc.length → nth (masks l acc) k = nth acc k
  | [], acc, k, _ => rfl
  | o :: l, acc, k, h => by
    simp only [masks]
    rw [masks_old l _ k (by simp; omega), nth_eq, nth_eq, List.getElem?_append_left h]

def maskOf (acc : List Nat) (o : Oper) : Nat := o.after.toList.foldl (fun s e => bif Region.binds .any e then s ||| (2 ^ e.on ||| (nth acc e.on).getD 0) else s) 0

theorem masks_at : ∀ (l : List Oper) (acc : List Nat) (j : Nat) (o : Oper), l[j]? = some o → ∃ acc', acc'.length = acc.length + j ∧ (∀ k, k < acc'.length → nth (masks l acc) k = nth acc' k) ∧ nth (masks l acc) (acc.length + j) = some (maskOf acc' o)
  | [], acc, j, o, h => by simp at h
  | o0 :: l, acc, 0, o, h => by
    simp only [List.getElem?_cons_zero, Option.some.injEq] at h
    subst h
    refine ⟨acc, rfl, fun k hk => masks_old _ _ k hk, ?_⟩
    simp only [masks, Nat.add_zero]
    rw [masks_old l _ _ (by simp), nth_eq, List.getElem?_append_right (Nat.le_refl _)]
    simp [maskOf]
  | o0 :: l, acc, j + 1, o, h => by
    simp only [List.getElem?_cons_succ] at h
    simp only [masks]
    obtain ⟨acc', h1, h2, h3⟩ := masks_at l (acc ++ [maskOf acc o0]) j o h
    simp only [List.length_append, List.length_cons, List.length_nil] at h1 h3
    refine ⟨acc', by omega, h2, ?_⟩
    rw [show acc.length + (j + 1) = acc.length + (0 + 1) + j by omega]
    exact h3

theorem fold_bit {acc : List Nat} {i : Nat} : ∀ (l : List Edge) (s : Nat), (l.foldl (fun s e => bif Region.binds .any e then s ||| (2 ^ e.on ||| (nth acc e.on).getD 0) else s) s).testBit i = true →
    s.testBit i = true ∨ ∃ e ∈ l, Region.binds .any e = true ∧ (e.on = i ∨ ((nth acc e.on).getD 0).testBit i = true)
  | [], s, h => .inl h
  | e :: l, s, h => by
    simp only [List.foldl_cons] at h
    rcases fold_bit l _ h with h1 | ⟨e', h1, h2⟩
    · cases hb : Region.binds .any e with
      | false => rw [hb] at h1; exact .inl h1
      | true =>
        rw [hb] at h1
        simp only [cond_true, Nat.testBit_or, Bool.or_eq_true, Nat.testBit_two_pow, decide_eq_true_eq] at h1
        rcases h1 with h1 | h1 | h1
        · exact .inl h1
        · exact .inr ⟨e, by simp, hb, .inl h1⟩
        · exact .inr ⟨e, by simp, hb, .inr h1⟩
    · exact .inr ⟨e', by simp [h1], h2⟩

theorem edgesOk_spec : ∀ (l : List Oper) (n : Nat), edgesOk l n = true → ∀ j o, l[j]? = some o → ∀ e ∈ o.after, Region.binds .any e = true → e.on < n + j
  | [], n, _, j, o, h, _, _, _ => by simp at h
  | o0 :: l, n, h, j, o, ho, e, he, hb => by
    simp only [edgesOk, Bool.and_eq_true, List.all_eq_true] at h
    cases j with
    | zero =>
      simp only [List.getElem?_cons_zero, Option.some.injEq] at ho
      subst ho
      have := h.1 e (by simpa using he)
      simp only [Bool.or_eq_true, Bool.not_eq_true', hb, Bool.true_eq_false, false_or] at this
      have h2 : e.on < n := by simpa [Nat.blt_eq] using this
      simpa using h2
    | succ j =>
      have := edgesOk_spec l (n + 1) h.2 j o (by simpa using ho) e he hb
      omega

/-- What is listed is listed with all that comes before it. -/
def Closed (ops : List Oper) (S : Nat → Bool) : Prop := ∀ i o, ops[i]? = some o → S i = true → ∀ e ∈ o.after, Region.binds .any e = true → S e.on = true

theorem bef_listed {ops : List Oper} (hed : edgesOk ops 0 = true) {S : Nat → Bool} (hc : Closed ops S) : ∀ (j : Nat) (o : Oper) (i : Nat), ops[j]? = some o → befB (masks ops []) i j = true →
    (∀ e ∈ o.after, Region.binds .any e = true → S e.on = true) → S i = true := by
  intro j
  induction j using Nat.strongRecOn with
  | _ j ih =>
    intro o i ho hb hall
    obtain ⟨acc', h1, h2, h3⟩ := masks_at ops [] j o ho
    simp only [List.length_nil, Nat.zero_add] at h1 h3
    simp only [befB, h3, Option.getD_some, maskOf] at hb
    rcases fold_bit _ _ hb with h4 | ⟨e, h4, h5, h6⟩
    · simp at h4
    · have h4 : e ∈ o.after := by simpa using h4
      have hlt := edgesOk_spec ops 0 hed j o ho e h4 h5
      rw [Nat.zero_add] at hlt
      have hs := hall e h4 h5
      rcases h6 with rfl | h6
      · exact hs
      · have hlt' : e.on < ops.length := by
          have := (List.getElem?_eq_some_iff.1 ho).1
          omega
        refine ih e.on hlt _ i (List.getElem?_eq_getElem hlt') ?_ (hc e.on _ (List.getElem?_eq_getElem hlt') hs)
        rw [befB, h2 e.on (by omega)]
        exact h6

/-! ### The records -/

/-- Entries of the records whose numbers are in S. -/
def lkS (S : Nat → Bool) : List Rc → Nat → Nat → Option (Option (Nat × Bool) × SV)
  | [], _, _ => none
  | r :: l, i, t => if S i = true ∧ r.dst = some t then some (r.g, r.v) else lkS S l (i + 1) t

def loS (S : Nat → Bool) (recs : List Rc) (base : List (Nat × SV)) (t : Nat) : Option (Option (Nat × Bool) × SV) :=
  match lkS S recs 0 t with
  | some e => some e
  | none => match lk base t with
    | some v => some (none, v)
    | none => none

/-- Two records of one slot are one. -/
def Uniq (recs : List Rc) : Prop := ∀ (i j : Nat) (ri rj : Rc) (d : Nat), recs[i]? = some ri → recs[j]? = some rj → ri.dst = some d → rj.dst = some d → i = j

theorem lkS_some {S : Nat → Bool} : ∀ (recs : List Rc) (i t : Nat) (e), lkS S recs i t = some e → ∃ k r, recs[k]? = some r ∧ r.dst = some t ∧ S (i + k) = true ∧ e = (r.g, r.v)
  | [], i, t, e, h => by simp [lkS] at h
  | r :: l, i, t, e, h => by
    simp only [lkS] at h
    split at h
    · rename_i hc
      simp only [Option.some.injEq] at h
      exact ⟨0, r, rfl, hc.2, hc.1, h.symm⟩
    · obtain ⟨k, r', h1, h2, h3, h4⟩ := lkS_some l (i + 1) t e h
      exact ⟨k + 1, r', by simpa using h1, h2, by rw [show i + (k + 1) = i + 1 + k by omega]; exact h3, h4⟩

theorem lkS_none {S : Nat → Bool} : ∀ (recs : List Rc) (i t : Nat), lkS S recs i t = none → ∀ k r, recs[k]? = some r → r.dst = some t → S (i + k) = false
  | [], i, t, h, k, r, hr, _ => by simp at hr
  | r0 :: l, i, t, h, k, r, hr, hd => by
    simp only [lkS] at h
    split at h
    · cases h
    · rename_i hc
      cases k with
      | zero =>
        simp only [List.getElem?_cons_zero, Option.some.injEq] at hr
        subst hr
        cases hs : S (i + 0) with
        | false => rfl
        | true => exact absurd ⟨hs, hd⟩ hc
      | succ k =>
        have := lkS_none l (i + 1) t h k r (by simpa using hr) hd
        rw [show i + (k + 1) = i + 1 + k by omega]
        exact this

theorem lkS_at {S : Nat → Bool} {recs : List Rc} (hu : Uniq recs) {k t : Nat} {r : Rc} (hk : recs[k]? = some r) (hd : r.dst = some t) : lkS S recs 0 t = if S k = true then some (r.g, r.v) else none := by
  cases h : lkS S recs 0 t with
  | some e =>
    obtain ⟨k', r', h1, h2, h3, h4⟩ := lkS_some recs 0 t e h
    have := hu k k' r r' t hk h1 hd h2
    subst this
    rw [hk] at h1
    cases h1
    rw [Nat.zero_add] at h3
    rw [if_pos h3, h4]
  | none =>
    have := lkS_none recs 0 t h k r hk hd
    rw [Nat.zero_add] at this
    rw [if_neg (by rw [this]; simp)]

theorem lkS_not {S : Nat → Bool} {recs : List Rc} {t : Nat} (h : ∀ k r, recs[k]? = some r → r.dst = some t → S k = false) : lkS S recs 0 t = none := by
  cases e : lkS S recs 0 t with
  | none => rfl
  | some e' =>
    obtain ⟨k, r, h1, h2, h3, _⟩ := lkS_some recs 0 t e' e
    rw [Nat.zero_add, h k r h1 h2] at h3
    cases h3

theorem lkR_some {t : Nat} : ∀ (rs : List Rc) (e), lkR rs t = some e → ∃ r ∈ rs, r.dst = some t ∧ e = (r.g, r.v)
  | [], e, h => by simp [lkR] at h
  | r :: l, e, h => by
    rw [lkR_cons] at h
    cases hd : r.dst with
    | none => rw [hd] at h; obtain ⟨r', h1, h2⟩ := lkR_some l e h; exact ⟨r', by simp [h1], h2⟩
    | some d =>
      rw [hd] at h
      simp only at h
      split at h
      · rename_i e'
        subst e'
        simp only [Option.some.injEq] at h
        exact ⟨r, by simp, hd, h.symm⟩
      · obtain ⟨r', h1, h2⟩ := lkR_some l e h
        exact ⟨r', by simp [h1], h2⟩

theorem lkR_none {t : Nat} : ∀ (rs : List Rc), lkR rs t = none → ∀ r ∈ rs, r.dst ≠ some t
  | [], _, r, hr => by simp at hr
  | r0 :: l, h, r, hr => by
    rw [lkR_cons] at h
    cases hd : r0.dst with
    | none =>
      rw [hd] at h
      rcases List.mem_cons.1 hr with rfl | hr
      · rw [hd]; simp
      · exact lkR_none l h r hr
    | some d =>
      rw [hd] at h
      simp only at h
      split at h
      · cases h
      · rename_i hne
        rcases List.mem_cons.1 hr with rfl | hr
        · rw [hd]; simpa using hne
        · exact lkR_none l h r hr

/-- The lexical table of slots is that of the records before. -/
theorem look_lex {recs : List Rc} (hu : Uniq recs) {base : List (Nat × SV)} (i t : Nat) : look ((recs.take i).reverse) base t = loS (fun k => decide (k < i)) recs base t := by
  have key : lkR ((recs.take i).reverse) t = lkS (fun k => decide (k < i)) recs 0 t := by
    cases h : lkR ((recs.take i).reverse) t with
    | some e =>
      obtain ⟨r, h1, h2, h3⟩ := lkR_some _ e h
      rw [List.mem_reverse] at h1
      obtain ⟨k, hk⟩ := List.getElem?_of_mem h1
      rw [List.getElem?_take] at hk
      split at hk
      · rename_i hlt
        rw [lkS_at hu hk h2, if_pos (by simpa using hlt), h3]
      · cases hk
    | none =>
      rw [lkS_not]
      intro k r hk hd
      cases hlt : decide (k < i) with
      | false => rfl
      | true =>
        exfalso
        refine lkR_none _ h r ?_ hd
        rw [List.mem_reverse]
        have : (recs.take i)[k]? = some r := by rw [List.getElem?_take, if_pos (by simpa using hlt)]; exact hk
        exact List.mem_of_getElem? this
  unfold look loS
  rw [key]
  cases lkS (fun k => decide (k < i)) recs 0 t with
  | some e => rfl
  | none => rfl

theorem hasDst_mem {t : Nat} : ∀ (rs : List Rc), hasDst rs t = true → ∃ r ∈ rs, r.dst = some t
  | [], h => by simp [hasDst] at h
  | r :: l, h => by
    simp only [hasDst, Bool.or_eq_true] at h
    rcases h with h | h
    · cases hd : r.dst with
      | none => rw [hd] at h; simp at h
      | some d =>
        rw [hd] at h
        have : d = t := by simpa using h
        exact ⟨r, by simp, by rw [hd, this]⟩
    · obtain ⟨r', h1, h2⟩ := hasDst_mem l h
      exact ⟨r', by simp [h1], h2⟩

/-- One operation's lexical step. -/
def StepR (E : Env) (ops : List Oper) (base : List (Nat × SV)) (o : Oper) (rs : List Rc) (h : List SO) (rc : Rc) : Prop :=
  rc.dst = o.dst ∧
  ((o.guard = none ∧ rc.g = none ∧ (rc.cls = clsK E o.op (opnd (look rs base) []) ∧ rc.foot = footK E o.op (opnd (look rs base) []) h) ∧
      opK E o true true (opnd (look rs base) []) (fun t w => opnd (look rs base) [(t, w)]) h pair = some (rc.v, rc.h)) ∨
    ∃ j w t c gs, o.guard = some (j, w) ∧ (nth ops j).bind (·.dst) = some t ∧ gcOf (look rs base) 6 (t, w) = some (c, gs) ∧ hasDst rs t = true ∧ rc.g = some (t, w) ∧ (rc.cls = clsK E o.op (opnd (look rs base) gs) ∧ rc.foot = footK E o.op (opnd (look rs base) gs) h) ∧
      opK E o c false (opnd (look rs base) gs) (fun t w => opnd (look rs base) ((t, w) :: gs)) h pair = some (rc.v, rc.h))

def heapAt : List SO → List Rc → Nat → List SO
  | h, _, 0 => h
  | h, [], _ + 1 => h
  | _, r :: l, i + 1 => heapAt r.h l i

theorem heapAt_succ : ∀ (recs : List Rc) (h : List SO) (i : Nat) (r : Rc), recs[i]? = some r → heapAt h recs (i + 1) = r.h
  | [], h, i, r, e => by simp at e
  | r0 :: l, h, 0, r, e => by
    simp only [List.getElem?_cons_zero, Option.some.injEq] at e
    subst e
    cases l <;> rfl
  | r0 :: l, h, i + 1, r, e => heapAt_succ l r0.h i r (by simpa using e)

theorem runOps_lex {E : Env} (hE : EnvOk E) {R : Type} {ops : List Oper} {base : List (Nat × SV)} {k : List Rc → List SO → Option R} {r : R} : ∀ (l : List Oper) (rs : List Rc) (h : List SO), runOps E ops base l rs h k = some r →
    ∃ tail : List Rc, tail.length = l.length ∧ (∀ i o rc, l[i]? = some o → tail[i]? = some rc → StepR E ops base o ((tail.take i).reverse ++ rs) (heapAt h tail i) rc) ∧ k (tail.reverse ++ rs) (heapAt h tail l.length) = some r
  | [], rs, h, hk => ⟨[], rfl, by simp, hk⟩
  | o :: l, rs, h, hk => by
    have fin : ∀ (rc : Rc), StepR E ops base o rs h rc → runOps E ops base l (rc :: rs) rc.h k = some r →
        ∃ tail : List Rc, tail.length = (o :: l).length ∧ (∀ i o' rc', (o :: l)[i]? = some o' → tail[i]? = some rc' → StepR E ops base o' ((tail.take i).reverse ++ rs) (heapAt h tail i) rc') ∧ k (tail.reverse ++ rs) (heapAt h tail (o :: l).length) = some r := by
      intro rc hst hk
      obtain ⟨tail, t1, t2, t3⟩ := runOps_lex hE l (rc :: rs) rc.h hk
      refine ⟨rc :: tail, by simp [t1], ?_, ?_⟩
      · intro i o' rc' ho hr
        cases i with
        | zero =>
          simp only [List.getElem?_cons_zero, Option.some.injEq] at ho hr
          subst ho; subst hr
          simpa [heapAt] using hst
        | succ i =>
          have := t2 i o' rc' (by simpa using ho) (by simpa using hr)
          simpa [heapAt, List.append_assoc] using this
      · simpa [heapAt, List.append_assoc] using t3
    simp only [runOps] at hk
    split at hk
    · rename_i hg
      rw [opK_nat hE] at hk
      obtain ⟨⟨v, h'⟩, h1, h2⟩ := Option.bind_eq_some_iff.1 hk
      exact fin ⟨_, _, o.dst, none, v, h'⟩ ⟨rfl, .inl ⟨hg, rfl, ⟨rfl, rfl⟩, h1⟩⟩ h2
    · rename_i j w hg
      split at hk
      · rename_i t ht
        split at hk
        · rename_i c gs hgc
          cases hds : hasDst rs t with
          | false => rw [hds] at hk; simp at hk
          | true =>
            rw [hds] at hk
            simp only [Bool.not_true, cond_false] at hk
            rw [opK_nat hE] at hk
            obtain ⟨⟨v, h'⟩, h1, h2⟩ := Option.bind_eq_some_iff.1 hk
            exact fin ⟨_, _, o.dst, some (t, w), v, h'⟩ ⟨rfl, .inr ⟨j, w, t, c, gs, hg, ht, hgc, hds, rfl, ⟨rfl, rfl⟩, h1⟩⟩ h2
        · cases hk
      · cases hk

/-- An operation that makes an object. -/
theorem restH_mask (F : List Nat) : ∀ (i : Nat) (h l : List SO), restH F i h (maskH F i h ++ l) = some (h ++ l)
  | _, [], l => rfl
  | i, o :: h, l => by
    simp only [maskH, List.cons_append, restH, restH_mask F (i + 1) h l]
    cases F.any (Nat.beq i) <;> rfl

/-- A call that makes one slice, whatever the objects. -/
theorem locK_new {E : Env} (hE : EnvOk E) {f : Nat} {args : List SV} {h h' : List SO} {v : SV} (ho : E.isO f = true) (hn : ownsAll args = []) (hk : locK E f args h pair = some (v, h')) :
    ∃ (t : GT) (ys : List t.ty), v = .own h.length ∧ h' = h ++ [.arr t ys] ∧ ∀ h2, locK E f args h2 pair = some (.own h2.length, h2 ++ [.arr t ys]) := by
  unfold locK at hk ⊢
  rw [hE.nat] at hk
  obtain ⟨⟨v1, h1⟩, e1, e2⟩ := Option.bind_eq_some_iff.1 hk
  obtain ⟨t, ys, rfl, rfl, e3⟩ := hE.ono f args _ v1 h1 ho hn e1
  simp only [restH_mask] at e2
  obtain ⟨r1, r2⟩ := pinj e2
  rw [maskH_len] at r1
  refine ⟨t, ys, r1.symm ▸ rfl, r2, fun h2 => ?_⟩
  rw [hE.nat, e3]
  simp only [Option.bind_some, restH_mask, maskH_len]
  rfl

theorem opK0_two {E : Env} (hE : EnvOk E) {o : Op} {gc un : Bool} {ev : Operand → Option SV} {evg : Nat → Bool → Operand → Option SV} {h h' : List SO} {v : SV} (hc : clsK E o ev = 2)
    (hk : opK0 E o gc un ev evg h pair = some (v, h')) : ∃ l, h' = h ++ l := by
  cases o <;> simp only [clsK] at hc <;> try (cases hc; done)
  case alloc t =>
    simp only [opK0] at hk
    split at hk
    · obtain ⟨_, hk⟩ := bif_some hk
      exact ⟨_, (pinj hk).2⟩
    · cases hk
  case box t x =>
    simp only [opK0] at hk
    split at hk
    · obtain ⟨_, hk⟩ := bif_some hk
      exact ⟨_, (pinj hk).2⟩
    · cases hk
  case buildSlice t n ps =>
    cases hn0 : Nat.beq n 0 with
    | true => simp [hn0] at hc
    | false =>
    rw [hn0] at hc
    simp only [cond_false] at hc
    simp only [opK0, buildSliceK, hn0, cond_false] at hk
    split at hk
    · split at hk
      · rename_i g vs hg hvs
        rw [hvs] at hc
        obtain ⟨_, hk⟩ := bif_some hk
        split at hk
        · have h0 : ownsAll vs = [] := by
            cases hb : Nat.beq (ownsAll vs).length 0 with
            | true => simpa using hb
            | false => simp [hb] at hc
          rw [h0] at hk
          exact ⟨_, (pinj hk).2⟩
        · cases hk
      · cases hk
    · cases hk
  case load t x =>
    cases hx : ev x with
    | none => simp [opK0, hx] at hk
    | some p => rw [hx] at hc; cases p <;> simp at hc
  case convert s d x =>
    simp only [opK0] at hk
    split at hk
    · rename_i p hp
      unfold convK at hk
      split at hk
      · exact ⟨[], by rw [(pinj hk).2]; simp⟩
      · exact ⟨[], by rw [(pinj hk).2]; simp⟩
      · split at hk
        · obtain ⟨_, hk⟩ := bif_some hk
          exact ⟨_, (pinj hk).2⟩
        · cases hk
      · split at hk
        · split at hk
          · exact ⟨[], by rw [(pinj hk).2]; simp⟩
          · cases hk
        · cases hk
      · cases hk
    · cases hk
  case makeSlice t l c =>
    simp only [opK0] at hk
    split at hk
    · unfold makeSliceK at hk
      split at hk
      · split at hk
        · obtain ⟨_, hk⟩ := bif_some hk
          unfold asrt at hk
          obtain ⟨_, hk⟩ := bif_some hk
          exact ⟨_, (pinj hk).2⟩
        · cases hk
      · cases hk
    · cases hk
  case makeMap t res =>
    cases res with
    | none =>
      simp only [opK0] at hk
      unfold makeMapK at hk
      split at hk
      · split at hk
        · obtain ⟨_, hk⟩ := bif_some hk
          exact ⟨_, (pinj hk).2⟩
        · cases hk
      · cases hk
    | some _ => simp only [opK0] at hk; cases hk
  case slice t x lo hi mx =>
    have : ∀ d c : Bool, ¬ ((bif d then 1 else bif c then 0 else 3) = (2 : Nat)) := by intro d c; cases d <;> cases c <;> simp
    exact absurd hc (this _ _)
  case indexAddr t x i =>
    cases hx : ev x with
    | none => simp [opK0, hx] at hk
    | some p => rw [hx] at hc; cases p <;> simp at hc
  case call c =>
    obtain ⟨callee, args, tys⟩ := c
    cases callee with
    | invoke _ _ => simp at hc
    | value f =>
      simp only at hc
      simp only [opK0] at hk
      split at hc
      · rename_i f' caps vs hf hvs
        cases hp : E.isPm f' with
        | true => simp [hp] at hc
        | false =>
          simp only [hp, cond_false] at hc
          have hcc : E.isO f' = true ∧ ownsAll (vs ++ caps.toL) = [] := by
            cases ho : E.isO f' <;> cases hn : Nat.beq (ownsAll (vs ++ caps.toL)).length 0 <;> simp [ho, hn] at hc
            exact ⟨rfl, by simpa using hn⟩
          simp only [hf, hvs] at hk
          obtain ⟨_, hk⟩ := bif_some hk
          unfold callK at hk
          rw [hp] at hk
          simp only [cond_false] at hk
          obtain ⟨_, hk⟩ := bif_some hk
          obtain ⟨t, ys, _, e, _⟩ := locK_new hE hcc.1 hcc.2 hk
          exact ⟨_, e⟩
      · cases hc
    | builtin b =>
      cases b <;> simp only at hc <;> try (cases hc; done)
      case append =>
        split at hc
        · rename_i s x hsx
          simp only [opK0, hsx] at hk
          have hcc : emptyS s = true := by
            cases he : emptyS s <;> simp [he] at hc
            rfl
          unfold builtinK at hk
          simp only at hk
          unfold appendK at hk
          repeat' (first | (split at hk) | (replace hk := (bif_some hk).2) | (replace hk := (asrt_true hk).2))
          all_goals first
            | (cases hk; done)
            | exact ⟨_, (pinj hk).2⟩
            | (simp [emptyS] at hcc; done)
        · cases hc
      exfalso
      split at hc
      · rename_i x hx
        cases hv : ev x with
        | none => rw [hv] at hc; simp at hc
        | some p => rw [hv] at hc; cases p <;> simp at hc
      · cases hc

theorem opK_two {E : Env} (hE : EnvOk E) {o : Oper} {gc un : Bool} {ev : Operand → Option SV} {evg : Nat → Bool → Operand → Option SV} {h h' : List SO} {v : SV} (hc : clsK E o.op ev = 2)
    (hk : opK E o gc un ev evg h pair = some (v, h')) : ∃ l, h' = h ++ l := by
  unfold opK at hk
  cases hb : (un || Nat.ble (clsK E o.op ev) 1) with
  | true => rw [hb] at hk; exact opK0_two hE hc hk
  | false =>
    rw [hb] at hk
    cases gc with
    | true => exact opK0_two hE hc hk
    | false => exact ⟨[], by rw [(pinj hk).2]; simp⟩

end Go.Eng
