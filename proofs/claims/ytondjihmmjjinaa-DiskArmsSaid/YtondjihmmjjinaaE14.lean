/- The engine, part 14: a region in the order of its text. -/
import Derived.Test.YtondjihmmjjinaaE13
namespace Go.Eng
open Go
set_option linter.unusedVariables false
set_option linter.unusedSimpArgs false

/-- What the table of slots says of the frame. -/
def RegsOk (X : HS) (a : Act) (lo : Nat → Option (Option (Nat × Bool) × SV)) : Prop :=
  ∀ t g v, lo t = some (g, v) → match g with
    | none => Rep X v .val [a.tmps.getD t undef]
    | some g => (a.tmps.getD g.1 undef = .bool g.2 → Rep X v .val [a.tmps.getD t undef]) ∧ (a.tmps.getD g.1 undef ≠ .bool g.2 → a.tmps.getD t undef = undef)

theorem constSV_rep {X : HS} : ∀ {v : Value} {s : SV}, constSV v = some s → Rep X s .val [v]
  | .int k n, s, h => by simp only [constSV, Option.some.injEq] at h; subst h; exact int_rep
  | .bool b, s, h => by simp only [constSV, Option.some.injEq] at h; subst h; exact bool_rep
  | .string b, s, h => by
    simp only [constSV, Option.some.injEq] at h
    subst h
    have : (⟨b.data.toList.toArray⟩ : ByteArray) = b := by cases b; simp
    have h2 := @str_rep X b.data.toList
    rw [this] at h2
    exact h2
  | .pointer none, s, h => by simp only [constSV, Option.some.injEq] at h; subst h; rfl
  | .pointer (some a), s, h => by simp [constSV] at h
  | .slice none 0 0, s, h => by simp only [constSV, Option.some.injEq] at h; subst h; rfl
  | .slice none (l + 1) c, s, h => by simp [constSV] at h
  | .slice none 0 (c + 1), s, h => by simp [constSV] at h
  | .slice (some a) l c, s, h => by simp [constSV] at h
  | .map none, s, h => by simp only [constSV, Option.some.injEq] at h; subst h; rfl
  | .map (some a), s, h => by simp [constSV] at h
  | .nilFunc, s, h => by simp only [constSV, Option.some.injEq] at h; subst h; rfl
  | .tuple ⟨[]⟩, s, h => by simp only [constSV, Option.some.injEq] at h; subst h; exact ⟨[], rfl, rfl⟩
  | .tuple ⟨_ :: _⟩, s, h => by simp [constSV] at h
  | .float _ _, s, h => by simp [constSV] at h
  | .complex _ _ _, s, h => by simp [constSV] at h
  | .chan _, s, h => by simp [constSV] at h
  | .func _ _ _, s, h => by simp [constSV] at h
  | .iface _ _, s, h => by simp [constSV] at h
  | .nilIface, s, h => by simp [constSV] at h
  | .agg _, s, h => by simp [constSV] at h

theorem opnd_rep {X : HS} {a : Act} {lo : Nat → Option (Option (Nat × Bool) × SV)} (hR : RegsOk X a lo) {gs : List (Nat × Bool)} (hg : ∀ g ∈ gs, a.tmps.getD g.1 undef = .bool g.2) {x : Operand} {v : SV}
    (h : opnd lo gs x = some v) : Rep X v .val [a.eval x] := by
  cases x with
  | const c => exact constSV_rep h
  | func f =>
    simp only [opnd, Option.some.injEq] at h
    subst h
    exact ⟨[], rfl, rfl⟩
  | global g => simp [opnd] at h
  | tmp t =>
    simp only [opnd] at h
    split at h
    · rename_i u hu
      simp only [Option.some.injEq] at h
      subst h
      exact hR t none u hu
    · rename_i g u hu
      obtain ⟨hc, h⟩ := bif_some h
      simp only [Option.some.injEq] at h
      subst h
      obtain ⟨g', hg', hs⟩ := List.any_eq_true.1 hc
      simp only [sameG, Bool.and_eq_true, Nat.beq_eq, beq_iff_eq] at hs
      have e : g = g' := Prod.ext hs.1 hs.2
      subst e
      exact (hR t (some g) u hu).1 (hg g hg')
    · cases h

theorem gcOf_sound {X : HS} {a : Act} {lo : Nat → Option (Option (Nat × Bool) × SV)} (hR : RegsOk X a lo) : ∀ (n : Nat) (t : Nat) (w c : Bool) (gs : List (Nat × Bool)), gcOf lo n (t, w) = some (c, gs) →
    (c = true ↔ a.tmps.getD t undef = .bool w) ∧ (c = true → ∀ g ∈ gs, a.tmps.getD g.1 undef = .bool g.2)
  | 0, t, w, c, gs, h => by simp [gcOf] at h
  | n + 1, t, w, c, gs, h => by
    simp only [gcOf] at h
    split at h
    · rename_i b hb
      simp only [Option.some.injEq, Prod.mk.injEq] at h
      obtain ⟨rfl, rfl⟩ := h
      have := rep_bool (hR t none _ hb)
      refine ⟨?_, fun hc g hg => ?_⟩
      · rw [this]; simp
      · simp only [List.mem_singleton] at hg
        subst hg
        have hc : b = w := by simpa using hc
        rw [this, hc]
    · rename_i g b hb
      split at h
      · rename_i c' gs' hg
        simp only [Option.some.injEq, Prod.mk.injEq] at h
        obtain ⟨rfl, rfl⟩ := h
        obtain ⟨k1, k2⟩ := gcOf_sound hR n g.1 g.2 c' gs' hg
        obtain ⟨e1, e2⟩ := hR t (some g) _ hb
        cases c' with
        | true =>
          have h1 := k1.1 rfl
          have h2 := rep_bool (e1 h1)
          refine ⟨?_, fun hc g' hg' => ?_⟩
          · rw [h2]; simp
          · rcases List.mem_cons.1 hg' with rfl | hg'
            · have hc : b = w := by simpa using hc
              rw [h2, hc]
            · exact k2 rfl g' hg'
        | false =>
          have h1 : a.tmps.getD g.1 undef ≠ .bool g.2 := fun e => by have := k1.2 e; cases this
          have h2 := e2 h1
          refine ⟨?_, fun hc => by simp at hc⟩
          rw [h2]
          simp [undef]
      · cases h
    · cases h

theorem wanted_iff {ops : List Oper} {o : Oper} {a : Act} {j t : Nat} {w : Bool} (hg : o.guard = some (j, w)) (ht : (nth ops j).bind (·.dst) = some t) :
    Region.wanted o (yielded ops.toArray a.tmps) = true ↔ a.tmps.getD t undef = .bool w := by
  have h1 : ((ops.toArray)[j]?).bind (·.dst) = some t := by rw [nth_eq] at ht; simpa using ht
  simp only [Region.wanted, hg, yielded, h1, Option.bind_some]
  cases h2 : a.tmps[t]? with
  | none =>
    have h3 : a.tmps.getD t undef = undef := by rw [Array.getD_eq_getD_getElem?, h2]; rfl
    rw [h3]
    simp [undef]
  | some v =>
    have h3 : a.tmps.getD t undef = v := by rw [Array.getD_eq_getD_getElem?, h2]; rfl
    rw [h3]
    cases v <;> simp

/-- The frame behind an operation. -/
theorem put_get {a : Act} {d t : Nat} {v : Value} (hd : d < a.tmps.size) : (a.put (some d) v).tmps.getD t undef = if t = d then v else a.tmps.getD t undef := by
  simp only [Act.put, Array.getD_eq_getD_getElem?, Array.getElem?_setIfInBounds]
  by_cases e : d = t
  · subst e; simp [hd]
  · rw [if_neg e, if_neg (fun h => e h.symm)]

/-- Guards of what was done name slots that were written. -/
def GIn (rs : List Rc) : Prop := ∀ t g v, lkR rs t = some (some g, v) → hasDst rs g.1 = true

theorem look_cons {r : Rc} {rs : List Rc} {base : List (Nat × SV)} {t : Nat} : look (r :: rs) base t = match r.dst with
    | some d => if d = t then some (r.g, r.v) else look rs base t
    | none => look rs base t := by
  simp only [look, lkR]
  cases hd : r.dst with
  | none => rfl
  | some d =>
    simp only
    by_cases e : d = t
    · subst e; simp
    · have : Nat.beq d t = false := by
        cases hb : Nat.beq d t with
        | false => rfl
        | true => exact absurd (Nat.eq_of_beq_eq_true hb) e
      rw [this, if_neg e]
      rfl

theorem lkR_cons {r : Rc} {rs : List Rc} {t : Nat} : lkR (r :: rs) t = match r.dst with
    | some d => if d = t then some (r.g, r.v) else lkR rs t
    | none => lkR rs t := by
  simp only [lkR]
  cases hd : r.dst with
  | none => rfl
  | some d =>
    simp only
    by_cases e : d = t
    · subst e; simp
    · have : Nat.beq d t = false := by
        cases hb : Nat.beq d t with
        | false => rfl
        | true => exact absurd (Nat.eq_of_beq_eq_true hb) e
      rw [this, if_neg e]
      rfl

theorem lkR_of_look {rs : List Rc} {base : List (Nat × SV)} {t : Nat} {g : Nat × Bool} {v : SV} (h : look rs base t = some (some g, v)) : lkR rs t = some (some g, v) := by
  unfold look at h
  split at h
  · rename_i e he
    rw [he]
    exact h
  · split at h
    · simp at h
    · cases h

/-- An operation's result, put into the frame. -/
theorem RegsOk.put {X Y : HS} {a : Act} {rs : List Rc} {base : List (Nat × SV)} {r : Rc} {val : Value} (hR : RegsOk X a (look rs base)) (hx : Ext X Y) (hG : GIn rs) (hd : ∀ d, r.dst = some d → d < a.tmps.size ∧ hasDst rs d = false)
    (hg : ∀ g, r.g = some g → hasDst rs g.1 = true)
    (hv : ∀ d, r.dst = some d → match r.g with
      | none => Rep Y r.v .val [val]
      | some g => (a.tmps.getD g.1 undef = .bool g.2 → Rep Y r.v .val [val]) ∧ (a.tmps.getD g.1 undef ≠ .bool g.2 → val = undef)) :
    RegsOk Y (a.put r.dst val) (look (r :: rs) base) := by
  intro t g v hl
  rw [look_cons] at hl
  cases hdd : r.dst with
  | none =>
    rw [hdd] at hl
    simp only [Act.put] at hl ⊢
    have := hR t g v hl
    cases g with
    | none => exact Rep_mono hx _ _ _ this
    | some g => exact ⟨fun e => Rep_mono hx _ _ _ (this.1 e), this.2⟩
  | some d =>
    rw [hdd] at hl
    obtain ⟨hds, hnd⟩ := hd d hdd
    simp only at hl
    by_cases e : d = t
    · subst e
      rw [if_pos rfl] at hl
      simp only [Option.some.injEq, Prod.mk.injEq] at hl
      obtain ⟨rfl, rfl⟩ := hl
      have hv' := hv d hdd
      cases hgg : r.g with
      | none =>
        rw [hgg] at hv'
        simp only at hv' ⊢
        rw [put_get hds, if_pos rfl]
        exact hv'
      | some g =>
        rw [hgg] at hv'
        simp only at hv' ⊢
        have hgd := hg g hgg
        have hne : g.1 ≠ d := fun e => by rw [e, hnd] at hgd; cases hgd
        rw [put_get hds, put_get hds, if_neg hne, if_pos rfl]
        exact hv'
    · rw [if_neg e] at hl
      have := hR t g v hl
      cases g with
      | none =>
        simp only at this ⊢
        rw [put_get hds, if_neg (fun h => e h.symm)]
        exact Rep_mono hx _ _ _ this
      | some g =>
        simp only at this ⊢
        have hgd := hG t g v (lkR_of_look hl)
        have hne : g.1 ≠ d := fun e => by rw [e, hnd] at hgd; cases hgd
        rw [put_get hds, put_get hds, if_neg hne, if_neg (fun h => e h.symm)]
        exact ⟨fun e => Rep_mono hx _ _ _ (this.1 e), this.2⟩

theorem GIn.cons {r : Rc} {rs : List Rc} (hG : GIn rs) (hg : ∀ g, r.g = some g → hasDst rs g.1 = true) : GIn (r :: rs) := by
  intro t g v hl
  rw [lkR_cons] at hl
  simp only [hasDst, Bool.or_eq_true]
  right
  cases hd : r.dst with
  | none => rw [hd] at hl; exact hG t g v hl
  | some d =>
    rw [hd] at hl
    simp only at hl
    split at hl
    · simp only [Option.some.injEq, Prod.mk.injEq] at hl
      exact hg g hl.1
    · exact hG t g v hl

end Go.Eng
