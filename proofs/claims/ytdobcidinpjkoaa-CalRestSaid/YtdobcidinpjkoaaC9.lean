/- A further day without business. -/
import Derived.Test.YtdobcidinpjkoaaC8
namespace Go.Proofs.Ytdobcidinpjkoaa
open Go Go.Eng
set_option linter.unusedVariables false
set_option linter.unusedSimpArgs false

theorem asc_pair {l : List Int} {most : Int} (h : Asc l most) : l.Pairwise (· < ·) ∧ ∀ x ∈ l, 0 ≤ x ∧ x ≤ most := by
  have g : ∀ (i : Nat) (hi : i < l.length), gI l i = l[i] := fun i hi => by
    have := gI_get hi
    rw [List.getElem?_eq_getElem hi] at this
    exact (Option.some.inj this).symm
  refine ⟨List.pairwise_iff_getElem.2 fun i j hi hj hij => ?_, fun x hx => ?_⟩
  · have := h.lt hij hj
    rw [g i hi, g j hj] at this
    exact this
  · obtain ⟨i, hi, rfl⟩ := List.getElem_of_mem hx
    have := h i hi
    rw [g i hi] at this
    exact ⟨this.1, this.2.1⟩

theorem pair_asc {l : List Int} {most : Int} (h : l.Pairwise (· < ·)) (h2 : ∀ x ∈ l, 0 ≤ x ∧ x ≤ most) : Asc l most := by
  have g : ∀ (i : Nat) (hi : i < l.length), gI l i = l[i] := fun i hi => by
    have := gI_get hi
    rw [List.getElem?_eq_getElem hi] at this
    exact (Option.some.inj this).symm
  intro i hi
  have k := h2 l[i] (List.getElem_mem hi)
  rw [g i hi]
  refine ⟨k.1, k.2, fun h0 => ?_⟩
  rw [g (i - 1) (by omega)]
  exact List.pairwise_iff_getElem.1 h (i - 1) i (by omega) hi (by omega)

/-- What has been built of the further list. -/
structure Ins (l : List Int) (r : Int) (i : Nat) (put : Bool) (M : List Int) : Prop where
  srt : M.Pairwise (· < ·)
  mem : ∀ x, x ∈ M ↔ (put = true ∧ x = r) ∨ x ∈ l.take i
  no : put = false → ∀ x ∈ l.take i, x < r
  yes : put = true → ∃ x ∈ l.take i, r ≤ x
  len : M.length ≤ i + 1
  len2 : put = false → M.length ≤ i

theorem Ins.zero (l : List Int) (r : Int) : Ins l r 0 false [] := ⟨.nil, by simp, by simp, by simp, by simp, by simp⟩

theorem take_mem {l : List Int} {i : Nat} (hi : i < l.length) (x : Int) : x ∈ l.take (i + 1) ↔ x ∈ l.take i ∨ x = l[i] := by
  rw [List.take_succ_eq_append_getElem hi]
  simp only [List.mem_append, List.mem_singleton]

theorem pair_snoc {M : List Int} {v : Int} (h : M.Pairwise (· < ·)) (h2 : ∀ x ∈ M, x < v) : (M ++ [v]).Pairwise (· < ·) :=
  List.pairwise_append.2 ⟨h, List.pairwise_singleton _ _, fun a ha b hb => by rw [List.mem_singleton.1 hb]; exact h2 a ha⟩

theorem before {l : List Int} (hl : l.Pairwise (· < ·)) {i : Nat} (hi : i < l.length) {x : Int} (hx : x ∈ l.take i) : x < l[i] := by
  obtain ⟨j, hj, rfl⟩ := List.getElem_of_mem hx
  have hj2 : j < i := by rw [List.length_take] at hj; omega
  rw [List.getElem_take]
  exact List.pairwise_iff_getElem.1 hl j i (by omega) hi hj2

theorem Ins.skip {l : List Int} {r : Int} {i : Nat} {put : Bool} {M : List Int} (h : Ins l r i put M) (hl : l.Pairwise (· < ·)) (hi : i < l.length) (hc : l[i] < r ∨ put = true) : l[i] ≠ r ∧ Ins l r (i + 1) put (M ++ [l[i]]) := by
  have hb : ∀ x ∈ l.take i, x < l[i] := fun x hx => before hl hi hx
  have hne : l[i] ≠ r := by
    rcases hc with hc | hc
    · omega
    · obtain ⟨x, hx, hr⟩ := h.yes hc
      have := hb x hx
      omega
  have hM : ∀ x ∈ M, x < l[i] := by
    intro x hx
    rcases (h.mem x).1 hx with ⟨hp, rfl⟩ | hx
    · obtain ⟨y, hy, hr⟩ := h.yes hp
      have := hb y hy
      omega
    · exact hb x hx
  refine ⟨hne, pair_snoc h.srt hM, fun x => ?_, fun hp x hx => ?_, fun hp => ?_, by have := h.len; simp; omega, fun hp => by have := h.len2 hp; simp; omega⟩
  · rw [List.mem_append, h.mem, List.mem_singleton, take_mem hi]
    constructor
    · rintro ((h1 | h1) | h1)
      · exact .inl h1
      · exact .inr (.inl h1)
      · exact .inr (.inr h1)
    · rintro (h1 | h1 | h1)
      · exact .inl (.inl h1)
      · exact .inl (.inr h1)
      · exact .inr h1
  · rw [take_mem hi] at hx
    rcases hx with hx | rfl
    · exact h.no hp x hx
    · rcases hc with hc | hc
      · exact hc
      · rw [hc] at hp; cases hp
  · obtain ⟨x, hx, hr⟩ := h.yes hp
    exact ⟨x, (take_mem hi x).2 (.inl hx), hr⟩

theorem Ins.here {l : List Int} {r : Int} {i : Nat} {M : List Int} (h : Ins l r i false M) (hl : l.Pairwise (· < ·)) (hi : i < l.length) (hc : r ≤ l[i]) :
    Ins l r (i + 1) true (if l[i] = r then M ++ [r] else M ++ [r] ++ [l[i]]) := by
  have hb : ∀ x ∈ l.take i, x < l[i] := fun x hx => before hl hi hx
  have hM : ∀ x ∈ M, x < r := by
    intro x hx
    rcases (h.mem x).1 hx with ⟨hp, rfl⟩ | hx
    · cases hp
    · exact h.no rfl x hx
  have hlen := h.len2 rfl
  have hm : ∀ x, x ∈ M ↔ x ∈ l.take i := fun x => by rw [h.mem]; simp
  have s1 := pair_snoc h.srt hM
  by_cases he : l[i] = r
  · rw [if_pos he]
    refine ⟨s1, fun x => ?_, fun hp => (by cases hp), fun _ => ⟨l[i], (take_mem hi _).2 (.inr rfl), hc⟩, (by simp; omega), fun hp => (by cases hp)⟩
    rw [List.mem_append, hm, List.mem_singleton, take_mem hi, he]
    constructor
    · rintro (h1 | h1)
      · exact .inr (.inl h1)
      · exact .inl ⟨rfl, h1⟩
    · rintro (⟨_, h1⟩ | h1 | h1)
      · exact .inr h1
      · exact .inl h1
      · exact .inr h1
  · rw [if_neg he]
    refine ⟨pair_snoc s1 (fun x hx => ?_), fun x => ?_, fun hp => (by cases hp), fun _ => ⟨l[i], (take_mem hi _).2 (.inr rfl), hc⟩, (by simp; omega), fun hp => (by cases hp)⟩
    · rcases List.mem_append.1 hx with hx | hx
      · have := hM x hx; omega
      · rw [List.mem_singleton.1 hx]; omega
    · rw [List.mem_append, List.mem_append, hm, List.mem_singleton, List.mem_singleton, take_mem hi]
      constructor
      · rintro ((h1 | h1) | h1)
        · exact .inr (.inl h1)
        · exact .inl ⟨rfl, h1⟩
        · exact .inr (.inr h1)
      · rintro (⟨_, h1⟩ | h1 | h1)
        · exact .inl (.inr h1)
        · exact .inl (.inl h1)
        · exact .inr h1

/-- The further list. -/
structure More (l : List Int) (r : Int) (M : List Int) : Prop where
  srt : M.Pairwise (· < ·)
  mem : ∀ x, x ∈ M ↔ x = r ∨ x ∈ l
  len : M.length ≤ l.length + 1

theorem Ins.done {l : List Int} {r : Int} {put : Bool} {M : List Int} (h : Ins l r l.length put M) : More l r (bif put then M else M ++ [r]) := by
  have hm := h.mem
  rw [List.take_length] at hm
  cases put with
  | true => exact ⟨h.srt, fun x => by rw [cond_true, hm]; simp, by simpa using h.len⟩
  | false =>
    have hlen := h.len2 rfl
    refine ⟨pair_snoc h.srt (fun x hx => ?_), fun x => ?_, by simp; omega⟩
    · have := (hm x).1 hx
      simp only [Bool.false_eq_true, false_and, false_or] at this
      exact h.no rfl x (by rw [List.take_length]; exact this)
    · rw [cond_false, List.mem_append, hm, List.mem_singleton]
      simp only [Bool.false_eq_true, false_and, false_or]
      exact Or.comm

theorem more_right {c : T23} {r : Int} (hr : RightC c) (h19 : List.length c.2.1 ≤ 19) (hd : Dy r) {M : List Int} (h : More c.2.1 r M) : RightC (c.1, M, ()) := by
  obtain ⟨a, _, b, e⟩ := hr
  have k := h.len
  refine ⟨a, by simp only; omega, b, pair_asc h.srt fun x hx => ?_⟩
  rcases (h.mem x).1 hx with rfl | hx
  · exact hd
  · exact (asc_pair e).2 x hx

theorem more_op {c : T23} {r : Int} {M : List Int} (h : More c.2.1 r M) (d : Int) : op (c.1, M, ()) d = (op c d && !(d == r)) := by
  have := h.mem d
  unfold op
  simp only
  by_cases h1 : d = r
  · subst h1
    rw [decide_eq_true (this.2 (.inl rfl))]
    simp
  · rw [show (d == r) = false by simpa using h1]
    by_cases h2 : d ∈ (show List Int from c.2.1)
    · rw [decide_eq_true (this.2 (.inr h2)), decide_eq_true h2]; rfl
    · rw [decide_eq_false (fun h3 => by rcases this.1 h3 with h | h; exact h1 h; exact h2 h), decide_eq_false h2]; simp

/-- Fewer business days: moved further. -/
theorem up_less {c e : T23} (h : ∀ y, op e y = true → op c y = true) {d b : Int} (hb : up e d = (b, 0, ())) : ∃ a, up c d = (a, 0, ()) ∧ a ≤ b := by
  rcases up_spec e d with ⟨x, ex, x1, x2, x3, _⟩ | ⟨ex, _⟩
  · rw [ex] at hb
    have : x = b := congrArg Prod.fst hb
    subst this
    rcases up_spec c d with ⟨a, ea, a1, a2, a3, a4⟩ | ⟨ea, a4⟩
    · refine ⟨a, ea, ?_⟩
      by_cases q : a ≤ x
      · exact q
      · have := a4 x x1 (by omega); rw [h x x3] at this; cases this
    · have := a4 x x1 x2; rw [h x x3] at this; cases this
  · rw [ex] at hb; simp at hb

theorem bkN_less {c e : T23} (h : ∀ y, op e y = true → op c y = true) : ∀ (m : Nat) (a b x : Int), a ≤ b → Dy a → Dy b → bkN e m a = (x, 0, ()) → ∃ z, bkN c m b = (z, 0, ()) ∧ x ≤ z
  | 0, a, b, x, h, _, _, e => ⟨b, rfl, by
      have : a = x := congrArg Prod.fst e
      omega⟩
  | m + 1, a, b, x, hab, ha, hb, eq => by
    have h1 := hb.2
    rw [bkN_succ] at eq ⊢
    rcases dn_spec e (a - 1) with ⟨z, ez, z1, z2, z3, z4⟩ | ⟨ez, z4⟩
    · rw [ez] at eq
      simp only [if_true] at eq
      have z3' := h z z3
      rcases dn_spec c (b - 1) with ⟨w, ew, w1, w2, w3, w4⟩ | ⟨ew, w4⟩
      · rw [ew]
        simp only [if_true]
        have : z ≤ w := by
          by_cases q : z ≤ w
          · exact q
          · have := w4 z (by omega) (by omega); simp_all
        exact bkN_less h m z w x this ⟨z2, by omega⟩ ⟨w2, by omega⟩ eq
      · have := w4 z z2 (by omega); simp_all
    · rw [ez] at eq
      simp at eq

end Go.Proofs.Ytdobcidinpjkoaa
