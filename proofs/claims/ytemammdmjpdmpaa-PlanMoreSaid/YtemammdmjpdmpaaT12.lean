/- Plan: what the search finds. -/
import Derived.Test.YtemammdmjpdmpaaT7
namespace Go.Proofs.Ytemammdmjpdmpaa
open Go Go.Eng
set_option linter.unusedVariables false
set_option linter.unusedSimpArgs false

theorem pre_get {c l : List Int} (h : c <+: l) {i : Nat} (hi : i < c.length) : l[i]? = c[i]? := by
  obtain ⟨d, rfl⟩ := h
  exact List.getElem?_append_left hi

theorem sumN_mono {f g : Nat → Int} : ∀ {n : Nat}, (∀ i, i < n → f i ≤ g i) → sumN f n ≤ sumN g n
  | 0, _ => Int.le_refl _
  | n + 1, h => by
    have a := sumN_mono (n := n) (fun i hi => h i (by omega))
    have b := h n (by omega)
    simp only [sumN]; omega

theorem maxN_mono {f g : Nat → Int} : ∀ {n : Nat}, (∀ i, i < n → f i ≤ g i) → maxN f n ≤ maxN g n
  | 0, _ => Int.le_refl _
  | n + 1, h => by
    have a := maxN_mono (n := n) (fun i hi => h i (by omega))
    have b := h n (by omega)
    simp only [maxN]
    by_cases c1 : f n > maxN f n
    · rw [decide_eq_true c1, cond_true]
      by_cases c2 : g n > maxN g n
      · rw [decide_eq_true c2, cond_true]; exact b
      · rw [decide_eq_false c2, cond_false]; omega
    · rw [decide_eq_false c1, cond_false]
      by_cases c2 : g n > maxN g n
      · rw [decide_eq_true c2, cond_true]; omega
      · rw [decide_eq_false c2, cond_false]; exact a

theorem part_mono {t : T24} (g : Good t) {c l : List Int} (h : c <+: l) (hv : vC t l) (hl : l.length = t.1.length) {s i : Nat} (hs : s < scen t) (hi : i < t.1.length) : partC t c s i ≤ partC t l s i := by
  by_cases hc : i < c.length
  · have e := pre_get h hc
    unfold partC
    rw [e]
    exact Int.le_refl _
  · have e0 : c[i]? = none := List.getElem?_eq_none (by omega)
    have e1 : l[i]? = some (l.getD i 0) := get_of_lt (by omega) 0
    obtain ⟨k0, k1⟩ := hv.2 i _ e1
    obtain ⟨_, _, b⟩ := lst_bd g hi hs
    have b2 := b _ k1
    rw [Int.toNat_of_nonneg k0] at b2
    unfold partC
    rw [e0, e1]
    exact b2

theorem floor_mono {t : T24} (g : Good t) {c l : List Int} (h : c <+: l) (hv : vC t l) (hl : l.length = t.1.length) : floorC t c ≤ floorC t l :=
  maxN_mono fun s hs => sumN_mono fun i hi => part_mono g h hv hl hs hi

theorem due_mono {t : T24} (g : Good t) {c l : List Int} (h : c <+: l) (hv : vC t l) (y : Int) : dueS t c y ≤ dueS t l y := by
  have e : dueS t c y = sumN (partD t l y) c.length := sumN_congr fun i hi => by
    have := pre_get h hi
    unfold partD
    rw [this]
  rw [e]
  have hle := h.length_le
  have key : ∀ d, sumN (partD t l y) c.length ≤ sumN (partD t l y) (c.length + d) := by
    intro d
    induction d with
    | zero => exact Int.le_refl _
    | succ d ih =>
      have := (dueP_bd g hv y (c.length + d)).1
      show _ ≤ sumN (partD t l y) (c.length + d) + partD t l y (c.length + d)
      omega
  have := key (l.length - c.length)
  rw [show c.length + (l.length - c.length) = l.length by omega] at this
  exact this

theorem over_none {t : T24} {c : List Int} : overC t c = -1 ↔ ∀ y, y < t.2.1.length → dueS t c (y : Int) ≤ t.2.1.getD y 0 := by
  unfold overC
  rw [overG_none]
  constructor
  · intro h y hy
    have := h y (by omega) (by omega)
    simp only [brk, decide_eq_false_iff_not] at this
    omega
  · intro h y _ hy
    have := h y (by omega)
    simp only [brk, decide_eq_false_iff_not]
    omega

theorem over_mono {t : T24} (g : Good t) {c l : List Int} (h : c <+: l) (hv : vC t l) (ho : overC t l = -1) : overC t c = -1 :=
  over_none.2 fun y hy => Int.le_trans (due_mono g h hv _) (over_none.1 ho y hy)

/-- A whole choice that breaks no cap. -/
def feas (t : T24) (l : List Int) : Prop := vC t l ∧ l.length = t.1.length ∧ overC t l = -1

theorem vC_pre {t : T24} {c l : List Int} (h : c <+: l) (hv : vC t l) : vC t c := by
  refine ⟨Nat.le_trans h.length_le hv.1, fun i k hk => ?_⟩
  have hi := (List.getElem?_eq_some_iff.1 hk).1
  exact hv.2 i k ((pre_get h hi).trans hk)

theorem pre_next {t : T24} {c l : List Int} (h : c <+: l) (hv : vC t l) (hl : l.length = t.1.length) (hc : c.length < t.1.length) : ∃ j : Nat, j < wid t c ∧ c ++ [(j : Int)] <+: l := by
  have e1 : l[c.length]? = some (l.getD c.length 0) := get_of_lt (by omega) 0
  obtain ⟨k0, k1⟩ := hv.2 _ _ e1
  refine ⟨(l.getD c.length 0).toNat, k1, ?_⟩
  rw [Int.toNat_of_nonneg k0]
  obtain ⟨d, rfl⟩ := h
  cases d with
  | nil => simp at hl; omega
  | cons x d =>
    refine ⟨d, ?_⟩
    simp

/-! ### The order of choices -/
def lessL : List Int → List Int → Bool
  | a :: x, b :: y => bif a != b then decide (a < b) else lessL x y
  | _, _ => false
theorem less_app : ∀ (c : List Int) (x y : List Int), lessL (c ++ x) (c ++ y) = lessL x y
  | [], x, y => rfl
  | a :: c, x, y => by
    have := less_app c x y
    simp only [List.cons_append, lessL, bne_self_eq_false, cond_false, this]
theorem less_self (c : List Int) : lessL c c = false := by
  have h := less_app c [] []
  rw [List.append_nil] at h
  exact h
theorem less_sib {c l b : List Int} {i j : Nat} (h : i < j) (hb : c ++ [(i : Int)] <+: b) (hl : c ++ [(j : Int)] <+: l) : lessL l b = false ∧ lessL b l = true := by
  obtain ⟨x, rfl⟩ := hb
  obtain ⟨y, rfl⟩ := hl
  have e1 : ((j : Int) != (i : Int)) = true := by simp; omega
  have e2 : ((i : Int) != (j : Int)) = true := by simp; omega
  simp only [List.append_assoc, less_app, List.cons_append, List.nil_append, lessL, e1, e2, cond_true]
  exact ⟨decide_eq_false (by omega), decide_eq_true (by omega)⟩

/-! ### The search -/
def Found (t : T24) (P : List Int → Prop) (s s' : List Int × Int) : Prop :=
  (s' = s ∧ ∀ l, feas t l → P l → s.1 ≠ [] ∧ s.2 ≤ floorC t l) ∨
  (feas t s'.1 ∧ P s'.1 ∧ s'.2 = floorC t s'.1 ∧ (s.1 ≠ [] → s'.2 < s.2) ∧ ∀ l, feas t l → P l → s'.2 < floorC t l ∨ (s'.2 = floorC t l ∧ lessL l s'.1 = false))

theorem feas_ne {t : T24} (g : Good t) {l : List Int} (h : feas t l) : l ≠ [] := by
  rintro rfl
  have := h.2.1
  have := g.n1
  simp at *
  omega

theorem Found.seq {t : T24} (g : Good t) {P Q : List Int → Prop} {s s1 s2 : List Int × Int} (h1 : Found t P s s1) (h2 : Found t Q s1 s2) (hx : ∀ l b, P b → Q l → lessL l b = false) : Found t (fun l => P l ∨ Q l) s s2 := by
  rcases h1 with ⟨e1, a1⟩ | ⟨a1, b1, c1, d1, f1⟩
  · subst e1
    rcases h2 with ⟨e2, a2⟩ | ⟨a2, b2, c2, d2, f2⟩
    · exact .inl ⟨e2, fun l hl hp => hp.elim (a1 l hl) (a2 l hl)⟩
    · refine .inr ⟨a2, .inr b2, c2, d2, fun l hl hp => ?_⟩
      rcases hp with hp | hp
      · obtain ⟨q1, q2⟩ := a1 l hl hp
        have := d2 q1
        exact .inl (by omega)
      · exact f2 l hl hp
  · have hne := feas_ne g a1
    rcases h2 with ⟨e2, a2⟩ | ⟨a2, b2, c2, d2, f2⟩
    · subst e2
      refine .inr ⟨a1, .inl b1, c1, d1, fun l hl hp => ?_⟩
      rcases hp with hp | hp
      · exact f1 l hl hp
      · obtain ⟨q1, q2⟩ := a2 l hl hp
        by_cases e : s2.2 = floorC t l
        · exact .inr ⟨e, hx l _ b1 hp⟩
        · exact .inl (by omega)
    · have d3 := d2 hne
      refine .inr ⟨a2, .inr b2, c2, fun h => by have := d1 h; omega, fun l hl hp => ?_⟩
      rcases hp with hp | hp
      · rcases f1 l hl hp with q | ⟨q, _⟩ <;> exact .inl (by omega)
      · exact f2 l hl hp

theorem Found.congr {t : T24} {P Q : List Int → Prop} {s s' : List Int × Int} (h : Found t P s s') (hq : ∀ l, feas t l → (P l ↔ Q l)) : Found t Q s s' := by
  rcases h with ⟨e1, a1⟩ | ⟨a1, b1, c1, d1, f1⟩
  · exact .inl ⟨e1, fun l hl hp => a1 l hl ((hq l hl).2 hp)⟩
  · exact .inr ⟨a1, (hq _ a1).1 b1, c1, d1, fun l hl hp => f1 l hl ((hq l hl).2 hp)⟩

theorem stop_found {t : T24} (g : Good t) {c : List Int} {s : LS} (h : stopB t c s = true) : Found t (c <+: ·) s.2 s.2 := by
  refine .inl ⟨rfl, fun l hl hp => ?_⟩
  simp only [stopB, Bool.or_eq_true, Bool.and_eq_true, Bool.not_eq_true', decide_eq_true_eq] at h
  have ho := over_mono g hp hl.1 hl.2.2
  have hf := floor_mono g hp hl.1 hl.2.1
  rcases h with h | ⟨h1, h2⟩
  · omega
  · refine ⟨fun e => ?_, by omega⟩
    rw [e] at h1
    cases h1

theorem look_found {t : T24} (g : Good t) : ∀ r (c : List Int) (s : LS), vC t c → c.length + r = t.1.length → Found t (c <+: ·) s.2 (lookP t r c s).2
  | 0, c, s, hv, hc => by
    unfold lookP
    cases h : stopB t c s with
    | true => exact stop_found g h
    | false =>
      simp only [stopB, Bool.or_eq_false_iff, Bool.and_eq_false_iff, Bool.not_eq_false', decide_eq_false_iff_not] at h
      obtain ⟨h1, h2⟩ := h
      have ho : overC t c = -1 := by rcases over_cases t c with h | h <;> omega
      have hcl : c.length = t.1.length := by omega
      refine .inr ⟨⟨hv, hcl, ho⟩, List.prefix_refl _, rfl, fun hs => ?_, fun l hl hp => ?_⟩
      · rcases h2 with h2 | h2
        · exact absurd (List.isEmpty_iff.1 h2) hs
        · show floorC t c < _
          omega
      · have : c = l := hp.eq_of_length (by have := hl.2.1; omega)
        subst this
        exact .inr ⟨rfl, less_self _⟩
  | r + 1, c, s, hv, hc => by
    unfold lookP
    cases h : stopB t c s with
    | true => exact stop_found g h
    | false =>
      have hc' : c.length < t.1.length := by omega
      have key : ∀ j, j ≤ wid t c → Found t (fun l => ∃ i : Nat, i < j ∧ c ++ [(i : Int)] <+: l) s.2 (foldN (fun j s => lookP t r (c ++ [(j : Int)]) s) j (s.1 + 1, s.2)).2 := by
        intro j
        induction j with
        | zero => intro _; exact .inl ⟨rfl, fun l _ ⟨i, hi, _⟩ => absurd hi (Nat.not_lt_zero i)⟩
        | succ j ih =>
          intro hj
          have a := ih (by omega)
          have b := look_found g r (c ++ [(j : Int)]) (foldN (fun j s => lookP t r (c ++ [(j : Int)]) s) j (s.1 + 1, s.2)) (vC_app hv hc' (by exact hj)) (by simp; omega)
          refine (Found.seq g a b ?_).congr fun l hl => ?_
          · rintro l b ⟨i, hi, hb⟩ hl
            exact (less_sib hi hb hl).1
          · constructor
            · rintro (⟨i, hi, hp⟩ | hp)
              · exact ⟨i, by omega, hp⟩
              · exact ⟨j, by omega, hp⟩
            · rintro ⟨i, hi, hp⟩
              by_cases e : i = j
              · subst e; exact .inr hp
              · exact .inl ⟨i, by omega, hp⟩
      refine (key (wid t c) (Nat.le_refl _)).congr fun l hl => ?_
      constructor
      · rintro ⟨i, hi, hp⟩
        exact (List.prefix_append _ _).trans hp
      · intro hp
        exact pre_next hp hl.1 hl.2.1 hc'

def srch (t : T24) : List Int × Int := (lookP t t.1.length [] (0, [], 0)).2

theorem srch_found {t : T24} (g : Good t) : Found t (fun _ => True) ([], 0) (srch t) :=
  (look_found g t.1.length [] (0, [], 0) (vC_nil t) (by simp)).congr fun l _ => ⟨fun _ => trivial, fun _ => List.nil_prefix⟩

/-- Either no choice is feasible, and nothing is found, or the first of the cheapest is. -/
theorem srch_spec {t : T24} (g : Good t) : ((srch t).1 = [] ∧ (srch t).2 = 0 ∧ ∀ l, ¬ feas t l) ∨
    (feas t (srch t).1 ∧ (srch t).2 = floorC t (srch t).1 ∧ ∀ l, feas t l → (srch t).2 < floorC t l ∨ ((srch t).2 = floorC t l ∧ lessL l (srch t).1 = false)) := by
  rcases srch_found g with ⟨e1, a1⟩ | ⟨a1, b1, c1, d1, f1⟩
  · rw [e1]
    exact .inl ⟨rfl, rfl, fun l hl => (a1 l hl trivial).1 rfl⟩
  · exact .inr ⟨a1, c1, fun l hl => f1 l hl trivial⟩

theorem srch_min {t : T24} (g : Good t) (h : (srch t).1 ≠ []) : minK t (srch t).2 := by
  intro l hv hl ho
  rcases srch_spec g with ⟨e, _, _⟩ | ⟨_, _, f⟩
  · exact absurd e h
  · rcases f l ⟨hv, hl, ho⟩ with q | ⟨q, _⟩ <;> omega

/-! ### Plan: the functions' answers in closed form. -/
theorem nd_le {r : Nat} (h : r ≤ 5) : nd r ≤ 9331 := by
  have key : ∀ r, r < 6 → nd r ≤ 9331 := by decide
  exact key r (by omega)

def bestC (t : T24) : List Int × (Int × (List T42 × (Int × Unit))) :=
  bif rightC t then (bif (srch t).1.isEmpty then ([], 0, [], 4, ()) else ((srch t).1, (srch t).2, bnd t (srch t).2 t.1.length [], 0, ())) else ([], 0, [], 1, ())

theorem bnd_srch {t : T24} (g : Good t) (h5 : t.1.length ≤ 5) (k : Int) : (bnd t k t.1.length []).length ≤ 9331 :=
  Nat.le_trans (bnd_len g k t.1.length [] (by simp)) (nd_le h5)

theorem m10_eq (t : T24) (h5 : t.1.length ≤ 5) : m10 t = some (bestC t) := by
  unfold m10 bestC
  rw [m16_eq, Option.bind_some]
  cases hr : rightC t with
  | false => rfl
  | true =>
  have g := good_of hr
  have := g.s1
  have := g.s2
  have := g.y
  have := g.n2
  have hl : (4294967296 : Nat) = LIM := rfl
  have a1 : (decide (0 ≤ (scen t : Int)) && decide ((scen t : Int) ≤ (scen t : Int)) && decide ((scen t : Int) ≤ (LIM : Int))) = true := by simp; omega
  have a2 : (decide (0 ≤ (List.length t.2.1 : Int)) && decide ((List.length t.2.1 : Int) ≤ (List.length t.2.1 : Int)) && decide ((List.length t.2.1 : Int) ≤ (LIM : Int))) = true := by simp; omega
  have hnd := nd_le h5
  rw [m36_eq]
  simp only [Bool.not_true, cond_false, cond_true, Option.bind_some, a1, a2, asrtT, Int.toNat_natCast]
  rw [op10_4 g, due_nil]
  have h26 : m26 0 [] 0 t t (leastL t) [] (costsL t []) (dueL t []) = some (st26 t [] (lookP t t.1.length [] (0, [], 0))) :=
    m26N_eq g t.1.length FUEL [] (0, [], 0) (fuel_lt (by omega)) (vC_nil t) (by simp) (Int.le_refl 0) (by simp only; omega)
  have hb := (look_bd g t.1.length [] (0, [], 0) (by simp)).2
  simp only at hb
  rw [h26]
  simp only [Option.bind_some, st26]
  rw [decide_eq_false (p := (lookP t t.1.length [] (0, [], 0)).1 > 100000) (by omega)]
  simp only [cond_false]
  have e : (lookP t t.1.length [] (0, [], 0)).2 = srch t := rfl
  rw [e]
  cases he : (srch t).1.isEmpty with
  | true => rfl
  | false =>
    have hne : (srch t).1 ≠ [] := fun h => by rw [h] at he; cases he
    have h31 : m31 (srch t).2 t (leastL t) [] [] (costsL t []) (dueL t []) = some (st31 t [] ([] ++ bnd t (srch t).2 t.1.length [])) :=
      m31N_eq g (srch_min g hne) t.1.length FUEL [] [] (fuel_lt (by omega)) (vC_nil t) (by simp) (by simp; omega)
    have hlen := bnd_srch g h5 (srch t).2
    simp only [cond_false, h31, Option.bind_some, st31, List.nil_append]
    rw [decide_eq_false (p := (List.length (bnd t (srch t).2 t.1.length []) : Int) > 100000) (by omega)]
    rfl

def st32 (t : T24) (s : LS) : F32o.ty := (((()), ()), ((t, s.1, s.2.1, s.2.2, ()), ()))

theorem m11_eq (t : T24) (h5 : t.1.length ≤ 5) : m11 t = some (bestC t) := by
  unfold m11 bestC
  rw [m17_eq, Option.bind_some]
  cases hr : rightC t with
  | false => rfl
  | true =>
  have g := good_of hr
  have := g.n2
  have hnd := nd_le h5
  have h32 : m32 [] t 0 [] 0 = some (st32 t (lookP t t.1.length [] (0, [], 0))) :=
    m32N_eq g t.1.length FUEL [] (0, [], 0) (fuel_lt (by omega)) (vC_nil t) (by simp) (Int.le_refl 0) (by simp only; omega)
  have hb := (look_bd g t.1.length [] (0, [], 0) (by simp)).2
  simp only at hb
  rw [h32]
  simp only [Bool.not_true, cond_false, cond_true, Option.bind_some, st32]
  rw [decide_eq_false (p := (lookP t t.1.length [] (0, [], 0)).1 > 100000) (by omega)]
  simp only [cond_false]
  have e : (lookP t t.1.length [] (0, [], 0)).2 = srch t := rfl
  rw [e]
  cases he : (srch t).1.isEmpty with
  | true => rfl
  | false =>
    have h33 : m33 t [] (srch t).2 [] = some (st33 ([] ++ bnd t (srch t).2 t.1.length [])) :=
      m33N_eq g t.1.length FUEL [] [] (fuel_lt (by omega)) (vC_nil t) (by simp) (by simp; omega)
    have hlen := bnd_srch g h5 (srch t).2
    simp only [cond_false, h33, Option.bind_some, st33, List.nil_append]
    rw [decide_eq_false (p := (List.length (bnd t (srch t).2 t.1.length []) : Int) > 100000) (by omega)]
    rfl

/-- Whether a proof covers the empty choice, and nothing is left. -/
def covB (t : T24) (k : Int) (p : List T42) : Bool := match covC t k t.1.length [] p with
  | some [] => true
  | _ => false
def checkC (t : T24) (a : List Int) (k : Int) (p : List T42) : Int :=
  bif rightC t then (bif ((!(costC t a).2.1) || ((costC t a).1 != k)) then 24 else bif covB t k p then 0 else 24) else 1

theorem m18_eq (t : T24) (a : List Int) (k : Int) (p : List T42) (hp : p.length ≤ 1000000) (hc : ∀ b ∈ p, b.1.length ≤ 1000000) : m18 t a k p = some (checkC t a k p) := by
  unfold m18 checkC
  rw [m16_eq, Option.bind_some]
  cases hr : rightC t with
  | false => rfl
  | true =>
  have g := good_of hr
  have := g.s1
  have := g.s2
  have := g.y
  have := g.n2
  have hl : (4294967296 : Nat) = LIM := rfl
  have a1 : (decide (0 ≤ (scen t : Int)) && decide ((scen t : Int) ≤ (scen t : Int)) && decide ((scen t : Int) ≤ (LIM : Int))) = true := by simp; omega
  have a2 : (decide (0 ≤ (List.length t.2.1 : Int)) && decide ((List.length t.2.1 : Int) ≤ (List.length t.2.1 : Int)) && decide ((List.length t.2.1 : Int) ≤ (LIM : Int))) = true := by simp; omega
  simp only [Bool.not_true, cond_false, cond_true, m12_eq, Option.bind_some]
  cases h1 : ((!(costC t a).2.1) || ((costC t a).1 != k)) with
  | true => rfl
  | false =>
    rw [m36_eq]
    simp only [cond_false, Option.bind_some, a1, a2, asrtT, Int.toNat_natCast]
    rw [op18_4 g, due_nil]
    have h44 := m44N_eq g (k := k) t.1.length FUEL [] p (fuel_lt (by omega)) (vC_nil t) (by simp) hp hc
    have e44 : m44 [] k p t (leastL t) (costsL t []) (dueL t []) = m44N FUEL [] k p t (leastL t) (costsL t []) (dueL t []) := rfl
    rw [e44]
    unfold cov44 at h44
    unfold covB
    cases hcv : covC t k t.1.length [] p with
    | none =>
      rw [hcv] at h44
      obtain ⟨r, h44⟩ := h44
      rw [h44]
      rfl
    | some q =>
      rw [hcv] at h44
      rw [h44]
      cases q with
      | nil => rfl
      | cons b q =>
        simp only [st44, Option.bind_some, Bool.not_true, Bool.false_or]
        rw [decide_eq_true (p := ((List.length (b :: q) : Int) > 0)) (by simp only [List.length_cons]; omega)]
        rfl

def st45 (n : Int) : F45o.ty := ((n, ()), ())

theorem m19_eq (t : T24) (a : List Int) (k : Int) (p : List T42) (hp : p.length ≤ 1000000) (hc : ∀ b ∈ p, b.1.length ≤ 1000000) : m19 t a k p = some (checkC t a k p) := by
  unfold m19 checkC
  rw [m17_eq, Option.bind_some]
  cases hr : rightC t with
  | false => rfl
  | true =>
  have g := good_of hr
  have := g.n2
  simp only [Bool.not_true, cond_false, cond_true, m13_eq, Option.bind_some]
  cases h1 : ((!(costC t a).2.1) || ((costC t a).1 != k)) with
  | true => rfl
  | false =>
    have h45 := m45N_eq g (k := k) hp hc t.1.length FUEL [] 0 (fuel_lt (by omega)) (vC_nil t) (by simp) (Nat.zero_le _)
    have e45 : m45 t [] k p 0 = some (st45 (num (List.drop 0 p) (covC t k t.1.length [] (List.drop 0 p)))) := h45
    rw [e45]
    simp only [beq_self_eq_true, cond_true, cond_false, Option.bind_some, Bool.false_or, List.drop_zero, st45]
    unfold covB
    cases hcv : covC t k t.1.length [] p with
    | none =>
      have : (num p none != (p.length : Int)) = true := by simp only [num, bne_iff_ne, ne_eq]; omega
      rw [this]; rfl
    | some q =>
      cases q with
      | nil =>
        have : (num p (some []) != (p.length : Int)) = false := by simp [num]
        rw [this]; rfl
      | cons b q =>
        have : (num p (some (b :: q)) != (p.length : Int)) = true := by simp only [num, bne_iff_ne, ne_eq, List.length_cons]; omega
        rw [this]; rfl

/-! ### The examples -/
theorem m8_eq : m8 = some true := by
  unfold m8 m24
  simp only [Option.bind_some]
  rw [m10_eq _ (by decide), m10_eq _ (by decide), m10_eq _ (by decide)]
  have b1 : bestC ([[([5], (-1), 0, ()), ([3], 0, 40, ())], [([7], (-1), 0, ()), ([2], 0, 30, ())]], [100], ()) = ([1, 1], 5, [([], 5, -1, ())], 0, ()) := by kernel_rfl
  have b2 : bestC ([[([5], (-1), 0, ()), ([3], 0, 40, ())], [([7], (-1), 0, ()), ([2], 0, 30, ())]], [50], ()) = ([0, 1], 7, [([0], 7, -1, ()), ([1, 0], 10, -1, ()), ([1, 1], 0, 0, ())], 0, ()) := by kernel_rfl
  have b3 : (bestC ([[([5], (-1), 0, ()), ([3], 0, 40, ())], [([7], (-1), 0, ()), ([2], 0, 30, ())]], [20], ())).1 = [0, 0] ∧ (bestC ([[([5], (-1), 0, ()), ([3], 0, 40, ())], [([7], (-1), 0, ()), ([2], 0, 30, ())]], [20], ())).2.1 = 12 ∧ (bestC ([[([5], (-1), 0, ()), ([3], 0, 40, ())], [([7], (-1), 0, ()), ([2], 0, 30, ())]], [20], ())).2.2.2.1 = 0 := by decide +kernel
  obtain ⟨c1, c2, c3⟩ := b3
  have s1 : m15 [([0], 7, -1, ()), ([1, 0], 10, -1, ()), ([1, 1], 0, 0, ())] [([0], 7, -1, ()), ([1, 0], 10, -1, ()), ([1, 1], 0, 0, ())] = some true := same_refl (by decide) (by decide)
  have d1 : bestC ([[([3], 0, 40, ())], [([7], (-1), 0, ()), ([2], 0, 30, ())]], [20], ()) = ([], 0, [], 4, ()) := by kernel_rfl
  have d2 : costC ([[([5], (-1), 0, ()), ([3], 0, 40, ())], [([7], (-1), 0, ()), ([2], 0, 30, ())]], [50], ()) [1, 0] = (10, true, ()) := by decide +kernel
  have d3 : checkC ([[([5], (-1), 0, ()), ([3], 0, 40, ())], [([7], (-1), 0, ()), ([2], 0, 30, ())]], [50], ()) [0, 1] 7 [([0], 7, -1, ()), ([1, 0], 10, -1, ()), ([1, 1], 0, 0, ())] = 0 := by decide +kernel
  have d4 : checkC ([[([5], (-1), 0, ()), ([3], 0, 40, ())], [([7], (-1), 0, ()), ([2], 0, 30, ())]], [50], ()) [1, 0] 10 [([0], 7, -1, ()), ([1, 0], 10, -1, ()), ([1, 1], 0, 0, ())] = 24 := by decide +kernel
  have e0 : (decide ((0 : Int) ≤ 0) && decide ((0 : Int) < (List.length [[([5], (-1 : Int), (0 : Int), ()), ([3], 0, 40, ())], [([7], (-1), 0, ()), (([2] : List Int), 0, 30, ())]] : Int))) = true := by decide
  have e1 : (bounds true (List.length [(([5] : List Int), (-1 : Int), (0 : Int), ()), ([3], 0, 40, ())]) 1 (List.length [(([5] : List Int), (-1 : Int), (0 : Int), ()), ([3], 0, 40, ())] : Int)) = true := by decide
  have e2 : subl [(([5] : List Int), (-1 : Int), (0 : Int), ()), ([3], 0, 40, ())] 1 (List.length [(([5] : List Int), (-1 : Int), (0 : Int), ()), ([3], 0, 40, ())] : Int) = [([3], 0, 40, ())] := by decide
  have e3 : ([[(([5] : List Int), (-1 : Int), (0 : Int), ()), ([3], 0, 40, ())], [([7], (-1), 0, ()), ([2], 0, 30, ())]])[(0 : Int).toNat]? = some [(([5] : List Int), (-1 : Int), (0 : Int), ()), ([3], 0, 40, ())] := rfl
  have e4 : List.set [[(([5] : List Int), (-1 : Int), (0 : Int), ()), ([3], 0, 40, ())], [([7], (-1), 0, ()), ([2], 0, 30, ())]] (0 : Int).toNat [([3], 0, 40, ())] = [[([3], 0, 40, ())], [([7], (-1), 0, ()), ([2], 0, 30, ())]] := rfl
  have n1 : m14 [1, 1] [1, 1] = some true := by rw [m14_eq _ _ (by decide)]; rfl
  have n2 : m14 [0, 1] [0, 1] = some true := by rw [m14_eq _ _ (by decide)]; rfl
  have n3 : m14 [0, 0] [0, 0] = some true := by rw [m14_eq _ _ (by decide)]; rfl
  simp only [Option.bind_some, b1, b2, c1, c2, c3, beq_self_eq_true, Bool.and_self, cond_true, n1, n2, n3, s1, e0, asrtT, e3, e1, e2, e4]
  rw [m10_eq _ (by decide), d1]
  simp only [Option.bind_some, m12_eq, d2, beq_self_eq_true, Bool.and_self, cond_true]
  rw [m18_eq _ _ _ _ (by decide) (by decide), d3]
  simp only [Option.bind_some, beq_self_eq_true, Bool.and_self, cond_true]
  rw [m18_eq _ _ _ _ (by decide) (by decide), d4]
  rfl

/-! ### Plan: what a proof shows. -/
/-! ### The bounds that are found cover -/
theorem bnd_pre (t : T24) (k : Int) : ∀ r c b, b ∈ bnd t k r c → c <+: b.1
  | 0, c, b, h => by
    unfold bnd at h
    cases h1 : decide (overC t c ≥ 0) <;> rw [h1] at h <;> simp only [cond_true, cond_false, List.mem_singleton] at h <;> subst h <;> exact List.prefix_refl _
  | r + 1, c, b, h => by
    unfold bnd at h
    cases h1 : decide (overC t c ≥ 0) with
    | true => rw [h1] at h; simp only [cond_true, List.mem_singleton] at h; subst h; exact List.prefix_refl _
    | false =>
      rw [h1] at h
      cases h2 : decide (floorC t c ≥ k) with
      | true => rw [h2] at h; simp only [cond_true, cond_false, List.mem_singleton] at h; subst h; exact List.prefix_refl _
      | false =>
        rw [h2] at h
        simp only [cond_false] at h
        have key : ∀ w, b ∈ catN (fun j => bnd t k r (c ++ [(j : Int)])) w → c <+: b.1 := by
          intro w
          induction w with
          | zero => intro h; cases h
          | succ w ih =>
            intro h
            rcases List.mem_append.1 h with h | h
            · exact ih h
            · exact (List.prefix_append _ _).trans (bnd_pre t k r _ b h)
        exact key _ h

theorem bnd_ne {t : T24} (g : Good t) (k : Int) : ∀ r c, c.length + r = t.1.length → bnd t k r c ≠ []
  | 0, c, _ => by unfold bnd; cases decide (overC t c ≥ 0) <;> simp
  | r + 1, c, hc => by
    unfold bnd
    cases decide (overC t c ≥ 0) with
    | true => simp
    | false =>
      cases decide (floorC t c ≥ k) with
      | true => simp
      | false =>
        simp only [cond_false]
        have hw := wid_bd g (c := c) (by omega)
        obtain ⟨w, e⟩ : ∃ w, wid t c = w + 1 := ⟨wid t c - 1, by omega⟩
        rw [e]
        simp only [catN]
        intro h
        exact bnd_ne g k r (c ++ [(w : Int)]) (by simp; omega) (List.append_eq_nil_iff.1 h).2

theorem cov1_leaf {t : T24} {k : Int} {c : List Int} (next : List T42 → Option (List T42)) {b : T42} (q : List T42) (h1 : b.1 = c) (h2 : hitB t k c b = true) : cov1 t k c next (b :: q) = some q := by
  simp only [cov1, decide_eq_true h1, h2, cond_true]

theorem hit_over {t : T24} {k : Int} {c : List Int} (h : decide (overC t c ≥ 0) = true) : hitB t k c (c, 0, overC t c, ()) = true := by
  have h := of_decide_eq_true h
  rcases overG_bd (brk t c) t.2.1.length 0 with h1 | ⟨h1, h2, h3⟩
  · have : overC t c = -1 := h1
    omega
  · have h2' : overC t c < ((0 + t.2.1.length : Nat) : Int) := h2
    have h3' : brk t c (overC t c).toNat = true := h3
    unfold hitB
    have e : (overC t c == -1) = false := by simp; omega
    simp only [e, cond_false, Bool.and_eq_true]
    simp only [brk] at h3'
    rw [Int.toNat_of_nonneg h] at h3'
    refine ⟨?_, h3'⟩
    simp only [inB, Bool.and_eq_true, decide_eq_true_eq]
    omega

theorem hit_floor {t : T24} {k : Int} {c : List Int} (h : k ≤ floorC t c) : hitB t k c (c, floorC t c, -1, ()) = true := by
  unfold hitB
  simp [h]

theorem cov_bnd {t : T24} (g : Good t) {k : Int} (hk : minK t k) : ∀ r (c : List Int) (q : List T42), vC t c → c.length + r = t.1.length → covC t k r c (bnd t k r c ++ q) = some q
  | 0, c, q, hv, hc => by
    unfold covC bnd
    cases h1 : decide (overC t c ≥ 0) with
    | true => exact cov1_leaf _ q rfl (hit_over h1)
    | false =>
      have ho : overC t c = -1 := by have := of_decide_eq_false h1; rcases over_cases t c with h | h <;> omega
      exact cov1_leaf _ q rfl (hit_floor (hk c hv (by omega) ho))
  | r + 1, c, q, hv, hc => by
    unfold covC bnd
    cases h1 : decide (overC t c ≥ 0) with
    | true => exact cov1_leaf _ q rfl (hit_over h1)
    | false =>
      cases h2 : decide (floorC t c ≥ k) with
      | true => exact cov1_leaf _ q rfl (hit_floor (of_decide_eq_true h2))
      | false =>
        have hc' : c.length < t.1.length := by omega
        simp only [cond_false]
        have hw := wid_bd g hc'
        have key : ∀ w, w ≤ wid t c → ∀ q, foldO (fun j => covC t k r (c ++ [(j : Int)])) w (catN (fun j => bnd t k r (c ++ [(j : Int)])) w ++ q) = some q := by
          intro w
          induction w with
          | zero => intro _ q; rfl
          | succ w ih =>
            intro hw q
            simp only [catN, foldO, List.append_assoc]
            rw [ih (by omega)]
            exact cov_bnd g hk r (c ++ [(w : Int)]) q (vC_app hv hc' hw) (by simp; omega)
        have hcat := key (wid t c) (Nat.le_refl _) q
        generalize hp : catN (fun j => bnd t k r (c ++ [(j : Int)])) (wid t c) ++ q = p at hcat ⊢
        cases p with
        | nil =>
          -- the first child has a bound
          exfalso
          have hne : ∀ w, 1 ≤ w → catN (fun j => bnd t k r (c ++ [(j : Int)])) w ≠ [] := by
            intro w
            induction w with
            | zero => intro h; omega
            | succ w ih =>
              intro _ h
              simp only [catN, List.append_eq_nil_iff] at h
              by_cases e : w = 0
              · subst e; exact bnd_ne g k r _ (by simp; omega) h.2
              · exact ih (by omega) h.1
          exact hne _ hw.1 (List.append_eq_nil_iff.1 hp).1
        | cons b p =>
          have hb : ¬ (b.1 = c) := by
            have hlen : c.length < b.1.length := by
              have : ∀ w, 1 ≤ w → ∃ x y, catN (fun j => bnd t k r (c ++ [(j : Int)])) w = x :: y ∧ c.length < x.1.length := by
                intro w
                induction w with
                | zero => intro h; omega
                | succ w ih =>
                  intro _
                  by_cases e : w = 0
                  · subst e
                    cases hx : bnd t k r (c ++ [((0 : Nat) : Int)]) with
                    | nil => exact absurd hx (bnd_ne g k r _ (by simp; omega))
                    | cons x y =>
                      refine ⟨x, y, by simp only [catN, List.nil_append]; exact hx, ?_⟩
                      have := (bnd_pre t k r (c ++ [((0 : Nat) : Int)]) x (by rw [hx]; simp)).length_le
                      simp at this; omega
                  · obtain ⟨x, y, e1, e2⟩ := ih (by omega)
                    refine ⟨x, y ++ bnd t k r (c ++ [(w : Int)]), by simp only [catN]; rw [e1]; rfl, e2⟩
              obtain ⟨x, y, e1, e2⟩ := this _ hw.1
              rw [e1] at hp
              simp only [List.cons_append, List.cons.injEq] at hp
              rw [← hp.1]; exact e2
            intro e; rw [e] at hlen; omega
          simp only [cov1, decide_eq_false hb, cond_false]
          exact hcat

theorem covB_bnd {t : T24} (g : Good t) {k : Int} (hk : minK t k) : covB t k (bnd t k t.1.length []) = true := by
  have h := cov_bnd g hk t.1.length [] [] (vC_nil t) (by simp)
  rw [List.append_nil] at h
  unfold covB
  rw [h]

/-! ### What is covered is not cheaper -/
theorem cov_sound {t : T24} (g : Good t) {k : Int} {l : List Int} (hl : feas t l) : ∀ r (c : List Int) (p q : List T42), c <+: l → c.length + r = t.1.length → covC t k r c p = some q → k ≤ floorC t l := by
  have leaf : ∀ (c : List Int) (b : T42), c <+: l → hitB t k c b = true → k ≤ floorC t l := by
    intro c b hc h
    unfold hitB at h
    have hf := floor_mono g hc hl.1 hl.2.1
    cases h1 : (b.2.2.1 == -1) with
    | true =>
      rw [h1] at h
      simp only [cond_true, Bool.and_eq_true, decide_eq_true_eq] at h
      omega
    | false =>
      rw [h1] at h
      simp only [cond_false, inB, Bool.and_eq_true, decide_eq_true_eq] at h
      have ho := over_none.1 (over_mono g hc hl.1 hl.2.2) b.2.2.1.toNat (by omega)
      rw [Int.toNat_of_nonneg h.1.1] at ho
      omega
  intro r
  induction r with
  | zero =>
    intro c p q hc hr h
    unfold covC at h
    cases p with
    | nil => cases h
    | cons b p =>
      simp only [cov1] at h
      cases h1 : decide (b.1 = c) with
      | false => rw [h1] at h; cases h
      | true =>
        rw [h1] at h
        cases h2 : hitB t k c b with
        | true => exact leaf c b hc h2
        | false => rw [h2] at h; cases h
  | succ r ih =>
    intro c p q hc hr h
    unfold covC at h
    cases p with
    | nil => cases h
    | cons b p =>
      simp only [cov1] at h
      cases h1 : decide (b.1 = c) with
      | true =>
        rw [h1] at h
        cases h2 : hitB t k c b with
        | true => exact leaf c b hc h2
        | false => rw [h2] at h; cases h
      | false =>
        rw [h1] at h
        simp only [cond_false] at h
        obtain ⟨j, hj, hp⟩ := pre_next hc hl.1 hl.2.1 (by omega)
        have key : ∀ w p q, j < w → foldO (fun j => covC t k r (c ++ [(j : Int)])) w p = some q → k ≤ floorC t l := by
          intro w
          induction w with
          | zero => intro p q hj; omega
          | succ w ihw =>
            intro p q hj h
            simp only [foldO] at h
            cases h3 : foldO (fun j => covC t k r (c ++ [(j : Int)])) w p with
            | none => rw [h3] at h; cases h
            | some x =>
              rw [h3] at h
              by_cases e : j = w
              · subst e; exact ih _ x q hp (by simp; omega) h
              · exact ihw p x (by omega) h3
        exact key _ _ _ hj h

theorem covB_sound {t : T24} (g : Good t) {k : Int} {p : List T42} (h : covB t k p = true) {l : List Int} (hl : feas t l) : k ≤ floorC t l := by
  unfold covB at h
  cases hc : covC t k t.1.length [] p with
  | none => rw [hc] at h; cases h
  | some q => exact cov_sound g hl t.1.length [] p q List.nil_prefix (by simp) hc

/-! ### Costs -/
theorem costC_feas {t : T24} (hr : rightC t = true) {l : List Int} : (costC t l).2.1 = true ↔ feas t l := by
  unfold costC feasB feas
  rw [hr]
  by_cases hN : l.length = t.1.length
  · have e := chC_vC (t := t) (c := l) (by omega)
    rw [decide_eq_true hN]
    cases h1 : chC t l with
    | true =>
      have hv := e.1 h1
      by_cases h2 : overC t l = -1
      · rw [decide_eq_true h2]; exact ⟨fun _ => ⟨hv, hN, h2⟩, fun _ => rfl⟩
      · rw [decide_eq_false h2]; exact ⟨fun h => (by cases h), fun h => absurd h.2.2 h2⟩
    | false =>
      refine ⟨fun h => (by cases h), fun h => ?_⟩
      rw [e.2 h.1] at h1; cases h1
  · rw [decide_eq_false hN]
    exact ⟨fun h => (by cases h), fun h => absurd h.2.1 hN⟩

theorem costC_val {t : T24} (hr : rightC t = true) {l : List Int} (h : feas t l) : costC t l = (floorC t l, true, ()) := by
  have h2 := (costC_feas hr).2 h
  unfold costC at h2 ⊢
  cases hf : (rightC t && feasB t l) with
  | true => rfl
  | false => rw [hf] at h2; cases h2

theorem costC_no {t : T24} {l : List Int} (h : (costC t l).2.1 = false) : costC t l = (0, false, ()) := by
  unfold costC at h ⊢
  cases hf : (rightC t && feasB t l) with
  | true => rw [hf] at h; cases h
  | false => rfl

theorem floor_bd {t : T24} (g : Good t) {l : List Int} (hv : vC t l) : 0 ≤ floorC t l ∧ floorC t l ≤ 40000000000000000 := by
  have := maxN_bd (f := sumC t l) (M := 40000000000000000) (by decide) (scen t) (fun s hs => sumC_bd g hv hs _ (Nat.le_refl _))
  exact ⟨this.1, this.2.1⟩

/-- What is found. -/
theorem best_cases (t : T24) : (rightC t = false ∧ bestC t = ([], 0, [], 1, ())) ∨ (rightC t = true ∧ (∀ l, ¬ feas t l) ∧ bestC t = ([], 0, [], 4, ())) ∨
    (rightC t = true ∧ feas t (srch t).1 ∧ (srch t).2 = floorC t (srch t).1 ∧ (∀ l, feas t l → (srch t).2 < floorC t l ∨ ((srch t).2 = floorC t l ∧ lessL l (srch t).1 = false)) ∧ minK t (srch t).2 ∧
      bestC t = ((srch t).1, (srch t).2, bnd t (srch t).2 t.1.length [], 0, ())) := by
  unfold bestC
  cases hr : rightC t with
  | false => exact .inl ⟨rfl, rfl⟩
  | true =>
    have g := good_of hr
    rcases srch_spec g with ⟨e, e2, h⟩ | ⟨a, b, c⟩
    · refine .inr (.inl ⟨rfl, h, ?_⟩)
      rw [e]; rfl
    · have hne := feas_ne g a
      refine .inr (.inr ⟨rfl, a, b, c, srch_min g hne, ?_⟩)
      cases he : (srch t).1.isEmpty with
      | true => exact absurd (List.isEmpty_iff.1 he) hne
      | false => rfl

theorem m20_eq (a b : List Int) (h : a.length ≤ 1000000) : m20 a b = some (lessL a b) := by
  unfold m20
  have key : ∀ (i m j : Nat), j + i = a.length → i < m → l20_1 a b (some false) (fun y => some y) m (j : Int) = some (lessL (a.drop j) (b.drop j)) := by
    intro i
    induction i with
    | zero =>
      intro m j hj hm
      obtain ⟨m, rfl⟩ : ∃ a, m = a + 1 := ⟨m - 1, by omega⟩
      have : j = a.length := by omega
      subst this
      simp only [l20_1, s20_1, lt0, Bool.false_and, cond_false, List.drop_length]
      rfl
    | succ i ih =>
      intro m j hj hm
      obtain ⟨m, rfl⟩ : ∃ a, m = a + 1 := ⟨m - 1, by omega⟩
      have hja : j < a.length := by omega
      have e1 : a[j]? = some a[j] := List.getElem?_eq_getElem hja
      have d1 : a.drop j = a[j] :: a.drop (j + 1) := List.drop_eq_getElem_cons hja
      by_cases hjb : j < b.length
      · have e2 : b[j]? = some b[j] := List.getElem?_eq_getElem hjb
        have d2 : b.drop j = b[j] :: b.drop (j + 1) := List.drop_eq_getElem_cons hjb
        simp only [l20_1, s20_1, lt1 hja, lt1 hjb, Bool.and_self, cond_true, idx_nat, e1, e2, Option.bind_some, wr1 (j := j) (by omega)]
        rw [d1, d2]
        cases hc : (a[j] != b[j]) with
        | true => simp only [lessL, hc, cond_true]
        | false =>
          simp only [lessL, hc, cond_false]
          exact ih m (j + 1) (by omega) (by omega)
      · have : decide ((j : Int) < (List.length b : Int)) = false := decide_eq_false (by omega)
        have d2 : b.drop j = [] := List.drop_eq_nil_of_le (by omega)
        simp only [l20_1, s20_1, lt1 hja, this, Bool.and_false, cond_false, d1, d2]
        rfl
  exact key a.length FUEL 0 (by omega) (fuel_lt (by omega))

/-! ### Plan: PlanTells, PlanBest, PlanProof. -/
theorem few_of {t : T24} {p : List T42} (h : fewC t p = true) : t.1.length ≤ 5 ∧ p.length ≤ 600 ∧ ∀ b ∈ p, b.1.length ≤ 6 := by
  simp only [fewC, Bool.and_eq_true, decide_eq_true_eq, List.all_eq_true] at h
  exact ⟨h.1.1, h.1.2.2, fun b hb => h.2.2 b hb⟩

theorem bnd_size {t : T24} (k : Int) : ∀ r (c : List Int) b, c.length + r = t.1.length → b ∈ bnd t k r c → b.1.length ≤ t.1.length
  | 0, c, b, hc, h => by
    unfold bnd at h
    cases h1 : decide (overC t c ≥ 0) <;> rw [h1] at h <;> simp only [cond_true, cond_false, List.mem_singleton] at h <;> subst h <;> exact (by omega : c.length ≤ t.1.length)
  | r + 1, c, b, hc, h => by
    unfold bnd at h
    cases h1 : decide (overC t c ≥ 0) with
    | true => rw [h1] at h; simp only [cond_true, List.mem_singleton] at h; subst h; exact (by omega : c.length ≤ t.1.length)
    | false =>
      rw [h1] at h
      cases h2 : decide (floorC t c ≥ k) with
      | true => rw [h2] at h; simp only [cond_true, cond_false, List.mem_singleton] at h; subst h; exact (by omega : c.length ≤ t.1.length)
      | false =>
        rw [h2] at h
        simp only [cond_false] at h
        have key : ∀ w, b ∈ catN (fun j => bnd t k r (c ++ [(j : Int)])) w → b.1.length ≤ t.1.length := by
          intro w
          induction w with
          | zero => intro h; cases h
          | succ w ih =>
            intro h
            rcases List.mem_append.1 h with h | h
            · exact ih h
            · exact bnd_size k r _ b (by simp; omega) h
        exact key _ h

/-- What is found is small. -/
theorem best_small {t : T24} (h5 : t.1.length ≤ 5) : (bestC t).1.length ≤ 5 ∧ (bestC t).2.2.1.length ≤ 9331 ∧ ∀ b ∈ (bestC t).2.2.1, b.1.length ≤ 5 := by
  rcases best_cases t with ⟨_, e⟩ | ⟨_, _, e⟩ | ⟨hr, hf, _, _, _, e⟩
  · rw [e]; exact ⟨by decide, by decide, fun b hb => by cases hb⟩
  · rw [e]; exact ⟨by decide, by decide, fun b hb => by cases hb⟩
  · rw [e]
    have g := good_of hr
    exact ⟨by have := hf.2.1; simp only; omega, bnd_srch g h5 _, fun b hb => by have := bnd_size _ _ _ b (by simp) hb; omega⟩

theorem planTells (t : T24) (a : List Int) (k : Int) (p : List T42) : m3 t a k p = some true := by
  unfold m3
  simp only [m8_eq, m9_eq, Option.bind_some]
  cases hf : fewC t p with
  | false => rfl
  | true =>
    obtain ⟨h5, h6, h7⟩ := few_of hf
    by_cases ha : ((List.length a : Int) > 6)
    · rw [decide_eq_true ha]; rfl
    · obtain ⟨b1, b2, b3⟩ := best_small h5
      rw [decide_eq_false ha]
      have e14 : m14 (bestC t).1 (bestC t).1 = some true := by rw [m14_eq _ _ (by omega)]; simp
      have e15 : m15 (bestC t).2.2.1 (bestC t).2.2.1 = some true := same_refl (by omega) (fun b hb => by have := b3 b hb; omega)
      simp only [Bool.not_true, Bool.or_self, cond_false, m10_eq t h5, m11_eq t h5, m12_eq, m13_eq, m16_eq, m17_eq, Option.bind_some, beq_self_eq_true, Bool.and_self, cond_true, e14, e15,
        m18_eq t a k p (by omega) (fun b hb => by have := h7 b hb; omega), m19_eq t a k p (by omega) (fun b hb => by have := h7 b hb; omega)]

theorem checkC_best {t : T24} (hr : rightC t = true) (hf : feas t (srch t).1) (hc : (srch t).2 = floorC t (srch t).1) (hm : minK t (srch t).2) : checkC t (srch t).1 (srch t).2 (bnd t (srch t).2 t.1.length []) = 0 := by
  unfold checkC
  rw [hr, costC_val hr hf, ← hc, covB_bnd (good_of hr) hm]
  simp

theorem planBest (t : T24) (a : List Int) : m4 t a = some true := by
  unfold m4
  simp only [m8_eq, m9_eq, Option.bind_some]
  cases hf : fewC t [] with
  | false => rfl
  | true =>
    obtain ⟨h5, h6, h7⟩ := few_of hf
    by_cases ha : ((List.length a : Int) > 6)
    · rw [decide_eq_true ha]; rfl
    · rw [decide_eq_false ha]
      obtain ⟨b1, b2, b3⟩ := best_small h5
      simp only [Bool.not_true, Bool.or_self, cond_false, m10_eq t h5, m12_eq, m16_eq, Option.bind_some]
      rw [m18_eq t _ _ _ (by omega) (fun b hb => by have := b3 b hb; omega)]
      rcases best_cases t with ⟨hr, e⟩ | ⟨hr, hn, e⟩ | ⟨hr, hfe, hc, hmin, hm, e⟩
      · have e2 : (costC t a).2.1 = false := by unfold costC; rw [hr]; rfl
        rw [e, e2, hr]
        rfl
      · have e2 : (costC t a).2.1 = false := by
          cases h : (costC t a).2.1 with
          | false => rfl
          | true => exact absurd ((costC_feas hr).1 h) (hn a)
        rw [e, e2, hr]
        rfl
      · rw [e]
        simp only [bne_self_eq_false, cond_false, checkC_best hr hfe hc hm, Option.bind_some, beq_self_eq_true, Bool.true_and]
        rw [m20_eq a _ (by omega)]
        cases h : (costC t a).2.1 with
        | false => rfl
        | true =>
          have ha2 := (costC_feas hr).1 h
          rw [costC_val hr ha2]
          rcases hmin a ha2 with q | ⟨q, q2⟩
          · rw [decide_eq_true (p := (floorC t a, true, ()).1 > (srch t).2) q]
            rfl
          · rw [q2, ← q]
            simp

theorem wrap_cost {x : Int} (h : 0 ≤ x ∧ x ≤ 40000000000000000) : IntKind.i64.wrap (x + 1) = x + 1 := wrapI (by omega) (by omega)

theorem planProof (t : T24) (a : List Int) (k : Int) (p : List T42) (o : List Int) : m5 t a k p o = some true := by
  unfold m5
  simp only [m8_eq, m9_eq, Option.bind_some]
  cases hf : fewC t p with
  | false => rfl
  | true =>
    obtain ⟨h5, h6, h7⟩ := few_of hf
    by_cases ha : ((List.length a : Int) > 6)
    · rw [decide_eq_true ha]; rfl
    by_cases ho : ((List.length o : Int) > 6)
    · rw [decide_eq_true ho, Bool.or_true]; rfl
    · rw [decide_eq_false ha, decide_eq_false ho]
      have hp1 : p.length ≤ 1000000 := by omega
      have hp2 : ∀ b ∈ p, b.1.length ≤ 1000000 := fun b hb => by have := h7 b hb; omega
      simp only [Bool.not_true, Bool.or_self, cond_false, m18_eq t _ _ p hp1 hp2, Option.bind_some]
      cases h0 : (checkC t a k p != 0) with
      | true => rfl
      | false =>
        have h0 : checkC t a k p = 0 := by simpa using h0
        unfold checkC at h0
        cases hr : rightC t with
        | false => rw [hr] at h0; cases h0
        | true =>
        rw [hr] at h0
        have g := good_of hr
        cases h1 : ((!(costC t a).2.1) || ((costC t a).1 != k)) with
        | true => rw [h1] at h0; cases h0
        | false =>
        rw [h1] at h0
        cases h2 : covB t k p with
        | false => rw [h2] at h0; cases h0
        | true =>
        simp only [Bool.or_eq_false_iff, Bool.not_eq_false', bne_eq_false_iff_eq] at h1
        obtain ⟨i1, i2⟩ := h1
        have hfa := (costC_feas hr).1 i1
        have hva := costC_val hr hfa
        rw [hva] at i2
        simp only at i2
        have hbd := floor_bd g hfa.1
        have e24 : checkC t a (k + 1) p = 24 := by
          unfold checkC
          rw [hr, hva]
          have : (floorC t a != k + 1) = true := by simp; omega
          simp only [cond_true, Bool.not_true, Bool.false_or, this]
        have hw : IntKind.i64.wrap (k + 1) = k + 1 := by rw [← i2]; exact wrap_cost hbd
        have eo : (!(costC t o).2.1 || decide ((costC t o).1 ≥ k)) = true := by
          cases h : (costC t o).2.1 with
          | false => rfl
          | true =>
            have hfo := (costC_feas hr).1 h
            rw [costC_val hr hfo]
            simp only [Bool.not_true, Bool.false_or]
            exact decide_eq_true (covB_sound g h2 hfo)
        simp only [cond_false, m12_eq, m10_eq t h5, Option.bind_some, hva, eo, hw, e24]
        rcases best_cases t with ⟨hr2, e⟩ | ⟨_, hn, e⟩ | ⟨_, hfe, hc, hmin, hm, e⟩
        · rw [hr] at hr2; cases hr2
        · exact absurd hfa (hn a)
        · rw [e]
          have i3 : (srch t).2 = k := by
            have x1 := covB_sound g h2 hfe
            have x2 := hm a hfa.1 hfa.2.1 hfa.2.2
            omega
          have i4 : ((List.length (srch t).1 : Int) == (List.length a : Int)) = true := by
            have := hfe.2.1
            have := hfa.2.1
            simp; omega
          simp only [i2, i3, i4, beq_self_eq_true, Bool.and_self, Bool.true_and, cond_true, Option.bind_some]

end Go.Proofs.Ytemammdmjpdmpaa
