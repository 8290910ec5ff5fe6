/- Scripts of operations on three purses. -/
import Derived.Test.YtapalendgokfoaaK2
namespace Go.Proofs.Ytapalendgokfoaa
open Go Go.Eng
set_option linter.unusedVariables false
set_option linter.unusedSimpArgs false

def sT (l : List T22) : Int := (l.map (·.1)).sum
def sO (l : List T22) : Int := (l.map (·.2.1)).sum

theorem sT_cons (p : T22) (l : List T22) : sT (p :: l) = p.1 + sT l := by simp [sT]
theorem sO_cons (p : T22) (l : List T22) : sO (p :: l) = p.2.1 + sO l := by simp [sO]

theorem sT_set {l : List T22} {i : Nat} (p : T22) (h : i < l.length) : sT (l.set i p) = sT l - (l[i]).1 + p.1 := by
  induction l generalizing i with
  | nil => simp at h
  | cons q l ih =>
    cases i with
    | zero => simp only [List.set_cons_zero, sT_cons, List.getElem_cons_zero]; omega
    | succ i =>
      simp only [List.length_cons] at h
      have := ih (i := i) (by omega)
      simp only [List.set_cons_succ, sT_cons, List.getElem_cons_succ, this]; omega

theorem sO_set {l : List T22} {i : Nat} (p : T22) (h : i < l.length) : sO (l.set i p) = sO l - (l[i]).2.1 + p.2.1 := by
  induction l generalizing i with
  | nil => simp at h
  | cons q l ih =>
    cases i with
    | zero => simp only [List.set_cons_zero, sO_cons, List.getElem_cons_zero]; omega
    | succ i =>
      simp only [List.length_cons] at h
      have := ih (i := i) (by omega)
      simp only [List.set_cons_succ, sO_cons, List.getElem_cons_succ, this]; omega

theorem sT_nonneg {l : List T22} (h : ∀ p ∈ l, Pu p) : 0 ≤ sT l := by
  induction l with
  | nil => exact Int.le_refl 0
  | cons q l ih =>
    have h1 := h q (by simp)
    have h2 := ih fun p hp => h p (by simp [hp])
    have := h1.1.1
    rw [sT_cons]; omega

theorem sO_nonneg {l : List T22} (h : ∀ p ∈ l, Pu p) : 0 ≤ sO l := by
  induction l with
  | nil => exact Int.le_refl 0
  | cons q l ih =>
    have h1 := h q (by simp)
    have h2 := ih fun p hp => h p (by simp [hp])
    have := h1.2.1.1
    rw [sO_cons]; omega

theorem inner_from {R : Type} {l : List T22} (hl : ∀ p ∈ l, Pu p) (hn : l.length = 3) (k1 : Int → Int → Option R) (k2 : Option R) :
    ∀ (d n i : Nat) (t o : Int), i + d = 3 → d < n → 0 ≤ t → t ≤ i * 1000000000000000 → 0 ≤ o → o ≤ i * 1000000000000000 →
      l4_1 l k1 k2 n t o i = k1 (t + sT (l.drop i)) (o + sO (l.drop i)) := by
  intro d
  induction d with
  | zero =>
    intro n i t o hi hd _ _ _ _
    obtain ⟨n, rfl⟩ : ∃ m, n = m + 1 := ⟨n - 1, by omega⟩
    show s4_1 l (l4_1 l k1 k2 n) k1 k2 t o i = _
    unfold s4_1
    rw [decide_eq_false (by omega), List.drop_of_length_le (by omega)]
    simp [sT, sO]
  | succ d ih =>
    intro n i t o hi hd ht ht2 ho ho2
    obtain ⟨n, rfl⟩ : ∃ m, n = m + 1 := ⟨n - 1, by omega⟩
    show s4_1 l (l4_1 l k1 k2 n) k1 k2 t o i = _
    have hlt : i < l.length := by omega
    have hp := hl l[i] (List.getElem_mem hlt)
    unfold s4_1
    rw [decide_eq_true (p := (i : Int) < (l.length : Int)) (by omega), decide_eq_true (p := (0 : Int) ≤ (i : Int)) (by omega)]
    simp only [Bool.and_true, asrtT, cond_true]
    rw [Int.toNat_natCast, List.getElem?_eq_getElem hlt]
    simp only [Option.bind_some]
    rw [right_t hp]
    simp only [Option.bind_some, Bool.not_true, Bool.false_or]
    have hg : (l[i].2.2.1 && (l[i].1 != 0)) = false := by
      cases hgg : l[i].2.2.1 with
      | false => rfl
      | true => rw [hp.2.2 hgg]; rfl
    rw [hg]
    simp only [cond_false]
    obtain ⟨⟨a1, a2⟩, ⟨b1, b2⟩, _⟩ := hp
    rw [wrapI (x := t + l[i].1) (by omega) (by omega), wrapI (x := o + l[i].2.1) (by omega) (by omega), wrapI (x := (i : Int) + 1) (by omega) (by omega)]
    have e : ((i : Int) + 1) = ((i + 1 : Nat) : Int) := by omega
    rw [e, ih n (i + 1) _ _ (by omega) (by omega) (by omega) (by omega) (by omega) (by omega), List.drop_eq_getElem_cons hlt, sT_cons, sO_cons]
    congr 1 <;> omega

theorem inner_eq {R : Type} {l : List T22} (hl : ∀ p ∈ l, Pu p) (hn : l.length = 3) (k1 : Int → Int → Option R) (k2 : Option R) :
    l4_1 l k1 k2 FUEL 0 0 0 = k1 (sT l) (sO l) := by
  have := inner_from hl hn k1 k2 3 FUEL 0 0 0 (by omega) (fuel_lt (by omega)) (by omega) (by omega) (by omega) (by omega)
  simp only [List.drop_zero, Int.zero_add] at this
  exact this

/-- What holds after so many operations. -/
structure Inv (i : Nat) (a b c d e : Int) (l : List T22) : Prop where
  len : l.length = 3
  pu : ∀ p ∈ l, Pu p
  tr : a = b + c + sT l
  ow : d = e + sO l
  b0 : 0 ≤ b
  c0 : 0 ≤ c
  e0 : 0 ≤ e
  a1 : a ≤ i * 1000000000000000
  d1 : d ≤ i * 1000000000000000

theorem Inv.up {i : Nat} {a b c d e : Int} {l : List T22} (h : Inv i a b c d e l) : Inv (i + 1) a b c d e l :=
  ⟨h.len, h.pu, h.tr, h.ow, h.b0, h.c0, h.e0, by have := h.a1; omega, by have := h.d1; omega⟩

theorem Inv.set {i : Nat} {a b c d e a' b' c' d' e' : Int} {l : List T22} (h : Inv i a b c d e l) {w : Nat} (hw : w < l.length) {p : T22} (hp : Pu p)
    (h1 : a' - b' - c' = a - b - c - l[w].1 + p.1) (h2 : d' - e' = d - e - l[w].2.1 + p.2.1)
    (hb : b ≤ b') (hc : c ≤ c') (he : e ≤ e') (ha : a' ≤ a + 1000000000000000) (hd : d' ≤ d + 1000000000000000) : Inv (i + 1) a' b' c' d' e' (l.set w p) := by
  obtain ⟨g1, g2, g3, g4, g5, g6, g7, g8, g9⟩ := h
  refine ⟨by rw [List.length_set]; exact g1, fun q hq => ?_, ?_, ?_, by omega, by omega, by omega, by omega, by omega⟩
  · rcases List.mem_or_eq_of_mem_set hq with h | h
    · exact g2 q h
    · rw [h]; exact hp
  · rw [sT_set p hw]; omega
  · rw [sO_set p hw]; omega

theorem tail_eq {R : Type} {i : Nat} (hi : i ≤ 60) {a b c d e t : Int} {l : List T22} (h : Inv i a b c d e l) (ht : 0 ≤ t) (ht2 : t ≤ 100) {ok : Bool} (hok : ok = true)
    (kn : Int → Int → Int → Int → Int → Int → (List T22) → Option R) (k2 : Option R) :
    l4_1 l (fun y23 y24 => bif (((!ok) || (a != (IntKind.i64.wrap ((IntKind.i64.wrap (b + c)) + y23)))) || (d != (IntKind.i64.wrap (e + y24)))) then k2 else kn (IntKind.i64.wrap (t + 1)) a b c d e l) k2 FUEL 0 0 0 = kn (t + 1) a b c d e l := by
  rw [inner_eq h.pu h.len]
  have h1 := sT_nonneg h.pu
  have h2 := sO_nonneg h.pu
  obtain ⟨g1, g2, g3, g4, g5, g6, g7, g8, g9⟩ := h
  subst hok
  rw [wrapI (x := b + c) (by omega) (by omega), wrapI (x := b + c + sT l) (by omega) (by omega), wrapI (x := e + sO l) (by omega) (by omega), wrapI (x := t + 1) (by omega) (by omega), ← g3, ← g4]
  simp

theorem contL {α R : Type} {t : (α → Option R) → Option R} {K : α → Option R} {G : Option R → Prop} (Q : α → Prop)
    (hK : ∀ x, Q x → G (K x)) (ht : ∀ k, (∀ x, Q x → G (k x)) → G (t k)) : G (cont t K) := ht K hK

/-- An operation has kept everything. -/
def Go2 {R : Type} (i : Nat) (kn : Int → Int → Int → Int → Int → Int → (List T22) → Option R) (r : Option R) : Prop :=
  ∃ a b c d e l, Inv (i + 1) a b c d e l ∧ r = kn ((i + 1 : Nat) : Int) a b c d e l

theorem go2 {R : Type} {i : Nat} {kn : Int → Int → Int → Int → Int → Int → (List T22) → Option R} {r : Option R} {a b c d e : Int} {l : List T22} (h : Inv (i + 1) a b c d e l) (hr : r = kn ((i : Int) + 1) a b c d e l) : Go2 i kn r :=
  ⟨a, b, c, d, e, l, h, by rw [hr]; rfl⟩

theorem step {R : Type} {t0 : List T40} {i : Nat} (hi : i < t0.length) (h60 : t0.length ≤ 60) {a b c d e : Int} {l : List T22} (h : Inv i a b c d e l)
    (kn : Int → Int → Int → Int → Int → Int → (List T22) → Option R) (k1 k2 : Option R) : Go2 i kn (s4_2 t0 kn k1 k2 i a b c d e l) := by
  have hlen := h.len
  have hA := sT_nonneg h.pu
  have hO := sO_nonneg h.pu
  have tail0 : ∀ (o : Bool), o = true → l4_1 l (fun y5 y6 => bif ((a != (IntKind.i64.wrap ((IntKind.i64.wrap (b + c)) + y5))) || (d != (IntKind.i64.wrap (e + y6)))) then k2 else kn (IntKind.i64.wrap ((i : Int) + 1)) a b c d e l) k2 FUEL 0 0 0 = kn ((i : Int) + 1) a b c d e l := by
    intro o ho
    have := tail_eq (i := i) (by omega) h (t := (i : Int)) (by omega) (by omega) (ok := true) rfl kn k2
    simpa only [Bool.not_true, Bool.false_or] using this
  obtain ⟨g1, g2, g3, g4, g5, g6, g7, g8, g9⟩ := id h
  unfold s4_2
  rw [bifT (decide_eq_true (by omega)), idx_nat, List.getElem?_eq_getElem hi]
  simp only [Option.bind_some]
  generalize t0[i] = x
  obtain ⟨kind, who, to, n, u⟩ := x
  simp only []
  by_cases hr : (0 ≤ who ∧ who < 3) ∧ (0 ≤ to ∧ to < 3)
  case neg =>
    rw [bifT (by simp only [Bool.or_eq_true, decide_eq_true_eq]; omega)]
    exact go2 h.up (tail0 true rfl)
  obtain ⟨⟨w0, w1⟩, v0, v1⟩ := hr
  rw [bifF (by simp only [Bool.or_eq_false_iff, decide_eq_false_iff_not]; omega)]
  rw [asrtP (fun _ => by simp only [Bool.and_eq_true, decide_eq_true_eq]; omega)]
  obtain ⟨w, rfl⟩ := Int.eq_ofNat_of_zero_le w0
  obtain ⟨v, rfl⟩ := Int.eq_ofNat_of_zero_le v0
  have hw : w < l.length := by omega
  have hv : v < l.length := by omega
  simp only [Int.toNat_natCast]
  rw [List.getElem?_eq_getElem hw]
  simp only [Option.bind_some]
  have hp := h.pu l[w] (List.getElem_mem hw)
  have hq := h.pu l[v] (List.getElem_mem hv)
  have hset : ∀ (z : Nat) (hz : z < l.length), l.set z l[z] = l := fun z hz => List.set_getElem_self hz
  refine contL (G := Go2 i kn) (fun y => y.2.2.2.2.2.2.1.length = 3 ∧ Inv (i + 1) y.2.1 y.2.2.1 y.2.2.2.1 y.2.2.2.2.1 y.2.2.2.2.2.1 (y.2.2.2.2.2.2.1.set w y.2.2.2.2.2.2.2) ∧ (y.1 = 0 ∨ y.2.2.2.2.2.2.2 = l[w])) ?_ ?_
  · rintro ⟨er, a', b', c', d', e', l', p'⟩ ⟨q1, q2, q3⟩
    simp only at q1 q2 q3 ⊢
    rw [asrtP (fun _ => by simp only [Bool.and_eq_true, decide_eq_true_eq]; omega), List.getElem?_eq_getElem (by omega)]
    simp only [Option.bind_some]
    refine go2 q2 (tail_eq (i := i + 1) (by omega) q2 (by omega) (by omega) ?_ kn k2)
    rcases q3 with q3 | q3
    · subst q3; rfl
    · subst q3; simp
  intro k hk
  have same : ∀ er, Go2 i kn (k (er, a, b, c, d, e, l, l[w])) := fun er => hk _ ⟨hlen, by simp only [hset w hw]; exact h.up, Or.inr rfl⟩
  by_cases k0 : kind = 0
  · rw [bifT (by simpa using k0)]
    rcases take_eq hp n with ⟨er, he, hm⟩ | ⟨n1, n2, n3, n4, hm⟩
    · rw [hm]
      simp only [Option.bind_some]
      rw [bifF (by simpa using he)]
      exact same er
    · rw [hm]
      simp only [Option.bind_some, beq_self_eq_true, cond_true]
      rw [wrapI (x := a + n) (by omega) (by omega)]
      exact hk _ ⟨hlen, h.set hw n4 (by simp only; omega) (by simp only; omega) (by simp only; omega) (by simp only; omega) (by simp only; omega) (by simp only; omega) (by simp only; omega), Or.inl rfl⟩
  rw [bifF (by simpa using k0)]
  by_cases k1' : kind = 1
  · rw [bifT (by simpa using k1')]
    rcases pay_eq hp n with ⟨er, he, hm⟩ | ⟨n1, n2, n3, n4, hm⟩
    · rw [hm]
      simp only [Option.bind_some]
      rw [bifF (by simpa using he)]
      exact same er
    · rw [hm]
      simp only [Option.bind_some, beq_self_eq_true, cond_true]
      rw [wrapI (x := b + n) (by omega) (by omega)]
      exact hk _ ⟨hlen, h.set hw n4 (by simp only; omega) (by simp only; omega) (by simp only; omega) (by simp only; omega) (by simp only; omega) (by simp only; omega) (by simp only; omega), Or.inl rfl⟩
  rw [bifF (by simpa using k1')]
  by_cases k2' : kind = 2
  · rw [bifT (by simpa using k2')]
    rcases earn_eq hp n with ⟨er, he, hm⟩ | ⟨n1, n2, n3, n4, hm⟩
    · rw [hm]
      simp only [Option.bind_some]
      rw [bifF (by simpa using he)]
      exact same er
    · rw [hm]
      simp only [Option.bind_some, beq_self_eq_true, cond_true]
      rw [wrapI (x := d + n) (by omega) (by omega)]
      exact hk _ ⟨hlen, h.set hw n4 (by simp only; omega) (by simp only; omega) (by simp only; omega) (by simp only; omega) (by simp only; omega) (by simp only; omega) (by simp only; omega), Or.inl rfl⟩
  rw [bifF (by simpa using k2')]
  by_cases k3' : kind = 3
  · rw [bifT (by simpa using k3')]
    rcases spend_eq hp n with ⟨er, he, hm⟩ | ⟨n1, n2, n3, n4, hm⟩
    · rw [hm]
      simp only [Option.bind_some]
      rw [bifF (by simpa using he)]
      exact same er
    · rw [hm]
      simp only [Option.bind_some, beq_self_eq_true, cond_true]
      rw [wrapI (x := e + n) (by omega) (by omega)]
      exact hk _ ⟨hlen, h.set hw n4 (by simp only; omega) (by simp only; omega) (by simp only; omega) (by simp only; omega) (by simp only; omega) (by simp only; omega) (by simp only; omega), Or.inl rfl⟩
  rw [bifF (by simpa using k3')]
  by_cases k4' : kind = 4
  · rw [bifT (by simpa using k4')]
    by_cases hwv : w = v
    · rw [bifT (by rw [hwv]; exact beq_self_eq_true _)]
      exact go2 h.up (tail0 true rfl)
    rw [bifF (by simp only [beq_eq_false_iff_ne]; omega)]
    rw [asrtP (fun _ => by simp only [Bool.and_eq_true, decide_eq_true_eq]; omega), List.getElem?_eq_getElem hv]
    simp only [Option.bind_some]
    rcases pass_eq hp hq n with ⟨er, he, hm⟩ | ⟨n1, n2, n3, n4, hm⟩
    · rw [hm]
      simp only [Option.bind_some, bne_ne he, beq_self_eq_true, cond_true, Bool.and_true, Bool.not_true, Bool.and_false, cond_false]
      rw [asrtP (fun _ => by simp only [Bool.and_eq_true, decide_eq_true_eq]; omega), asrtP (fun _ => by simp only [Bool.and_eq_true, decide_eq_true_eq]; omega), hset v hv]
      exact same er
    · rw [hm]
      simp only [Option.bind_some, bne_same, Bool.false_and, cond_false, show (false == true) = false from rfl, asrtF]
      rw [asrtP (fun _ => by simp only [Bool.and_eq_true, decide_eq_true_eq]; omega)]
      refine hk _ ⟨by simp only [List.length_set]; exact hlen, ?_, Or.inl rfl⟩
      have hw' : w < (l.set v (l[v].1 + n, l[v].2.1, l[v].2.2.1, ())).length := by rw [List.length_set]; exact hw
      have hg : (l.set v (l[v].1 + n, l[v].2.1, l[v].2.2.1, ()))[w] = l[w] := List.getElem_set_ne (fun h => hwv h.symm) hw'
      simp only
      refine ⟨by simp only [List.length_set]; exact hlen, fun q hq => ?_, ?_, ?_, g5, g6, g7, by omega, by omega⟩
      · rcases List.mem_or_eq_of_mem_set hq with h | h
        · rcases List.mem_or_eq_of_mem_set h with h | h
          · exact g2 q h
          · rw [h]; exact n4
        · rw [h]; exact n3
      · rw [sT_set _ hw', sT_set _ hv, hg]; simp only; omega
      · rw [sO_set _ hw', sO_set _ hv, hg]; simp only; omega
  rw [bifF (by simpa using k4')]
  by_cases k5' : kind = 5
  · rw [bifT (by simpa using k5')]
    rcases break_eq hp with ⟨er, he, hm⟩ | ⟨n1, hm⟩
    · rw [hm]
      simp only [Option.bind_some, Int.add_zero]
      rw [wrapI (x := c) (by omega) (by omega)]
      exact same er
    · rw [hm]
      simp only [Option.bind_some]
      have := hp.1
      rw [wrapI (x := c + l[w].1) (by omega) (by omega)]
      exact hk _ ⟨hlen, h.set hw n1 (by simp only; omega) (by simp only; omega) (by simp only; omega) (by simp only; omega) (by simp only; omega) (by simp only; omega) (by simp only; omega), Or.inl rfl⟩
  rw [bifF (by simpa using k5')]
  exact same 0

theorem outer {R : Type} {t0 : List T40} (h60 : t0.length ≤ 60) (k1 k2 : Option R) : ∀ (r n i : Nat) (a b c d e : Int) (l : List T22), i + r = t0.length → r < n → Inv i a b c d e l →
    l4_2 t0 k1 k2 n i a b c d e l = k1
  | 0, n + 1, i, a, b, c, d, e, l, hi, _, _ => by
    show s4_2 t0 (l4_2 t0 k1 k2 n) k1 k2 i a b c d e l = _
    unfold s4_2
    rw [bifF (decide_eq_false (by omega))]
  | r + 1, n + 1, i, a, b, c, d, e, l, hi, hr, h => by
    show s4_2 t0 (l4_2 t0 k1 k2 n) k1 k2 i a b c d e l = _
    obtain ⟨a', b', c', d', e', l', h', hs⟩ := step (by omega) h60 h (l4_2 t0 k1 k2 n) k1 k2
    rw [hs]
    exact outer h60 k1 k2 r n (i + 1) a' b' c' d' e' l' (by omega) (by omega) h'

theorem keeps (t0 : List T40) : m4 t0 = some true := by
  unfold m4
  rw [small_t]
  simp only [Option.bind_some]
  by_cases h : (t0.length : Int) > 60
  · rw [bifT (decide_eq_true h)]
  rw [bifF (decide_eq_false h), asrtP (fun _ => by decide +kernel)]
  exact outer (by omega) _ _ t0.length FUEL 0 0 0 0 0 0 _ (by omega) (fuel_lt (by omega)) ⟨rfl, fun p hp => by
    have := List.eq_of_mem_replicate hp
    subst this
    exact ⟨⟨by decide, by decide⟩, ⟨by decide, by decide⟩, fun h => by simp at h⟩, by decide, by decide, by decide, by decide, by decide, by decide, by decide⟩

end Go.Proofs.Ytapalendgokfoaa
