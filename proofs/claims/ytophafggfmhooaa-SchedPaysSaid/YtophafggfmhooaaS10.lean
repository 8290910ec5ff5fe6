/- Payments in order; SchedDue. -/
import Derived.Test.YtophafggfmhooaaS9
namespace Go.Proofs.Ytophafggfmhooaa
open Go Go.Eng
set_option linter.unusedVariables false
set_option linter.unusedSimpArgs false

theorem mon_eq {d y e : Int} {M : Nat} (h : IsDate d y M e) (hd : Dy d) : mon d = 12 * y + (M + 1) := by
  unfold mon ym
  rw [m19_of h hd.1 hd.2]

theorem mon_mono {a b : Int} (ha : Dy a) (hb : Dy b) (h : a ≤ b) : mon a ≤ mon b := by
  obtain ⟨y, M, d, _, hi, _⟩ := m19_eq ha.1 ha.2
  obtain ⟨y', M', d', _, hi', _⟩ := m19_eq hb.1 hb.2
  rw [mon_eq hi ha, mon_eq hi' hb]
  rcases hi.le hi' h with q | q <;> omega

/-- Later days are moved to later days. -/
theorem adjS_mono {c : T32} {a b p q how : Int} (ha : Dy a) (hb : Dy b) (h : a ≤ b) (h0 : 0 ≤ how) (h1 : how < 4) (hp : adjS c a how = (p, 0, ())) (hq : adjS c b how = (q, 0, ())) : p ≤ q := by
  have a0 := ha.1
  have b1 := hb.2
  unfold adjS at hp hq
  by_cases k0 : how = 0
  · rw [if_pos k0] at hp hq
    have := congrArg Prod.fst hp
    have := congrArg Prod.fst hq
    simp only at *
    omega
  rw [if_neg k0] at hp hq
  have updn : ∀ {p q}, up c a = (p, 0, ()) → up c b = (q, 0, ()) → p ≤ q := by
    intro p q hp hq
    rcases up_spec c a with ⟨x, ex, x1, x2, x3, x4⟩ | ⟨ex, x4⟩
    · rcases up_spec c b with ⟨z, ez, z1, z2, z3, z4⟩ | ⟨ez, z4⟩
      · have e1 : p = x := by rw [hp] at ex; exact congrArg Prod.fst ex
        have e2 : q = z := by rw [hq] at ez; exact congrArg Prod.fst ez
        subst e1; subst e2
        by_cases g : p ≤ q
        · exact g
        · have := x4 q (by omega) (by omega); simp_all
      · rw [ez] at hq; simp at hq
    · rw [ex] at hp; simp at hp
  have dndn : ∀ {p q}, dn c a = (p, 0, ()) → dn c b = (q, 0, ()) → p ≤ q := by
    intro p q hp hq
    rcases dn_spec c a with ⟨x, ex, x1, x2, x3, x4⟩ | ⟨ex, x4⟩
    · rcases dn_spec c b with ⟨z, ez, z1, z2, z3, z4⟩ | ⟨ez, z4⟩
      · have e1 : p = x := by rw [hp] at ex; exact congrArg Prod.fst ex
        have e2 : q = z := by rw [hq] at ez; exact congrArg Prod.fst ez
        subst e1; subst e2
        by_cases g : p ≤ q
        · exact g
        · have := z4 p (by omega) (by omega); simp_all
      · rw [ez] at hq; simp at hq
    · rw [ex] at hp; simp at hp
  by_cases k1 : how = 1
  · rw [if_pos k1] at hp hq
    exact updn hp hq
  rw [if_neg k1] at hp hq
  by_cases c1 : how = 2 ∧ (up c a).2.1 = 0 ∧ mon (up c a).1 = mon a
  · rw [if_pos c1] at hp
    by_cases c2 : how = 2 ∧ (up c b).2.1 = 0 ∧ mon (up c b).1 = mon b
    · rw [if_pos c2] at hq
      exact updn hp hq
    · rw [if_neg c2] at hq
      rcases up_spec c a with ⟨x, ex, x1, x2, x3, x4⟩ | ⟨ex, x4⟩
      · have e1 : p = x := by rw [hp] at ex; exact congrArg Prod.fst ex
        subst e1
        rw [hp] at c1
        by_cases g : p ≤ b
        · rcases dn_spec c b with ⟨z, ez, z1, z2, z3, z4⟩ | ⟨ez, z4⟩
          · have e2 : q = z := by rw [hq] at ez; exact congrArg Prod.fst ez
            subst e2
            by_cases g2 : p ≤ q
            · exact g2
            · have := z4 p (by omega) (by omega); simp_all
          · rw [ez] at hq; simp at hq
        · have hub : up c b = (p, 0, ()) := up_of (by omega) x2 x3 (fun y g1 g2 => x4 y (by omega) g2)
          have hm1 := mon_mono ha hb h
          have hm2 := mon_mono hb (show Dy p from ⟨by omega, x2⟩) (by omega)
          have hm3 := c1.2.2
          simp only at hm3
          exact absurd ⟨c1.1, by rw [hub], by rw [hub]; simp only; omega⟩ c2
      · rw [ex] at hp; simp at hp
  · rw [if_neg c1] at hp
    have hpa : p ≤ a := by
      rcases dn_spec c a with ⟨z, ez, z1, z2, z3, z4⟩ | ⟨ez, z4⟩
      · rw [hp] at ez
        have : p = z := congrArg Prod.fst ez
        omega
      · rw [ez] at hp; simp at hp
    by_cases c2 : how = 2 ∧ (up c b).2.1 = 0 ∧ mon (up c b).1 = mon b
    · rw [if_pos c2] at hq
      rcases up_spec c b with ⟨z, ez, z1, z2, z3, z4⟩ | ⟨ez, z4⟩
      · rw [hq] at ez
        have : q = z := congrArg Prod.fst ez
        omega
      · rw [ez] at hq; simp at hq
    · rw [if_neg c2] at hq
      exact dndn hp hq

/-- The day of a payment. -/
theorem pay_ok {x : T29} {c : T32} {N : Nat} (hE : ∀ i, i < N → perE x c i = 0) {i : Nat} (h : i < N) : pay x c i = ((pay x c i).1, 0, ()) ∧ rec' x c i = ((rec' x c i).1, 0, ()) := by
  have := hE i h
  unfold perE at this
  have h1 : (pay x c i).2.1 = 0 := by
    by_cases q : (pay x c i).2.1 = 0
    · exact q
    · rw [if_pos q] at this; exact this
  rw [if_neg (by simp [h1])] at this
  refine ⟨?_, ?_⟩
  · generalize pay x c i = r at h1
    obtain ⟨a, b, u⟩ := r
    simp only at h1
    rw [h1]
  · generalize rec' x c i = r at this
    obtain ⟨a, b, u⟩ := r
    simp only at this
    rw [this]

theorem bx_Dy {x : T29} (hv : VX x) (k : Nat) : Dy (bx x k) := by
  obtain ⟨⟨v1, v2, v3⟩, ⟨v4, v5⟩, _, _⟩ := id hv
  exact (bnd_Dy ⟨v1, by omega⟩ v3 v2 v4 k).2

theorem pay_adjS {x : T29} {c : T32} (hv : VX x) (hr : RightC c) (i : Nat) : pay x c i = adjS c (bx x (i + 1)) x.2.2.2.2.2.2.2.1 := by
  unfold pay
  exact adj_ok hr (bx_Dy hv _) hv.2.2.1.1 (by have := hv.2.2.1.2; omega)

theorem pay_mono {x : T29} {c : T32} (hv : VX x) (hr : RightC c) {N : Nat} (hN : Num x N) (hE : ∀ i, i < N → perE x c i = 0) {i j : Nat} (h : i ≤ j) (hj : j < N) : (pay x c i).1 ≤ (pay x c j).1 := by
  by_cases e : i = j
  · subst e; exact Int.le_refl _
  · have h1 := (pay_ok hE (show i < N by omega)).1
    have h2 := (pay_ok hE hj).1
    have := hN.mono (i + 1) (j + 1) (by omega) (by omega)
    rw [pay_adjS hv hr] at h1 h2
    have := adjS_mono (bx_Dy hv _) (bx_Dy hv _) (by omega) hv.2.2.1.1 (by have := hv.2.2.1.2; omega) h1 h2
    rw [← pay_adjS hv hr, ← pay_adjS hv hr] at this
    exact this

theorem least (P : Nat → Prop) [DecidablePred P] : ∀ n, P n → ∃ s, s ≤ n ∧ P s ∧ ∀ j, j < s → ¬ P j := by
  intro n
  induction n using Nat.strongRecOn with
  | _ n ih =>
    intro h
    by_cases q : ∃ m, m < n ∧ P m
    · obtain ⟨m, h1, h2⟩ := q
      obtain ⟨s, g1, g2, g3⟩ := ih m h1 h2
      exact ⟨s, by omega, g2, g3⟩
    · exact ⟨n, Nat.le_refl _, h, fun j hj hp => q ⟨j, hj, hp⟩⟩

theorem filt_conv (P : Nat → Bool) (s e : Nat) (hse : s ≤ e) : ∀ n, e ≤ n → (∀ j, j < n → (P j = true ↔ s ≤ j ∧ j < e)) → (List.range n).filter P = List.range' s (e - s) := by
  intro n
  induction n with
  | zero => intro h _; rw [show e - s = 0 by omega]; rfl
  | succ n ih =>
    intro h hP
    rw [List.range_succ, List.filter_append]
    by_cases q : e ≤ n
    · rw [ih q (fun j hj => hP j (by omega))]
      have : P n = false := by
        rw [Bool.eq_false_iff]; intro h; have := (hP n (by omega)).1 h; omega
      simp [List.filter_cons, this]
    · have hen : e = n + 1 := by omega
      subst hen
      by_cases q2 : s = n + 1
      · subst q2
        rw [show n + 1 - (n + 1) = 0 by omega]
        have h1 : (List.range n).filter P = [] := by
          rw [List.filter_eq_nil_iff]
          intro a ha
          have := List.mem_range.1 ha
          intro hp
          have := (hP a (by omega)).1 hp
          omega
        have h2 : P n = false := by
          rw [Bool.eq_false_iff]; intro h; have := (hP n (by omega)).1 h; omega
        rw [h1]
        simp [List.filter_cons, h2]
      · have h2 : P n = true := (hP n (by omega)).2 ⟨by omega, by omega⟩
        have h1 : (List.range n).filter P = List.range' s (n - s) := by
          have key : ∀ m, m ≤ n → (List.range m).filter P = List.range' s (m - s) := by
            intro m
            induction m with
            | zero => intro _; simp
            | succ m ihm =>
              intro hm
              rw [List.range_succ, List.filter_append, ihm (by omega)]
              by_cases g : s ≤ m
              · have : P m = true := (hP m (by omega)).2 ⟨g, by omega⟩
                rw [show m + 1 - s = (m - s) + 1 by omega, List.range'_concat]
                simp [List.filter_cons, this]
                omega
              · have : P m = false := by
                  rw [Bool.eq_false_iff]; intro h; have := (hP m (by omega)).1 h; omega
                rw [show m + 1 - s = 0 by omega, show m - s = 0 by omega]
                simp [List.filter_cons, this]
          exact key n (Nat.le_refl _)
        rw [h1, show n + 1 - s = (n - s) + 1 by omega, List.range'_concat]
        simp [List.filter_cons, h2]
        omega

end Go.Proofs.Ytophafggfmhooaa
