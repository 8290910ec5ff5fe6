/- Margin: all whole choices, one after the other. -/
import Derived.Test.YtadinocaadlgmaaT2
namespace Go.Proofs.Ytadinocaadlgmaa
open Go Go.Eng
set_option linter.unusedVariables false
set_option linter.unusedSimpArgs false

/-! ### Digits -/
def dg (c : List Int) (i : Nat) : Nat := (c.getD i 0).toNat
def wd (t : T24) (i : Nat) : Nat := (t.1.getD i []).length
def nxR (w : Nat → Nat) : Nat → List Int → Option (List Int)
  | 0, _ => none
  | i + 1, c => bif decide (dg c i + 1 < w i) then some (c.set i ((dg c i + 1 : Nat) : Int)) else nxR w i (c.set i 0)
def hN (w : Nat → Nat) (c : List Int) : Nat → Nat
  | 0 => 0
  | n + 1 => hN w c n * w n + dg c n

/-- The first digits are right. -/
def okD (w : Nat → Nat) (c : List Int) (n : Nat) : Prop := ∀ i, i < n → c[i]? = some ((dg c i : Nat) : Int) ∧ dg c i < w i

theorem dg_set (c : List Int) (i j : Nat) (x : Nat) (hi : i < c.length) : dg (c.set i ((x : Nat) : Int)) j = if j = i then x else dg c j := by
  unfold dg
  rw [List.getD_eq_getElem?_getD, List.getElem?_set, List.getD_eq_getElem?_getD]
  by_cases h : i = j
  · subst h; simp [hi]
  · simp [h, Ne.symm h]
theorem dg_set0 (c : List Int) (i j : Nat) (hi : i < c.length) : dg (c.set i 0) j = if j = i then 0 else dg c j := dg_set c i j 0 hi

theorem okD_set {w : Nat → Nat} {c : List Int} {n i x : Nat} (h : okD w c n) (hi : i < c.length) (hx : i < n → x < w i) : okD w (c.set i ((x : Nat) : Int)) n := by
  intro j hj
  rw [dg_set c i j x hi, List.getElem?_set]
  by_cases e : i = j
  · subst e; simp [hi]; exact hx hj
  · simp [e, Ne.symm e]; exact h j hj

theorem hN_congr {w : Nat → Nat} {c d : List Int} : ∀ {n : Nat}, (∀ i, i < n → dg c i = dg d i) → hN w c n = hN w d n
  | 0, _ => rfl
  | n + 1, h => by
    simp only [hN]
    rw [hN_congr (n := n) (fun i hi => h i (by omega)), h n (by omega)]

theorem nxR_spec {w : Nat → Nat} : ∀ (n : Nat) (c : List Int), n ≤ c.length → okD w c n → (match nxR w n c with
    | some c' => hN w c' n = hN w c n + 1 ∧ c'.length = c.length ∧ okD w c' n ∧ ∀ j, n ≤ j → c'[j]? = c[j]?
    | none => ∀ d, okD w d n → hN w d n ≤ hN w c n)
  | 0, c, _, _ => fun d _ => Nat.le_refl _
  | n + 1, c, hl, ho => by
    simp only [nxR]
    by_cases hd : dg c n + 1 < w n
    · rw [decide_eq_true hd]
      simp only [cond_true]
      refine ⟨?_, by simp, okD_set ho (by omega) (fun _ => hd), fun j hj => by rw [List.getElem?_set, if_neg (by omega)]⟩
      simp only [hN]
      rw [dg_set c n n _ (by omega), if_pos rfl, hN_congr (c := c.set n _) (d := c) (fun i hi => by rw [dg_set c n i _ (by omega), if_neg (by omega)])]
      omega
    · rw [decide_eq_false hd]
      simp only [cond_false]
      have hlast : dg c n + 1 = w n := by have := (ho n (by omega)).2; omega
      have hc1 : hN w (c.set n 0) n = hN w c n := hN_congr (fun i hi => by rw [dg_set0 c n i (by omega), if_neg (by omega)])
      have ho1 : okD w (c.set n 0) n := fun i hi => okD_set (x := 0) (w := w) (n := n) (fun i hi => ho i (by omega)) (show n < c.length by omega) (fun h => absurd h (Nat.lt_irrefl _)) i hi
      have ih := nxR_spec n (c.set n 0) (by simp; omega) ho1
      cases hx : nxR w n (c.set n 0) with
      | some c' =>
        rw [hx] at ih
        obtain ⟨a1, a2, a3, a4⟩ := ih
        have hn : c'[n]? = some ((0 : Nat) : Int) := by rw [a4 n (Nat.le_refl n), List.getElem?_set]; simp; omega
        have hdn : dg c' n = 0 := by unfold dg; rw [List.getD_eq_getElem?_getD, hn]; rfl
        refine ⟨?_, by rw [a2]; simp, fun i hi => ?_, fun j hj => by rw [a4 j (by omega), List.getElem?_set, if_neg (by omega)]⟩
        · simp only [hN]
          rw [a1, hc1, hdn, Nat.add_mul]
          omega
        · by_cases e : i = n
          · subst e; rw [hdn]; exact ⟨hn, by omega⟩
          · exact a3 i (by omega)
      | none =>
        rw [hx] at ih
        intro d hd
        have h1 := ih d (fun i hi => hd i (by omega))
        have h2 := (hd n (by omega)).2
        rw [hc1] at h1
        simp only [hN]
        have := Nat.mul_le_mul_right (w n) h1
        omega

theorem hN_inj {w : Nat → Nat} : ∀ {n : Nat} {c d : List Int}, okD w c n → okD w d n → hN w c n = hN w d n → ∀ i, i < n → c[i]? = d[i]?
  | 0, _, _, _, _, _ => fun i hi => absurd hi (Nat.not_lt_zero i)
  | n + 1, c, d, hc, hd, h => by
    simp only [hN] at h
    have h1 := (hc n (by omega)).2
    have h2 := (hd n (by omega)).2
    have e1 : hN w c n = hN w d n := by
      have a : (hN w c n * w n + dg c n) / w n = (hN w d n * w n + dg d n) / w n := by rw [h]
      rwa [Nat.mul_comm (hN w c n), Nat.mul_comm (hN w d n), Nat.mul_add_div (by omega), Nat.mul_add_div (by omega), Nat.div_eq_of_lt h1, Nat.div_eq_of_lt h2, Nat.add_zero, Nat.add_zero] at a
    have e2 : dg c n = dg d n := by rw [e1] at h; omega
    intro i hi
    by_cases e : i = n
    · subst e; rw [(hc i (by omega)).1, (hd i (by omega)).1, e2]
    · exact hN_inj (n := n) (fun j hj => hc j (by omega)) (fun j hj => hd j (by omega)) e1 i (by omega)

/-- From a choice on. -/
def lst (w : Nat → Nat) (n : Nat) : Nat → List Int → List (List Int)
  | 0, _ => []
  | m + 1, c => c :: match nxR w n c with
    | some c' => lst w n m c'
    | none => []

theorem lst_mem {w : Nat → Nat} {n : Nat} : ∀ (m : Nat) (c d : List Int), c.length = n → okD w c n → d.length = n → okD w d n → hN w c n ≤ hN w d n → hN w d n < hN w c n + m → d ∈ lst w n m c
  | 0, c, d, _, _, _, _, _, h => by omega
  | m + 1, c, d, hc, oc, hd, od, h1, h2 => by
    unfold lst
    by_cases e : hN w c n = hN w d n
    · have : c = d := by
        apply List.ext_getElem?
        intro i
        by_cases hi : i < n
        · exact hN_inj oc od e i hi
        · rw [List.getElem?_eq_none (by omega), List.getElem?_eq_none (by omega)]
      rw [this]; simp
    · have sp := nxR_spec n c (by omega) oc
      cases hx : nxR w n c with
      | some c' =>
        rw [hx] at sp
        obtain ⟨a1, a2, a3, _⟩ := sp
        exact List.mem_cons_of_mem _ (lst_mem m c' d (by omega) a3 hd od (by omega) (by omega))
      | none =>
        rw [hx] at sp
        have := sp d od
        omega

theorem lst_ok {w : Nat → Nat} {n : Nat} : ∀ (m : Nat) (c d : List Int), c.length = n → okD w c n → d ∈ lst w n m c → d.length = n ∧ okD w d n
  | 0, c, d, _, _, h => by cases h
  | m + 1, c, d, hc, oc, h => by
    unfold lst at h
    rcases List.mem_cons.1 h with rfl | h
    · exact ⟨hc, oc⟩
    · have sp := nxR_spec n c (by omega) oc
      cases hx : nxR w n c with
      | some c' =>
        rw [hx] at sp h
        exact lst_ok m c' d (by omega) sp.2.2.1 h
      | none => rw [hx] at h; cases h

/-! ### Bounds -/
def pw : Nat → Nat
  | 0 => 1
  | n + 1 => pw n * 3
theorem hN_lt {w : Nat → Nat} {c : List Int} : ∀ {n : Nat}, okD w c n → (∀ i, i < n → w i ≤ 3) → hN w c n < pw n
  | 0, _, _ => Nat.zero_lt_one
  | n + 1, h, hw => by
    have ih := hN_lt (n := n) (fun i hi => h i (by omega)) (fun i hi => hw i (by omega))
    have h1 := (h n (by omega)).2
    have h2 := hw n (by omega)
    simp only [hN, pw]
    have h3 : (hN w c n + 1) * w n ≤ pw n * 3 := Nat.mul_le_mul (by omega) h2
    rw [Nat.add_mul] at h3
    omega
theorem pw_le {n : Nat} (h : n ≤ 4) : pw n ≤ 81 := by
  have key : ∀ n, n < 5 → pw n ≤ 81 := by decide
  exact key n (by omega)

/-! ### Whole choices of a task -/
def VW (t : T24) (c : List Int) : Prop := vC t c ∧ c.length = t.1.length
theorem VW_iff {t : T24} {c : List Int} : VW t c ↔ c.length = t.1.length ∧ okD (wd t) c t.1.length := by
  constructor
  · rintro ⟨hv, hl⟩
    refine ⟨hl, fun i hi => ?_⟩
    have h := get_of_lt (l := c) (i := i) (by omega) 0
    obtain ⟨k0, k1⟩ := hv.2 i _ h
    exact ⟨by rw [h]; unfold dg; rw [Int.toNat_of_nonneg k0], k1⟩
  · rintro ⟨hl, ho⟩
    refine ⟨⟨by omega, fun i k hk => ?_⟩, hl⟩
    have hi := (List.getElem?_eq_some_iff.1 hk).1
    obtain ⟨a, b⟩ := ho i (by omega)
    rw [hk] at a
    have := Option.some.inj a
    rw [this]
    exact ⟨by omega, by simpa [wd] using b⟩

def zer (t : T24) : List Int := List.replicate t.1.length 0
theorem zer_VW {t : T24} (g : Good t) : VW t (zer t) := by
  refine VW_iff.2 ⟨by simp [zer], fun i hi => ?_⟩
  have hz : (zer t)[i]? = some 0 := by unfold zer; rw [List.getElem?_replicate, if_pos hi]
  have hd : dg (zer t) i = 0 := by unfold dg; rw [List.getD_eq_getElem?_getD, hz]; rfl
  rw [hd]
  exact ⟨hz, (g.opt i _ (g.issue hi)).1⟩
theorem zer_h (t : T24) : ∀ n, hN (wd t) (zer t) n = 0
  | 0 => rfl
  | n + 1 => by
    have hd : dg (zer t) n = 0 := by
      unfold dg zer
      rw [List.getD_eq_getElem?_getD, List.getElem?_replicate]
      split <;> rfl
    simp only [hN, zer_h t n, hd]
    omega

/-- All whole choices. -/
def allC (t : T24) : List (List Int) := lst (wd t) t.1.length 100 (zer t)
theorem mem_allC {t : T24} (g : Good t) (h4 : t.1.length ≤ 4) (h3 : ∀ i, i < t.1.length → wd t i ≤ 3) {c : List Int} : c ∈ allC t ↔ VW t c := by
  constructor
  · intro h
    obtain ⟨a, b⟩ := VW_iff.1 (zer_VW g)
    exact VW_iff.2 (lst_ok 100 _ c a b h)
  · intro h
    obtain ⟨a, b⟩ := VW_iff.1 (zer_VW g)
    obtain ⟨a', b'⟩ := VW_iff.1 h
    have h1 := hN_lt b' h3
    have h2 := pw_le h4
    refine lst_mem 100 _ c a b a' b' ?_ ?_
    · rw [zer_h]; exact Nat.zero_le _
    · rw [zer_h]; omega

/-! ### The iterators -/
theorem l44_eq {t : T24} (g : Good t) : ∀ (i m : Nat) (c : List Int), i ≤ c.length → i ≤ t.1.length → okD (wd t) c i → i < m →
    (match nxR (wd t) i c with
      | some c' => l44_1 t (fun (y14 : Int) (y15 : List Int) => bif (decide (y14 < 0)) then some (true, y15) else asrt true (decide (0 ≤ y14) && decide (y14 < (List.length y15 : Int))) (((y15)[(y14 : Int).toNat]?).bind fun x16 => asrt true (decide (0 ≤ y14) && decide (y14 < (List.length y15 : Int))) (((y15)[(y14 : Int).toNat]?).bind fun x17 => some (false, List.set y15 (y14 : Int).toNat (IntKind.i64.wrap (x16 + 1)))))) m ((i : Int) - 1) c = some (false, c')
      | none => ∃ z, l44_1 t (fun (y14 : Int) (y15 : List Int) => bif (decide (y14 < 0)) then some (true, y15) else asrt true (decide (0 ≤ y14) && decide (y14 < (List.length y15 : Int))) (((y15)[(y14 : Int).toNat]?).bind fun x16 => asrt true (decide (0 ≤ y14) && decide (y14 < (List.length y15 : Int))) (((y15)[(y14 : Int).toNat]?).bind fun x17 => some (false, List.set y15 (y14 : Int).toNat (IntKind.i64.wrap (x16 + 1)))))) m ((i : Int) - 1) c = some (true, z))
  | 0, m, c, _, _, _, hm => by
    obtain ⟨m, rfl⟩ : ∃ a, m = a + 1 := ⟨m - 1, by omega⟩
    exact ⟨c, rfl⟩
  | i + 1, m, c, hl, ht, ho, hm => by
    obtain ⟨m, rfl⟩ : ∃ a, m = a + 1 := ⟨m - 1, by omega⟩
    have := g.n2
    obtain ⟨hc, hd⟩ := ho i (by omega)
    have hiss := g.issue (i := i) (by omega)
    have hopt := g.opt i _ hiss
    have hw : (t.1.getD i []).length = wd t i := rfl
    rw [hw] at hopt
    have e0 : ((i + 1 : Nat) : Int) - 1 = (i : Int) := by omega
    have e1 : decide ((i : Int) ≥ 0) = true := decide_eq_true (by omega)
    have e2 : decide ((i : Int) < (List.length c : Int)) = true := lt1 (by omega)
    have e3 : IntKind.i64.wrap (((t.1.getD i []).length : Int) - 1) = (wd t i : Int) - 1 := by rw [hw]; exact wrapI (by omega) (by omega)
    have e4 : decide ((i : Int) < 0) = false := decide_eq_false (by omega)
    rw [e0]
    simp only [l44_1, s44_1, e1, nn, beq_self_eq_true, e2, Bool.and_self, asrtT, cond_true, Int.toNat_natCast, hc, Option.bind_some, idxG_same true _ hiss, e3, Bool.true_and]
    by_cases hq : dg c i + 1 < wd t i
    · have e5 : (((dg c i : Nat) : Int) == (wd t i : Int) - 1) = false := by simp only [beq_eq_false_iff_ne, ne_eq]; omega
      have e6 : IntKind.i64.wrap (((dg c i : Nat) : Int) + 1) = ((dg c i + 1 : Nat) : Int) := by rw [wrapI (by omega) (by omega)]; omega
      rw [show nxR (wd t) (i + 1) c = some (c.set i ((dg c i + 1 : Nat) : Int)) by simp only [nxR, decide_eq_true hq, cond_true]]
      simp only [e5, cond_false, e4, nn, e2, Bool.and_self, asrtT, Int.toNat_natCast, hc, Option.bind_some, e6]
    · have e5 : (((dg c i : Nat) : Int) == (wd t i : Int) - 1) = true := by simp only [beq_iff_eq]; omega
      have e6 : IntKind.i64.wrap ((i : Int) - 1) = (i : Int) - 1 := wrapI (by omega) (by omega)
      rw [show nxR (wd t) (i + 1) c = nxR (wd t) i (c.set i 0) by simp only [nxR, decide_eq_false hq, cond_false]]
      simp only [e5, cond_true, nn, e2, Bool.and_self, asrtT, Int.toNat_natCast, hc, Option.bind_some, e6]
      exact l44_eq g i m (c.set i 0) (by simp; omega) (by omega) (okD_set (x := 0) (fun j hj => ho j (by omega)) (by omega) (fun h => absurd h (Nat.lt_irrefl _))) (by omega)

theorem nxt_eq {t : T24} (g : Good t) {c : List Int} (h : VW t c) : (match nxR (wd t) t.1.length c with
    | some c' => nxt44 t c (fun b c' => some (b, c')) = some (false, c')
    | none => ∃ z, nxt44 t c (fun b c' => some (b, c')) = some (true, z)) := by
  obtain ⟨a, b⟩ := VW_iff.1 h
  have := g.n2
  have hw : IntKind.i64.wrap ((List.length c : Int) - 1) = ((t.1.length : Nat) : Int) - 1 := by rw [a]; exact wrapI (by omega) (by omega)
  unfold nxt44
  rw [hw]
  exact l44_eq g t.1.length FUEL c (by omega) (Nat.le_refl _) b (fuel_lt (by omega))

theorem l60_eq {t : T24} (g : Good t) : ∀ (i m : Nat) (c : List Int), i ≤ c.length → i ≤ t.1.length → okD (wd t) c i → i < m →
    l60_1 t (some []) (fun y6 => some y6) m ((i : Int) - 1) c = some ((nxR (wd t) i c).getD [])
  | 0, m, c, _, _, _, hm => by
    obtain ⟨m, rfl⟩ : ∃ a, m = a + 1 := ⟨m - 1, by omega⟩
    rfl
  | i + 1, m, c, hl, ht, ho, hm => by
    obtain ⟨m, rfl⟩ : ∃ a, m = a + 1 := ⟨m - 1, by omega⟩
    have := g.n2
    obtain ⟨hc, hd⟩ := ho i (by omega)
    have hiss := g.issue (i := i) (by omega)
    have hopt := g.opt i _ hiss
    have hw : (t.1.getD i []).length = wd t i := rfl
    rw [hw] at hopt
    have e0 : ((i + 1 : Nat) : Int) - 1 = (i : Int) := by omega
    have e1 : decide ((i : Int) ≥ 0) = true := decide_eq_true (by omega)
    have e2 : decide ((i : Int) < (List.length c : Int)) = true := lt1 (by omega)
    have e6 : IntKind.i64.wrap (((dg c i : Nat) : Int) + 1) = ((dg c i + 1 : Nat) : Int) := by rw [wrapI (by omega) (by omega)]; omega
    rw [e0]
    simp only [l60_1, s60_1, e1, nn, e2, Bool.and_self, asrtT, cond_true, Int.toNat_natCast, hc, Option.bind_some, idx_nat, hiss, e6, hw]
    by_cases hq : dg c i + 1 < wd t i
    · rw [show nxR (wd t) (i + 1) c = some (c.set i ((dg c i + 1 : Nat) : Int)) by simp only [nxR, decide_eq_true hq, cond_true]]
      simp only [lt1 hq, cond_true, Option.getD_some]
    · have e5 : decide (((dg c i + 1 : Nat) : Int) < (wd t i : Int)) = false := decide_eq_false (by omega)
      have e7 : IntKind.i64.wrap ((i : Int) - 1) = (i : Int) - 1 := wrapI (by omega) (by omega)
      rw [show nxR (wd t) (i + 1) c = nxR (wd t) i (c.set i 0) by simp only [nxR, decide_eq_false hq, cond_false]]
      simp only [e5, cond_false, e7]
      exact l60_eq g i m (c.set i 0) (by simp; omega) (by omega) (okD_set (x := 0) (fun j hj => ho j (by omega)) (by omega) (fun h => absurd h (Nat.lt_irrefl _))) (by omega)

theorem m60_eq {t : T24} (g : Good t) {c : List Int} (h : VW t c) : m60 t c = some ((nxR (wd t) t.1.length c).getD []) := by
  obtain ⟨a, b⟩ := VW_iff.1 h
  have := g.n2
  have hl := lim_eq
  have hw : IntKind.i64.wrap ((List.length c : Int) - 1) = ((t.1.length : Nat) : Int) - 1 := by rw [a]; exact wrapI (by omega) (by omega)
  unfold m60
  rw [hw, decide_eq_true (p := List.length (α := Int) c ≤ LIM) (by omega), asrtT]
  exact l60_eq g t.1.length FUEL c (by omega) (Nat.le_refl _) b (fuel_lt (by omega))

/-! ### Margin: the functions' answers in closed form. -/
theorem maxN_le {f : Nat → Int} {M : Int} (h0 : 0 ≤ M) : ∀ n, (∀ i, i < n → f i ≤ M) → maxN f n ≤ M
  | 0, _ => h0
  | n + 1, h => by
    have a := maxN_le h0 n (fun i hi => h i (by omega))
    have b := h n (by omega)
    unfold maxN
    cases decide (f n > maxN f n) <;> assumption
theorem maxN_ge {f : Nat → Int} : ∀ n, 0 ≤ maxN f n ∧ ∀ i, i < n → f i ≤ maxN f n
  | 0 => ⟨Int.le_refl _, fun i hi => absurd hi (Nat.not_lt_zero i)⟩
  | n + 1 => by
    obtain ⟨a, b⟩ := maxN_ge (f := f) n
    unfold maxN
    by_cases d : f n > maxN f n
    · rw [decide_eq_true d, cond_true]
      refine ⟨by omega, fun i hi => ?_⟩
      by_cases e : i = n
      · subst e; omega
      · have := b i (by omega); omega
    · rw [decide_eq_false d, cond_false]
      refine ⟨a, fun i hi => ?_⟩
      by_cases e : i = n
      · subst e; omega
      · exact b i (by omega)

/-! ### The limits, the places -/
def fewI (l : List T37) : Bool := decide (l.length ≤ 3) && l.all fun o => decide (o.1.length ≤ 4)
def fewM (t : T24) : Bool := decide (t.1.length ≤ 4) && (decide (t.2.1.length ≤ 6) && t.1.all fewI)

theorem m8_I {R : Type} {t : T24} {i : Nat} (hi : i < t.1.length) (h3 : (t.1.getD i []).length ≤ 3) (k1 k2 : Option R) : l8_1 (i : Int) t k1 k2 FUEL 0 = bif (t.1.getD i []).all (fun o => decide (o.1.length ≤ 4)) then k1 else k2 := by
  have hiss : t.1[i]? = some (t.1.getD i []) := get_of_lt hi _
  exact all_loop (R := R) (fun o : T37 => decide (o.1.length ≤ 4)) (t.1.getD i []) (fun m j => l8_1 (i : Int) t k1 k2 m j) k1 k2 (by omega)
    (by
      intro m j o hx hj
      simp only [l8_1, s8_1, idx_nat, hiss, Option.bind_some, lt1 hj, cond_true, hx, wr1 (j := j) (by omega)]
      by_cases h : o.1.length ≤ 4
      · rw [decide_eq_true h, decide_eq_false (p := (List.length o.1 : Int) > 4) (by omega)]; rfl
      · rw [decide_eq_false h, decide_eq_true (p := (List.length o.1 : Int) > 4) (by omega)]; rfl)
    (by intro m; simp only [l8_1, s8_1, idx_nat, hiss, Option.bind_some, lt0, cond_false])

theorem m8_eq (t : T24) : m8 t = some (fewM t) := by
  unfold m8 fewM
  have hmin : min t.1.length 5 ≤ t.1.length := Nat.min_le_left _ _
  have hmin5 : min t.1.length 5 ≤ 5 := Nat.min_le_right _ _
  refine (chk_loop (R := Bool) (S := Unit) (min t.1.length 5) (fun _ => ()) (fun j => fewI (t.1.getD j [])) (fun m j _ => l8_2 t (some (decide ((List.length t.1 : Int) ≤ 4) && decide ((List.length t.2.1 : Int) ≤ 6))) (some false) m j)
    (some (decide ((List.length t.1 : Int) ≤ 4) && decide ((List.length t.2.1 : Int) ≤ 6))) (some false) (by omega) ?_ ?_).trans ?_
  · intro m j hj _
    have hj1 : j < t.1.length := by omega
    have hiss : t.1[j]? = some (t.1.getD j []) := get_of_lt hj1 _
    have e4 : decide ((j : Int) ≤ 4) = true := decide_eq_true (by omega)
    simp only [l8_2, s8_2, lt1 hj1, e4, Bool.and_self, cond_true, idx_nat, hiss, Option.bind_some, wr1 (j := j) (by omega), fewI]
    by_cases h : (t.1.getD j []).length ≤ 3
    · rw [decide_eq_true h, decide_eq_false (p := (List.length (t.1.getD j []) : Int) > 3) (by omega), cond_false, m8_I hj1 h]
      rfl
    · rw [decide_eq_false h, decide_eq_true (p := (List.length (t.1.getD j []) : Int) > 3) (by omega)]
      rfl
  · intro _ m
    have : (decide (((min t.1.length 5 : Nat) : Int) < (List.length t.1 : Int)) && decide (((min t.1.length 5 : Nat) : Int) ≤ 4)) = false := by
      simp only [Bool.and_eq_false_iff, decide_eq_false_iff_not]
      omega
    simp only [l8_2, s8_2, this, cond_false]
  · by_cases h4 : t.1.length ≤ 4
    · have hm : min t.1.length 5 = t.1.length := by omega
      rw [hm, decide_eq_true h4, decide_eq_true (p := (List.length t.1 : Int) ≤ 4) (by omega)]
      have hall := all_at fewI t.1
      have hpt : (∀ i, i < t.1.length → fewI (t.1.getD i []) = true) ↔ t.1.all fewI = true := by
        rw [← hall]
        constructor
        · intro h i hi; rw [atB_lt (get_of_lt hi [])]; exact h i hi
        · intro h i hi; have := h i hi; rw [atB_lt (get_of_lt hi [])] at this; exact this
      have hc : decide ((List.length t.2.1 : Int) ≤ 6) = decide (t.2.1.length ≤ 6) := by
        by_cases h : t.2.1.length ≤ 6
        · rw [decide_eq_true h, decide_eq_true (p := (List.length t.2.1 : Int) ≤ 6) (by omega)]
        · rw [decide_eq_false h, decide_eq_false (p := (List.length t.2.1 : Int) ≤ 6) (by omega)]
      rw [hc]
      by_cases h : ∀ i, i < t.1.length → fewI (t.1.getD i []) = true
      · rw [if_pos h, hpt.1 h]; simp
      · rw [if_neg h]
        cases h2 : t.1.all fewI with
        | true => exact absurd (hpt.2 h2) h
        | false => simp
    · rw [decide_eq_false h4, decide_eq_false (p := (List.length t.1 : Int) ≤ 4) (by omega)]
      by_cases h : ∀ i, i < min t.1.length 5 → fewI (t.1.getD i []) = true
      · rw [if_pos h]; simp
      · rw [if_neg h]; simp

theorem few_of' {t : T24} (h : fewM t = true) : t.1.length ≤ 4 ∧ ∀ i, i < t.1.length → wd t i ≤ 3 := by
  simp only [fewM, fewI, Bool.and_eq_true, decide_eq_true_eq, List.all_eq_true] at h
  refine ⟨h.1, fun i hi => ?_⟩
  exact (h.2.2 (t.1.getD i []) (List.mem_of_getElem? (get_of_lt hi []))).1

def thereB (t : T24) (i k s : Int) : Bool := decide (0 ≤ i) && (decide (i < (t.1.length : Int)) && (decide (0 ≤ k) && (decide (k < ((t.1.getD i.toNat []).length : Int)) && (decide (0 ≤ s) && decide (s < ((optAt t i.toNat k).1.length : Int))))))

theorem m14_eq (t : T24) (i k s : Int) : m14 t i k s = some (thereB t i k s) := by
  unfold m14 thereB
  by_cases hi : 0 ≤ i ∧ i < (t.1.length : Int)
  · obtain ⟨i, rfl⟩ := Int.eq_ofNat_of_zero_le hi.1
    have hi2 : i < t.1.length := by omega
    have hiss : t.1[i]? = some (t.1.getD i []) := get_of_lt hi2 _
    rw [decide_eq_false (p := (i : Int) < 0) (by omega), decide_eq_false (p := (i : Int) ≥ (List.length t.1 : Int)) (by omega)]
    rw [decide_eq_true hi.1, decide_eq_true hi.2]
    simp only [Bool.or_self, cond_false, Bool.true_and, Int.toNat_natCast]
    by_cases hk : 0 ≤ k ∧ k < ((t.1.getD i []).length : Int)
    · obtain ⟨k, rfl⟩ := Int.eq_ofNat_of_zero_le hk.1
      have hk2 : k < (t.1.getD i []).length := by omega
      have hop : (t.1.getD i [])[k]? = some (optAt t i (k : Int)) := get_of_lt hk2 _
      rw [decide_eq_false (p := (k : Int) < 0) (by omega), decide_eq_true hk.1, decide_eq_true hk.2]
      simp only [beq_self_eq_true, idxG_same true _ hiss, cond_true, Option.bind_some, Bool.false_or, Bool.true_and]
      rw [decide_eq_false (p := (k : Int) ≥ (List.length (t.1.getD i []) : Int)) (by omega)]
      simp only [cond_false]
      by_cases hs : 0 ≤ s
      · rw [decide_eq_true (p := s ≥ 0) hs]
        simp only [beq_self_eq_true, idxG_same true _ hiss, idxG_same true _ hop, cond_true, Option.bind_some]
      · rw [decide_eq_false (p := s ≥ 0) hs]
        rfl
    · have e : (decide (0 ≤ k) && (decide (k < ((t.1.getD i []).length : Int)) && (decide (0 ≤ s) && decide (s < ((optAt t i k).1.length : Int))))) = false := by
        simp only [Bool.and_eq_false_iff, decide_eq_false_iff_not]
        omega
      rw [e]
      by_cases h0 : k < 0
      · rw [decide_eq_true h0]; rfl
      · rw [decide_eq_false h0]
        simp only [beq_self_eq_true, idxG_same true _ hiss, cond_true, Option.bind_some, Bool.false_or]
        rw [decide_eq_true (p := k ≥ (List.length (t.1.getD i []) : Int)) (by omega)]
        rfl
  · have e : (decide (0 ≤ i) && (decide (i < (t.1.length : Int)) && (decide (0 ≤ k) && (decide (k < ((t.1.getD i.toNat []).length : Int)) && (decide (0 ≤ s) && decide (s < ((optAt t i.toNat k).1.length : Int))))))) = false := by
      simp only [Bool.and_eq_false_iff, decide_eq_false_iff_not]
      omega
    rw [e]
    have : (decide (i < 0) || decide (i ≥ (List.length t.1 : Int))) = true := by simp only [Bool.or_eq_true, decide_eq_true_eq]; omega
    rw [this]
    rfl

theorem m20_eq (t : T24) (i k s : Int) : m20 (i, k, s, ()) t = some (thereB t i k s) := by
  rw [← m14_eq]
  unfold m20 m14
  simp only
  cases hi : (decide (i < 0) || decide (i ≥ (List.length t.1 : Int))) with
  | true => simp only [Bool.true_or, cond_true]; rfl
  | false =>
    simp only [Bool.or_eq_false_iff, decide_eq_false_iff_not] at hi
    obtain ⟨i, rfl⟩ := Int.eq_ofNat_of_zero_le (a := i) (by omega)
    have hiss : t.1[i]? = some (t.1.getD i []) := get_of_lt (by omega) _
    cases hk : decide (k < 0) with
    | true => simp only [Bool.false_or, Bool.true_or, cond_true]; rfl
    | false =>
      simp only [Bool.false_or, beq_self_eq_true, idxG_same true _ hiss, cond_true, cond_false, Option.bind_some]

/-- Where a cost stands. -/
structure At (t : T24) (i k s : Nat) : Prop where
  hi : i < t.1.length
  hk : k < (t.1.getD i []).length
  hs : s < scen t
theorem at_of {t : T24} (g : Good t) {i k s : Int} (h : thereB t i k s = true) : ∃ i' k' s' : Nat, i = i' ∧ k = k' ∧ s = s' ∧ At t i' k' s' := by
  simp only [thereB, Bool.and_eq_true, decide_eq_true_eq] at h
  obtain ⟨h1, h2, h3, h4, h5, h6⟩ := h
  obtain ⟨i, rfl⟩ := Int.eq_ofNat_of_zero_le h1
  obtain ⟨k, rfl⟩ := Int.eq_ofNat_of_zero_le h3
  obtain ⟨s, rfl⟩ := Int.eq_ofNat_of_zero_le h5
  have hi : i < t.1.length := by omega
  have hk : k < (t.1.getD i []).length := by simp only [Int.toNat_natCast] at h4; omega
  have := (g.at' hi (k := (k : Int)) (by simpa using hk)).2.1
  simp only [Int.toNat_natCast] at h6
  exact ⟨i, k, s, rfl, rfl, rfl, hi, hk, by omega⟩

/-! ### How many -/
theorem m21_eq {t : T24} (g : Good t) (h4 : t.1.length ≤ 4) (h3 : ∀ i, i < t.1.length → wd t i ≤ 3) : ∃ n : Int, 0 ≤ n ∧ n ≤ 100000 ∧ m21 t = some n ∧ ∀ (R : Type) (kq : Int → Option R), l10_1 t kq FUEL 1 0 = kq n := by
  let F : Nat → Int := fun j => Nat.rec (1 : Int) (fun j r => r * (wd t j : Int)) j
  have hF : ∀ j, j ≤ t.1.length → 1 ≤ F j ∧ F j ≤ (pw j : Int) := by
    intro j
    induction j with
    | zero => intro _; exact ⟨Int.le_refl 1, Int.le_refl 1⟩
    | succ j ih =>
      intro hj
      obtain ⟨a, b⟩ := ih (by omega)
      have w1 := (g.opt j _ (g.issue (by omega))).1
      have w3 := h3 j (by omega)
      have hw : (t.1.getD j []).length = wd t j := rfl
      rw [hw] at w1
      show 1 ≤ F j * (wd t j : Int) ∧ F j * (wd t j : Int) ≤ ((pw j * 3 : Nat) : Int)
      constructor
      · have := Int.mul_le_mul a (show (1 : Int) ≤ (wd t j : Int) by omega) (by omega) (by omega)
        omega
      · have := Int.mul_le_mul b (show (wd t j : Int) ≤ 3 by omega) (by omega) (by omega)
        rw [Int.natCast_mul]
        exact this
  have hp : ∀ j, j ≤ t.1.length → (pw j : Int) ≤ 81 := fun j hj => by have := pw_le (n := j) (by omega); omega
  refine ⟨F t.1.length, by have := (hF _ (Nat.le_refl _)).1; omega, by have := (hF _ (Nat.le_refl _)).2; have := hp _ (Nat.le_refl _); omega, ?_, ?_⟩
  · unfold m21
    exact seq_loop (R := Int) (S := Int) t.1.length F (fun m j q => l21_1 t.1 (List.length t.1 : Int) (fun y2 => some y2) (fun y3 => some y3) m q j) (fun q => some q) (by omega)
      (by
        intro m j hj
        have a := hF (j + 1) (by omega)
        have b := hp (j + 1) (by omega)
        have e : F (j + 1) = F j * (wd t j : Int) := rfl
        have hw : IntKind.i64.wrap (F j * (List.length (t.1.getD j []) : Int)) = F (j + 1) := (wrapI (x := F (j + 1)) (by omega) (by omega) : IntKind.i64.wrap (F (j + 1)) = F (j + 1))
        simp only [l21_1, s21_1, lt1 hj, cond_true, idx_nat, g.issue hj, Option.bind_some, hw, wr1 (j := j) (by omega)]
        rw [decide_eq_false (p := F (j + 1) > 100000) (by omega)]
        rfl)
      (by intro m; simp only [l21_1, s21_1, lt0, cond_false])
  · intro R kq
    exact seq_loop (R := R) (S := Int) t.1.length F (fun m j q => l10_1 t kq m q j) kq (by omega)
      (by
        intro m j hj
        have a0 := hF j (by omega)
        have b0 := hp j (by omega)
        have a := hF (j + 1) (by omega)
        have b := hp (j + 1) (by omega)
        have e : F (j + 1) = F j * (wd t j : Int) := rfl
        have hw : IntKind.i64.wrap (F j * (List.length (t.1.getD j []) : Int)) = F (j + 1) := (wrapI (x := F (j + 1)) (by omega) (by omega) : IntKind.i64.wrap (F (j + 1)) = F (j + 1))
        simp only [l10_1, s10_1, lt1 hj, decide_eq_true (p := F j ≤ 100000) (by omega), Bool.and_self, cond_true, idx_nat, g.issue hj, Option.bind_some, hw, wr1 (j := j) (by omega)])
      (by intro m; simp only [l10_1, s10_1, lt0, Bool.false_and, cond_false])

theorem beqN (a b : Nat) : (((a : Nat) : Int) == (b : Int)) = (a == b) := by
  rw [Bool.eq_iff_iff, beq_iff_eq, beq_iff_eq]
  omega
theorem bneN (a b : Nat) : (((a : Nat) : Int) != (b : Int)) = (a != b) := by
  show (!(((a : Nat) : Int) == (b : Int))) = !(a == b)
  rw [beqN]

/-! ### A choice's line -/
def hasC (i k : Nat) (c : List Int) : Bool := c.getD i 0 == (k : Int)
def restF (t : T24) (i k s : Nat) (c : List Int) (s' : Nat) : Int := bif hasC i k c && (s' == s) then 0 else sumC t c s'
def restC (t : T24) (i k s : Nat) (c : List Int) : Int := maxN (restF t i k s c) (scen t)
def baseF (t : T24) (i s : Nat) (c : List Int) (j : Nat) : Int := if j = i then 0 else partC t c s j
def baseC (t : T24) (i k s : Nat) (c : List Int) : Int := bif hasC i k c then sumN (baseF t i s c) t.1.length else 0
def linC (t : T24) (i k s : Nat) (c : List Int) : T50 := (restC t i k s c, baseC t i k s c, hasC i k c, ())

theorem whole_part {t : T24} {c : List Int} (h : VW t c) {j : Nat} (hj : j < t.1.length) (s : Nat) : partC t c s j = (optAt t j (c.getD j 0)).1.getD s 0 := by
  have h1 := get_of_lt (l := c) (i := j) (by have := h.2; omega) 0
  unfold partC
  rw [h1]

theorem base_bd {t : T24} (g : Good t) {i s : Nat} (hs : s < scen t) {c : List Int} (h : VW t c) : ∀ n, n ≤ t.1.length → 0 ≤ sumN (baseF t i s c) n ∧ sumN (baseF t i s c) n ≤ 40000000000000000 := by
  intro n hn
  have := sum_le (f := baseF t i s c) (M := 1000000000000000) n (fun j hj => by
    unfold baseF
    split
    · omega
    · exact part_bd g h.1 hs (by omega))
  have := g.n2
  omega

theorem m22_in {R : Type} {t : T24} (g : Good t) {i k s : Nat} (ha : At t i k s) {c : List Int} (h : VW t c) {s' : Nat} (hs' : s' < scen t) (r b : Int) (k1 : Int → Option R) :
    l22_1 (s' : Int) c (List.length c : Int) ((i : Int), (k : Int), (s : Int), ()) t (r, b, hasC i k c, ()) k1 FUEL 0 0 = k1 (bif hasC i k c && (s' == s) then sumN (baseF t i s' c) t.1.length else sumC t c s') := by
  have hn2 := g.n2
  have hlen := h.2
  have e : (bif hasC i k c && (s' == s) then sumN (baseF t i s' c) t.1.length else sumC t c s') = sumN (fun j => bif hasC i k c && (s' == s) then baseF t i s' c j else partC t c s' j) t.1.length := by
    cases hasC i k c && (s' == s) <;> rfl
  rw [e, hlen]
  have bd : ∀ n, n ≤ t.1.length → 0 ≤ sumN (fun j => bif hasC i k c && (s' == s) then baseF t i s' c j else partC t c s' j) n ∧ sumN (fun j => bif hasC i k c && (s' == s) then baseF t i s' c j else partC t c s' j) n ≤ 40000000000000000 := by
    intro n hn
    cases hasC i k c && (s' == s) with
    | true => exact base_bd g hs' h n hn
    | false => exact sumC_bd g h.1 hs' n hn
  exact seq_loop (R := R) (S := Int) t.1.length (fun j => sumN (fun j => bif hasC i k c && (s' == s) then baseF t i s' c j else partC t c s' j) j) (fun m j q => l22_1 (s' : Int) c ((t.1.length : Nat) : Int) ((i : Int), (k : Int), (s : Int), ()) t (r, b, hasC i k c, ()) k1 m q j) k1 (by omega)
    (by
      intro m j hj
      have hk := get_of_lt (l := c) (i := j) (by omega) 0
      obtain ⟨k0, k1⟩ := h.1.2 j _ hk
      obtain ⟨o1, o2, o3, _⟩ := g.at' hj k1
      have b0 := bd j (by omega)
      have b1 := bd (j + 1) (by omega)
      have pd := part_bd g h.1 hs' hj
      have wp := whole_part h hj s'
      simp only [l22_1, s22_1, lt1 hj, cond_true, wr1 (j := j) (by omega)]
      refine (cont_eq (sumN (fun j => bif hasC i k c && (s' == s) then baseF t i s' c j else partC t c s' j) (j + 1)) fun kk => ?_).trans rfl
      simp only [sumN] at b1 ⊢
      simp only [idx_nat, hk, Option.bind_some]
      have ee1 : (((j : Nat) : Int) != (i : Int)) = (j != i) := bneN j i
      have ee2 : (((s' : Nat) : Int) != (s : Int)) = (s' != s) := bneN s' s
      rw [ee1, ee2]
      have step : (idx t.1 (j : Int)).bind (fun x5 => (idx x5 (c.getD j 0)).bind fun x6 => (idx x6.1 (s' : Int)).bind fun x7 => kk (IntKind.i64.wrap (sumN (fun j => bif hasC i k c && (s' == s) then baseF t i s' c j else partC t c s' j) j + x7))) = kk (sumN (fun j => bif hasC i k c && (s' == s) then baseF t i s' c j else partC t c s' j) j + partC t c s' j) := by
        simp only [idx_nat, g.issue hj, Option.bind_some, idx_pos k0, o1, (o3 s' hs').1, ← wp]
        rw [wrapI (by omega) (by omega)]
      simp only [idx_nat] at step
      cases hh : hasC i k c with
      | false =>
        simp only [Bool.not_false, Bool.true_or, cond_true, Bool.false_and, cond_false]
        rw [hh] at step
        exact step
      | true =>
        rw [hh] at step b0 b1
        cases e2 : (s' == s) with
        | false =>
          have : (s' != s) = true := by rw [bne, e2]; rfl
          rw [this]
          rw [e2] at step
          simp only [Bool.or_true, cond_true, Bool.and_false, cond_false]
          exact step
        | true =>
          have : (s' != s) = false := by rw [bne, e2]; rfl
          rw [this]
          rw [e2] at step
          simp only [Bool.not_true, Bool.false_or, Bool.or_false, Bool.and_self, cond_true]
          by_cases e : j = i
          · subst e
            simp only [bne_self_eq_false, cond_false, baseF, if_true, Int.add_zero]
          · have : (j != i) = true := by simp [e]
            rw [this]
            simp only [cond_true, baseF, if_neg e]
            exact step)
    (by intro m; simp only [l22_1, s22_1, lt0, cond_false])

theorem m22_eq {t : T24} (g : Good t) {i k s : Nat} (ha : At t i k s) {c : List Int} (h : VW t c) : m22 ((i : Int), (k : Int), (s : Int), ()) t c = some (linC t i k s c) := by
  have hlen := h.2
  have hci := get_of_lt (l := c) (i := i) (by have := ha.hi; omega) 0
  have hop : (t.1.getD i [])[k]? = some (optAt t i (k : Int)) := get_of_lt ha.hk _
  have ho := (g.at' ha.hi (k := (k : Int)) (by simpa using ha.hk)).2.1
  have hs2 := g.s2
  unfold m22
  simp only [idx_nat, hci, g.issue ha.hi, hop, Option.bind_some, ho]
  have e0 : ((0 : Int), (0 : Int), (c.getD i 0 == (k : Int)), ()) = (maxN (restF t i k s c) 0, (bif hasC i k c && decide (s < 0) then sumN (baseF t i s c) t.1.length else 0), hasC i k c, ()) := by
    rw [decide_eq_false (Nat.not_lt_zero s), Bool.and_false]; rfl
  rw [e0]
  refine (seq_loop (R := T50) (S := T50) (scen t) (fun j => (maxN (restF t i k s c) j, (bif hasC i k c && decide (s < j) then sumN (baseF t i s c) t.1.length else 0), hasC i k c, ())) (fun m j q => l22_2 c (scen t : Int) ((i : Int), (k : Int), (s : Int), ()) t (fun y11 => some y11) m j q) (fun q => some q) (by omega) ?_ ?_).trans ?_
  · intro m j hj
    simp only [l22_2, s22_2, lt1 hj, cond_true, wr1 (j := j) (by omega)]
    refine (cont_eq (((maxN (restF t i k s c) (j + 1)), (bif hasC i k c && decide (s < j + 1) then sumN (baseF t i s c) t.1.length else 0), hasC i k c, ()) : T50) fun kk => ?_).trans rfl
    rw [m22_in g ha h hj]
    have ee : (((j : Nat) : Int) == (s : Int)) = (j == s) := beqN j s
    rw [ee]
    have hm0 : 0 ≤ maxN (restF t i k s c) j := (maxN_ge (f := restF t i k s c) j).1
    cases hq : (hasC i k c && (j == s)) with
    | true =>
      simp only [cond_true]
      have hq2 := Bool.and_eq_true_iff.1 hq
      have hjs : j = s := by simpa using hq2.2
      have e1 : maxN (restF t i k s c) (j + 1) = maxN (restF t i k s c) j := by
        simp only [maxN]
        have : restF t i k s c j = 0 := by unfold restF; rw [hq]; rfl
        rw [this, decide_eq_false (p := (0 : Int) > maxN (restF t i k s c) j) (by omega)]
        rfl
      rw [e1, hq2.1, hjs, decide_eq_true (Nat.lt_succ_self s)]
      rfl
    | false =>
      simp only [cond_false]
      have e1 : restF t i k s c j = sumC t c j := by unfold restF; rw [hq]; rfl
      have e2 : maxN (restF t i k s c) (j + 1) = bif decide (sumC t c j > maxN (restF t i k s c) j) then sumC t c j else maxN (restF t i k s c) j := by
        show (bif decide (restF t i k s c j > maxN (restF t i k s c) j) then restF t i k s c j else maxN (restF t i k s c) j) = _
        rw [e1]
      have e3 : (hasC i k c && decide (s < j + 1)) = (hasC i k c && decide (s < j)) := by
        cases hh : hasC i k c with
        | false => rfl
        | true =>
          rw [hh] at hq
          have hne : ¬ j = s := by simpa using hq
          simp only [Bool.true_and]
          by_cases hl : s < j
          · rw [decide_eq_true hl, decide_eq_true (by omega)]
          · rw [decide_eq_false hl, decide_eq_false (by omega)]
      rw [e2, e3]
  · intro m
    simp only [l22_2, s22_2, lt0, cond_false]
  · unfold linC restC baseC
    rw [decide_eq_true ha.hs, Bool.and_true]

/-! ### Between which values -/
def limC (a b : T50) : Int × Int :=
  bif a.2.2.1 && b.2.2.1 then ((bif decide (a.1 > b.1) then a.1 - b.2.1 else 0), (bif decide (a.2.1 > b.2.1) then b.1 - a.2.1 else 1000000000000000))
  else bif a.2.2.1 then (0, b.1 - a.2.1)
  else bif b.2.2.1 && decide (b.1 < a.1) then (a.1 - b.2.1, 1000000000000000) else (0, 1000000000000000)

def bdL (a : T50) : Prop := 0 ≤ a.1 ∧ a.1 ≤ 40000000000000000 ∧ 0 ≤ a.2.1 ∧ a.2.1 ≤ 40000000000000000

theorem m24_eq {a b : T50} (ha : bdL a) (hb : bdL b) : m24 a b = some ((limC a b).1, (limC a b).2, ()) := by
  obtain ⟨a1, a2, a3, a4⟩ := ha
  obtain ⟨b1, b2, b3, b4⟩ := hb
  have w1 : IntKind.i64.wrap (a.1 - b.2.1) = a.1 - b.2.1 := wrapI (by omega) (by omega)
  have w2 : IntKind.i64.wrap (b.1 - a.2.1) = b.1 - a.2.1 := wrapI (by omega) (by omega)
  unfold m24 limC
  rw [w1, w2]
  refine (cont_eq (bif a.2.2.1 && b.2.2.1 then ((bif decide (a.1 > b.1) then a.1 - b.2.1 else 0), (bif decide (a.2.1 > b.2.1) then b.1 - a.2.1 else 1000000000000000))
  else bif a.2.2.1 then (0, b.1 - a.2.1)
  else bif b.2.2.1 && decide (b.1 < a.1) then (a.1 - b.2.1, 1000000000000000) else (0, 1000000000000000)) fun k => ?_).trans rfl
  cases a.2.2.1 && b.2.2.1 with
  | true =>
    simp only [cond_true]
    refine (cont_eq (bif decide (a.1 > b.1) then a.1 - b.2.1 else 0) fun k1 => ?_).trans ?_
    · cases decide (a.1 > b.1) <;> rfl
    · cases decide (a.2.1 > b.2.1) <;> rfl
  | false =>
    simp only [cond_false]
    cases a.2.2.1 with
    | true => rfl
    | false =>
      simp only [cond_false]
      cases b.2.2.1 && decide (b.1 < a.1) <;> rfl

theorem lin_bd {t : T24} (g : Good t) {i k s : Nat} (ha : At t i k s) {c : List Int} (h : VW t c) : bdL (linC t i k s c) := by
  have h1 := maxN_bd (f := restF t i k s c) (M := 40000000000000000) (by decide) (scen t) (fun s' hs' => by
    unfold restF
    cases hasC i k c && (s' == s) with
    | true => simp only [cond_true]; omega
    | false => exact sumC_bd g h.1 hs' _ (Nat.le_refl _))
  have h2 := base_bd g (i := i) ha.hs h t.1.length (Nat.le_refl _)
  refine ⟨h1.1, h1.2.1, ?_, ?_⟩
  · show 0 ≤ baseC t i k s c
    unfold baseC
    cases hasC i k c
    · exact Int.le_refl 0
    · exact h2.1
  · show baseC t i k s c ≤ _
    unfold baseC
    cases hasC i k c
    · show (0 : Int) ≤ _
      omega
    · exact h2.2

/-! ### All rounds -/
def stp (t : T24) (i k s : Nat) (o : T50) (q : Int × Int) (c : List Int) : Int × Int :=
  bif (costC t c).2.1 then ((bif decide ((limC o (linC t i k s c)).1 > q.1) then (limC o (linC t i k s c)).1 else q.1), (bif decide ((limC o (linC t i k s c)).2 < q.2) then (limC o (linC t i k s c)).2 else q.2)) else q

theorem rnd_eq {t : T24} (g : Good t) {i k s : Nat} (ha : At t i k s) {o : T50} (ho : bdL o) {c : List Int} (h : VW t c) (q : Int × Int) : rnd9 t ((i : Int), (k : Int), (s : Int), ()) o q.1 q.2 c (fun a b => some (a, b)) = some (stp t i k s o q c) := by
  unfold rnd9 stp
  rw [m17_eq, Option.bind_some]
  cases (costC t c).2.1 with
  | false => rfl
  | true =>
    simp only [Bool.not_true, cond_false, cond_true, m22_eq g ha h, Option.bind_some, m24_eq ho (lin_bd g ha h)]

theorem itN_eq {t : T24} (g : Good t) (h4 : t.1.length ≤ 4) (h3 : ∀ i, i < t.1.length → wd t i ≤ 3) {i k s : Nat} (ha : At t i k s) {o : T50} (ho : bdL o) : ∀ (d m : Nat) (c : List Int) (q : Int × Int), VW t c → 81 ≤ hN (wd t) c t.1.length + d → d ≤ m →
    itN t ((i : Int), (k : Int), (s : Int), ()) o m c q.1 q.2 = some ((lst (wd t) t.1.length d c).foldl (stp t i k s o) q)
  | 0, m, c, q, h, hd, _ => by
    have h1 := hN_lt (VW_iff.1 h).2 h3
    have h2 := pw_le h4
    omega
  | d + 1, m, c, q, h, hd, hm => by
    obtain ⟨m, rfl⟩ : ∃ a, m = a + 1 := ⟨m - 1, by omega⟩
    have hl := h.2
    have hcl : cloneM c = some c := cloneM_eq (by omega)
    obtain ⟨a, b⟩ := VW_iff.1 h
    have sp := nxR_spec t.1.length c (by omega) b
    have nx := nxt_eq g h
    simp only [itN, hcl, Option.bind_some, rnd_eq g ha ho h, lst]
    cases hx : nxR (wd t) t.1.length c with
    | some c' =>
      rw [hx] at sp nx
      obtain ⟨s1, s2, s3, _⟩ := sp
      simp only at nx
      rw [nx]
      simp only [Option.bind_some, cond_false, List.foldl_cons]
      exact itN_eq g h4 h3 ha ho d m c' _ (VW_iff.2 ⟨by omega, s3⟩) (by omega) (by omega)
    | none =>
      rw [hx] at nx
      obtain ⟨z, nx⟩ := nx
      rw [nx]
      rfl

theorem ini_eq {t : T24} (g : Good t) : ini44 t some = some (zer t) := by
  have := g.n2
  have hl := lim_eq
  unfold ini44
  have e : (decide (0 ≤ (List.length t.1 : Int)) && decide ((List.length t.1 : Int) ≤ (List.length t.1 : Int)) && decide ((List.length t.1 : Int) ≤ (LIM : Int))) = true := by simp; omega
  rw [e, asrtT]
  rfl

def spanC (t : T24) (i k s : Nat) (best : List Int) : Int × Int := (allC t).foldl (stp t i k s (linC t i k s best)) (0, 1000000000000000)

/-- Span, for right tasks and places. -/
theorem m9_eq {t : T24} (hr : rightC t = true) (hf : fewM t = true) {i k s : Nat} (ha : At t i k s) (hthere : thereB t (i : Int) (k : Int) (s : Int) = true) :
    m9 t (i : Int) (k : Int) (s : Int) = some (bif (bestC t).2.2.2.1 != 0 then (0, 0, (bestC t).2.2.2.1, ()) else ((spanC t i k s (bestC t).1).1, (spanC t i k s (bestC t).1).2, 0, ())) := by
  have g := good_of hr
  obtain ⟨h4, h3⟩ := few_of' hf
  obtain ⟨n, n0, n1, hn, _⟩ := m21_eq g h4 h3
  unfold m9 pre9
  rw [m13_eq, hr]
  simp only [Option.bind_some, Bool.not_true, beq_self_eq_true, cond_true, m20_eq, hthere, Bool.or_self, cond_false, hn]
  rw [decide_eq_false (p := n > 100000) (by omega), cond_false, m15_eq t (by omega), Option.bind_some]
  rcases best_cases t with ⟨h, _⟩ | ⟨_, _, e⟩ | ⟨_, hfe, hc, hmin, hm, e⟩
  · rw [hr] at h; cases h
  · rw [e]; rfl
  · rw [e]
    have hv : VW t (srch t).1 := ⟨hfe.1, hfe.2.1⟩
    simp only [bne_self_eq_false, cond_false, m22_eq g ha hv, Option.bind_some, rest9, ini_eq g]
    have hz := zer_h t t.1.length
    rw [show FUEL = FUEL from rfl, itN_eq g h4 h3 ha (lin_bd g ha hv) 100 FUEL (zer t) (0, 1000000000000000) (zer_VW g) (by omega) (Nat.le_of_lt (fuel_lt (by omega)))]
    rfl

/-! ### Margin: another cost. -/
def newO (t : T24) (i k s : Nat) (v : Int) : T37 := ((optAt t i (k : Int)).1.set s v, (optAt t i (k : Int)).2.1, (optAt t i (k : Int)).2.2.1, ())
def withC (t : T24) (i k s : Nat) (v : Int) : T24 := (t.1.set i ((t.1.getD i []).set k (newO t i k s v)), t.2.1, ())
def nowC (t : T24) (i k s : Nat) : Int := (optAt t i (k : Int)).1.getD s 0

theorem now_at {t : T24} (g : Good t) {i k s : Nat} (ha : At t i k s) : t.1[i]? = some (t.1.getD i []) ∧ (t.1.getD i [])[k]? = some (optAt t i (k : Int)) ∧ (optAt t i (k : Int)).1[s]? = some (nowC t i k s) ∧ (optAt t i (k : Int)).1.length = scen t ∧ 0 ≤ nowC t i k s ∧ nowC t i k s ≤ 1000000000000000 := by
  have h2 : (t.1.getD i [])[k]? = some (optAt t i (k : Int)) := get_of_lt ha.hk _
  obtain ⟨o1, o2, o3, _⟩ := g.at' ha.hi (k := (k : Int)) (by simpa using ha.hk)
  have := o3 s ha.hs
  exact ⟨g.issue ha.hi, h2, this.1, o2, this.2.1, this.2.2⟩

theorem m16_eq {t : T24} (g : Good t) {i k s : Nat} (ha : At t i k s) (v : Int) : m16 t (i : Int) (k : Int) (s : Int) v = some (withC t i k s v) := by
  have hn2 := g.n2
  have hl := lim_eq
  obtain ⟨h1, h2, h3, h4, _⟩ := now_at g ha
  have hs2 := g.s2
  have hopi := g.opt i _ h1
  have hA : ∀ j, j < t.1.length → (withC t i k s v).1[j]? = some (if j = i then (t.1.getD i []).set k (newO t i k s v) else t.1.getD j []) := by
    intro j hj
    show (t.1.set i _)[j]? = _
    rw [List.getElem?_set]
    by_cases e : i = j
    · subst e; simp [hj]
    · simp only [if_neg e, if_neg (Ne.symm e)]; exact g.issue hj
  have hlen : (withC t i k s v).1.length = t.1.length := by simp [withC]
  have e0 : ([] : List (List T37)) = (withC t i k s v).1.take 0 := rfl
  have e1 : withC t i k s v = ((withC t i k s v).1.take t.1.length, t.2.1, ()) := by
    rw [← hlen, List.take_length]; rfl
  unfold m16
  refine (seq_loop (R := T24) (S := List (List T37)) t.1.length (fun j => (withC t i k s v).1.take j) (fun m j x => l16_1 (i : Int) (k : Int) (s : Int) v t (fun y5 => some (y5, t.2.1, ())) m j x) (fun x => some (x, t.2.1, ())) (by omega) ?_ ?_).trans (by rw [← e1])
  · intro m j hj
    have hiss := g.issue hj
    have hop := g.opt j _ hiss
    have htl : ((withC t i k s v).1.take j).length = j := by rw [List.length_take, hlen]; omega
    have ll : ∀ y : List T37, decide (List.length (α := List T37) ((withC t i k s v).1.take j) + List.length (α := List T37) [y] ≤ LIM) = true := fun y => decide_eq_true (by rw [htl]; simp only [List.length_singleton]; omega)
    have lx : decide (List.length (α := T37) (t.1.getD j []) ≤ LIM) = true := decide_eq_true (by omega)
    have hnext : (withC t i k s v).1.take (j + 1) = (withC t i k s v).1.take j ++ [if j = i then (t.1.getD i []).set k (newO t i k s v) else t.1.getD j []] := by
      rw [List.take_add_one, hA j hj]; rfl
    simp only [l16_1, s16_1, lt1 hj, cond_true, wr1 (j := j) (by omega)]
    refine (cont_eq ((withC t i k s v).1.take (j + 1)) fun kk => ?_).trans rfl
    simp only [idx_nat, hiss, Option.bind_some, lx, asrtT]
    rw [hnext]
    by_cases e : j = i
    · subst e
      have r1 : decide ((k : Int) < (List.length (t.1.getD j []) : Int)) = true := lt1 ha.hk
      have r2 : decide ((s : Int) < (List.length (optAt t j (k : Int)).1 : Int)) = true := lt1 (by rw [h4]; exact ha.hs)
      have r3 : decide (List.length (α := Int) (optAt t j (k : Int)).1 ≤ LIM) = true := decide_eq_true (by omega)
      simp only [beq_self_eq_true, cond_true, nn, r1, Bool.and_self, asrtT, Int.toNat_natCast, h2, Option.bind_some, Nat.beq_refl, r3, r2, h3, ll, if_true]
      rfl
    · have : (((j : Nat) : Int) == (i : Int)) = false := by rw [beqN]; simp [e]
      simp only [this, cond_false, ll, asrtT, if_neg e]
  · intro m
    simp only [l16_1, s16_1, lt0, cond_false]

/-! ### What it leaves -/
theorem w_len (t : T24) (i k s : Nat) (v : Int) : (withC t i k s v).1.length = t.1.length := by simp [withC]
theorem w_iss {t : T24} {i k s : Nat} (ha : At t i k s) (v : Int) (q : Nat) : (withC t i k s v).1.getD q [] = if q = i then (t.1.getD i []).set k (newO t i k s v) else t.1.getD q [] := by
  show (t.1.set i _).getD q [] = _
  by_cases h : q = i
  · subst h; rw [if_pos rfl]; simp [List.getD_eq_getElem?_getD, ha.hi]
  · rw [if_neg h]; simp [List.getD_eq_getElem?_getD, List.getElem?_set, Ne.symm h]
theorem w_ilen {t : T24} {i k s : Nat} (ha : At t i k s) (v : Int) (q : Nat) : ((withC t i k s v).1.getD q []).length = (t.1.getD q []).length := by
  rw [w_iss ha]
  by_cases h : q = i
  · subst h; simp
  · rw [if_neg h]
theorem w_opt {t : T24} {i k s : Nat} (ha : At t i k s) (v : Int) (q : Nat) (x : Int) : optAt (withC t i k s v) q x = if q = i ∧ x.toNat = k then newO t i k s v else optAt t q x := by
  show ((withC t i k s v).1.getD q []).getD x.toNat _ = _
  rw [w_iss ha]
  by_cases h : q = i
  · subst h
    rw [if_pos rfl]
    have hk := ha.hk
    by_cases hx : x.toNat = k
    · rw [if_pos ⟨rfl, hx⟩, hx]
      simp only [List.getD_eq_getElem?_getD] at hk ⊢
      rw [List.getElem?_set]
      simp [hk]
    · rw [if_neg (fun h => hx h.2)]
      simp only [List.getD_eq_getElem?_getD]
      rw [List.getElem?_set, if_neg (Ne.symm hx)]
      simp only [optAt, List.getD_eq_getElem?_getD]
  · rw [if_neg h, if_neg (fun e => h e.1)]; rfl
theorem scen_eq (u : T24) : scen u = ((u.1.getD 0 []).getD 0 ([], 0, 0, ())).1.length := by
  unfold scen
  split
  · rename_i a b c d e; rw [e]; rfl
  · rename_i h
    cases hu : u.1 with
    | nil => rfl
    | cons a b =>
      cases a with
      | nil => rfl
      | cons c d => exact absurd hu (fun e => h _ _ _ e)
theorem w_scen {t : T24} {i k s : Nat} (ha : At t i k s) (v : Int) : scen (withC t i k s v) = scen t := by
  have h := w_opt ha v 0 0
  have e1 : scen (withC t i k s v) = (optAt (withC t i k s v) 0 0).1.length := scen_eq _
  have e2 : scen t = (optAt t 0 0).1.length := scen_eq _
  rw [e1, e2, h]
  split
  · rename_i hq
    have hk : k = 0 := by have := hq.2; simpa using this.symm
    have hi := hq.1
    subst hk; subst hi
    simp [newO]
  · rfl
theorem w_right {t : T24} (hr : rightC t = true) {i k s : Nat} (ha : At t i k s) {v : Int} (h0 : 0 ≤ v) (h1 : v ≤ 1000000000000000) : rightC (withC t i k s v) = true := by
  have hy : (withC t i k s v).2.1 = t.2.1 := rfl
  unfold rightC at hr ⊢
  rw [w_len, w_scen ha, hy]
  simp only [Bool.and_eq_true, decide_eq_true_eq, List.all_eq_true, inB] at hr ⊢
  refine ⟨hr.1, hr.2.1, hr.2.2.1, hr.2.2.2.1, fun l hl => ?_⟩
  rcases List.mem_or_eq_of_mem_set hl with hl | rfl
  · exact hr.2.2.2.2 l hl
  · have hmem : t.1.getD i [] ∈ t.1 := List.mem_of_getElem? (get_of_lt ha.hi [])
    have h5 := hr.2.2.2.2 _ hmem
    simp only [okI, Bool.and_eq_true, decide_eq_true_eq, List.all_eq_true, inB, List.length_set] at h5 ⊢
    refine ⟨h5.1, fun o ho => ?_⟩
    rcases List.mem_or_eq_of_mem_set ho with ho | rfl
    · exact h5.2 o ho
    · have hom : optAt t i (k : Int) ∈ t.1.getD i [] := List.mem_of_getElem? (get_of_lt ha.hk _)
      have h6 := h5.2 _ hom
      simp only [okO, Bool.and_eq_true, decide_eq_true_eq, List.all_eq_true, inB, newO, List.length_set] at h6 ⊢
      refine ⟨h6.1, fun x hx => ?_, ⟨decide_eq_true h6.2.2.1.1, decide_eq_true h6.2.2.1.2⟩, decide_eq_true h6.2.2.2.1, decide_eq_true h6.2.2.2.2⟩
      rcases List.mem_or_eq_of_mem_set hx with hx | rfl
      · exact h6.2.1 x hx
      · exact ⟨h0, h1⟩
theorem w_vC {t : T24} {i k s : Nat} (ha : At t i k s) (v : Int) {c : List Int} : vC (withC t i k s v) c ↔ vC t c := by
  unfold vC
  rw [w_len]
  simp only [w_ilen ha]
theorem w_VW {t : T24} {i k s : Nat} (ha : At t i k s) (v : Int) {c : List Int} : VW (withC t i k s v) c ↔ VW t c := by
  unfold VW
  rw [w_vC ha, w_len]
theorem w_due {t : T24} {i k s : Nat} (ha : At t i k s) (v : Int) {c : List Int} (y : Int) (hv : vC t c) : dueS (withC t i k s v) c y = dueS t c y := by
  unfold dueS
  refine sumN_congr fun q hq => ?_
  have e1 : c[q]? = some (c.getD q 0) := get_of_lt hq 0
  unfold partD
  rw [e1]
  simp only
  rw [w_opt ha]
  split
  · rename_i h
    have hx : c.getD q 0 = (k : Int) := by have := (hv.2 q _ e1).1; omega
    rw [hx, h.1]
    rfl
  · rfl
theorem w_feas {t : T24} {i k s : Nat} (ha : At t i k s) (v : Int) {c : List Int} : feas (withC t i k s v) c ↔ feas t c := by
  unfold feas
  rw [w_vC ha, w_len, over_none, over_none]
  constructor
  · rintro ⟨h1, h2, h3⟩
    exact ⟨h1, h2, fun y hy => by rw [← w_due ha v _ h1]; exact h3 y hy⟩
  · rintro ⟨h1, h2, h3⟩
    exact ⟨h1, h2, fun y hy => by rw [w_due ha v _ h1]; exact h3 y hy⟩

theorem w_part {t : T24} (g : Good t) {i k s : Nat} (ha : At t i k s) (v : Int) {c : List Int} (h : VW t c) {s' j : Nat} (hj : j < t.1.length) :
    partC (withC t i k s v) c s' j = if j = i ∧ hasC i k c = true ∧ s' = s then v else partC t c s' j := by
  have e1 : c[j]? = some (c.getD j 0) := get_of_lt (by have := h.2; omega) 0
  have h0 := (h.1.2 j _ e1).1
  unfold partC
  rw [e1]
  simp only
  rw [w_opt ha]
  by_cases hji : j = i
  · subst hji
    by_cases hh : hasC j k c = true
    · have hx : c.getD j 0 = (k : Int) := by simpa [hasC] using hh
      rw [if_pos ⟨rfl, by rw [hx]; rfl⟩]
      by_cases hs : s' = s
      · subst hs
        rw [if_pos ⟨rfl, hh, rfl⟩]
        have h4 := (now_at g ha).2.2.2.1
        have := ha.hs
        simp [newO, List.getD_eq_getElem?_getD, h4, this]
      · rw [if_neg (fun e => hs e.2.2), hx]
        simp [newO, List.getD_eq_getElem?_getD, List.getElem?_set, Ne.symm hs]
    · have hx : ¬ (c.getD j 0).toNat = k := fun e => hh (by simp only [hasC, beq_iff_eq]; omega)
      rw [if_neg (fun e => hx e.2), if_neg (fun e => hh e.2.1)]
  · rw [if_neg (fun e => hji e.1), if_neg (fun e => hji e.1)]

theorem w_sum {t : T24} (g : Good t) {i k s : Nat} (ha : At t i k s) (v : Int) {c : List Int} (h : VW t c) (s' : Nat) :
    sumC (withC t i k s v) c s' = if hasC i k c = true ∧ s' = s then baseC t i k s c + v else sumC t c s' := by
  unfold sumC
  rw [w_len]
  by_cases hc : hasC i k c = true ∧ s' = s
  · obtain ⟨hh, rfl⟩ := hc
    rw [if_pos ⟨hh, rfl⟩, sumN_upd (g := baseF t i s' c) ha.hi (fun j hj hne => by
      rw [w_part g ha v h hj, if_neg (fun e => hne e.1)]
      unfold baseF
      rw [if_neg hne])]
    rw [w_part g ha v h ha.hi, if_pos ⟨rfl, hh, rfl⟩]
    unfold baseC
    rw [hh]
    have : baseF t i s' c i = 0 := by unfold baseF; rw [if_pos rfl]
    rw [this]
    simp only [cond_true]
    omega
  · rw [if_neg hc]
    exact sumN_congr fun j hj => by
      rw [w_part g ha v h hj, if_neg (fun e => hc e.2)]

def costV (l : T50) (v : Int) : Int := bif l.2.2.1 then (bif decide (l.1 < l.2.1 + v) then l.2.1 + v else l.1) else l.1

theorem w_floor {t : T24} (g : Good t) {i k s : Nat} (ha : At t i k s) {v : Int} (h0 : 0 ≤ v) {c : List Int} (h : VW t c) : floorC (withC t i k s v) c = costV (linC t i k s c) v := by
  have hbd := lin_bd g ha h
  have hb0 : 0 ≤ baseC t i k s c := hbd.2.2.1
  unfold floorC
  rw [w_scen ha]
  have hge := maxN_ge (f := sumC (withC t i k s v) c) (scen t)
  have hrg := maxN_ge (f := restF t i k s c) (scen t)
  show _ = (bif hasC i k c then (bif decide (restC t i k s c < baseC t i k s c + v) then baseC t i k s c + v else restC t i k s c) else restC t i k s c)
  cases hh : hasC i k c with
  | true =>
    have hs1 : sumC (withC t i k s v) c s = baseC t i k s c + v := by rw [w_sum g ha v h, if_pos ⟨hh, rfl⟩]
    have a1 := hge.2 s ha.hs
    rw [hs1] at a1
    have a2 : restC t i k s c ≤ maxN (sumC (withC t i k s v) c) (scen t) := by
      refine maxN_le hge.1 _ fun s' hs' => ?_
      unfold restF
      rw [hh]
      by_cases e : s' = s
      · subst e; simp only [Bool.true_and, beq_self_eq_true, cond_true]; exact hge.1
      · have : (s' == s) = false := by simp [e]
        rw [this]
        simp only [Bool.true_and, cond_false]
        have := hge.2 s' hs'
        rw [w_sum g ha v h, if_neg (fun q => e q.2)] at this
        exact this
    have a3 : maxN (sumC (withC t i k s v) c) (scen t) ≤ (bif decide (restC t i k s c < baseC t i k s c + v) then baseC t i k s c + v else restC t i k s c) := by
      have hmx : restC t i k s c ≤ (bif decide (restC t i k s c < baseC t i k s c + v) then baseC t i k s c + v else restC t i k s c) ∧ baseC t i k s c + v ≤ (bif decide (restC t i k s c < baseC t i k s c + v) then baseC t i k s c + v else restC t i k s c) := by
        by_cases e : restC t i k s c < baseC t i k s c + v
        · rw [decide_eq_true e]; simp only [cond_true]; omega
        · rw [decide_eq_false e]; simp only [cond_false]; omega
      refine maxN_le (Int.le_trans hrg.1 hmx.1) _ fun s' hs' => ?_
      rw [w_sum g ha v h]
      split
      · exact hmx.2
      · rename_i hne
        have := hrg.2 s' hs'
        have e2 : restF t i k s c s' = sumC t c s' := by
          unfold restF
          rw [hh]
          have : (s' == s) = false := by simp only [beq_eq_false_iff_ne, ne_eq]; exact fun e => hne ⟨hh, e⟩
          rw [this]; rfl
        rw [e2] at this
        exact Int.le_trans this hmx.1
    simp only [cond_true]
    refine Int.le_antisymm a3 ?_
    by_cases e : restC t i k s c < baseC t i k s c + v
    · rw [decide_eq_true e]; exact a1
    · rw [decide_eq_false e]; exact a2
  | false =>
    simp only [cond_false]
    unfold restC
    congr 1
    funext s'
    rw [w_sum g ha v h, if_neg (fun q => by rw [hh] at q; cases q.1)]
    unfold restF
    rw [hh]
    rfl

theorem w_self {t : T24} (g : Good t) {i k s : Nat} (ha : At t i k s) : withC t i k s (nowC t i k s) = t := by
  obtain ⟨h1, h2, h3, _⟩ := now_at g ha
  have e1 : newO t i k s (nowC t i k s) = optAt t i (k : Int) := by
    unfold newO
    have : (optAt t i (k : Int)).1.set s (nowC t i k s) = (optAt t i (k : Int)).1 := by
      apply List.ext_getElem?
      intro j
      rw [List.getElem?_set]
      split
      · rename_i e
        subst e
        split
        · exact h3.symm
        · rename_i hq; rw [List.getElem?_eq_none (by omega)]
      · rfl
    rw [this]
  have e2 : (t.1.getD i []).set k (optAt t i (k : Int)) = t.1.getD i [] := by
    apply List.ext_getElem?
    intro j
    rw [List.getElem?_set]
    split
    · rename_i e
      subst e
      split
      · exact h2.symm
      · rename_i hq; rw [List.getElem?_eq_none (by omega)]
    · rfl
  have e3 : t.1.set i (t.1.getD i []) = t.1 := by
    apply List.ext_getElem?
    intro j
    rw [List.getElem?_set]
    split
    · rename_i e
      subst e
      split
      · exact h1.symm
      · rename_i hq; rw [List.getElem?_eq_none (by omega)]
    · rfl
  unfold withC
  rw [e1, e2, e3]

/-! ### Between which values -/
theorem lim_spec {a b : T50} (ha : bdL a) (hb : bdL b) {now : Int} (h : costV a now ≤ costV b now) (n0 : 0 ≤ now) {v : Int} (v0 : 0 ≤ v) (v1 : v ≤ 1000000000000000) :
    costV a v ≤ costV b v ↔ (limC a b).1 ≤ v ∧ v ≤ (limC a b).2 := by
  obtain ⟨a1, a2, a3, u⟩ := a
  obtain ⟨b1, b2, b3, u'⟩ := b
  obtain ⟨p1, p2, p3, p4⟩ := ha
  obtain ⟨q1, q2, q3, q4⟩ := hb
  simp only at p1 p2 p3 p4 q1 q2 q3 q4
  have mx : ∀ x y : Int, (bif decide (x < y) then y else x) = max x y := fun x y => by
    by_cases e : x < y
    · rw [decide_eq_true e]; simp only [cond_true]; omega
    · rw [decide_eq_false e]; simp only [cond_false]; omega
  simp only [costV, mx] at h ⊢
  unfold limC
  cases a3 <;> cases b3 <;> simp only [cond_true, cond_false, Bool.and_self, Bool.and_false, Bool.false_and, Bool.true_and] at h ⊢
  · omega
  · by_cases e : b1 < a1
    · rw [decide_eq_true e]; simp only [cond_true]; omega
    · rw [decide_eq_false e]; simp only [cond_false]; omega
  · omega
  · by_cases e1 : a1 > b1 <;> by_cases e2 : a2 > b2
    · rw [decide_eq_true e1, decide_eq_true e2]; simp only [cond_true]; omega
    · rw [decide_eq_true e1, decide_eq_false e2]; simp only [cond_true, cond_false]; omega
    · rw [decide_eq_false e1, decide_eq_true e2]; simp only [cond_true, cond_false]; omega
    · rw [decide_eq_false e1, decide_eq_false e2]; simp only [cond_false]; omega

theorem fold_spec {t : T24} {i k s : Nat} {o : T50} : ∀ (l : List (List Int)) (q : Int × Int),
    q.1 ≤ (l.foldl (stp t i k s o) q).1 ∧ (l.foldl (stp t i k s o) q).2 ≤ q.2 ∧
    (∀ c ∈ l, (costC t c).2.1 = true → (limC o (linC t i k s c)).1 ≤ (l.foldl (stp t i k s o) q).1 ∧ (l.foldl (stp t i k s o) q).2 ≤ (limC o (linC t i k s c)).2) ∧
    ∀ v, q.1 ≤ v → v ≤ q.2 → (∀ c ∈ l, (costC t c).2.1 = true → (limC o (linC t i k s c)).1 ≤ v ∧ v ≤ (limC o (linC t i k s c)).2) → (l.foldl (stp t i k s o) q).1 ≤ v ∧ v ≤ (l.foldl (stp t i k s o) q).2
  | [], q => ⟨Int.le_refl _, Int.le_refl _, fun c h => (by cases h), fun v h1 h2 _ => ⟨h1, h2⟩⟩
  | c :: l, q => by
    obtain ⟨a1, a2, a3, a4⟩ := fold_spec (t := t) (i := i) (k := k) (s := s) (o := o) l (stp t i k s o q c)
    have st : q.1 ≤ (stp t i k s o q c).1 ∧ (stp t i k s o q c).2 ≤ q.2 ∧ ((costC t c).2.1 = true → (limC o (linC t i k s c)).1 ≤ (stp t i k s o q c).1 ∧ (stp t i k s o q c).2 ≤ (limC o (linC t i k s c)).2) ∧
        ∀ v, q.1 ≤ v → v ≤ q.2 → ((costC t c).2.1 = true → (limC o (linC t i k s c)).1 ≤ v ∧ v ≤ (limC o (linC t i k s c)).2) → (stp t i k s o q c).1 ≤ v ∧ v ≤ (stp t i k s o q c).2 := by
      unfold stp
      generalize limC o (linC t i k s c) = L
      cases (costC t c).2.1 with
      | false => exact ⟨Int.le_refl _, Int.le_refl _, fun h => (by cases h), fun v h1 h2 _ => ⟨h1, h2⟩⟩
      | true =>
        simp only [cond_true]
        have e1 : (bif decide (L.1 > q.1) then L.1 else q.1) = max q.1 L.1 := by
          by_cases e : L.1 > q.1
          · rw [decide_eq_true e]; simp only [cond_true]; omega
          · rw [decide_eq_false e]; simp only [cond_false]; omega
        have e2 : (bif decide (L.2 < q.2) then L.2 else q.2) = min q.2 L.2 := by
          by_cases e : L.2 < q.2
          · rw [decide_eq_true e]; simp only [cond_true]; omega
          · rw [decide_eq_false e]; simp only [cond_false]; omega
        rw [e1, e2]
        refine ⟨by omega, by omega, fun _ => by omega, fun v h1 h2 h3 => by have := h3 trivial; omega⟩
    obtain ⟨s1, s2, s3, s4⟩ := st
    simp only [List.foldl_cons]
    refine ⟨by omega, by omega, fun d hd hf => ?_, fun v h1 h2 h3 => ?_⟩
    · rcases List.mem_cons.1 hd with rfl | hd
      · have := s3 hf; omega
      · exact a3 d hd hf
    · obtain ⟨b1, b2⟩ := s4 v h1 h2 (h3 c (by simp))
      exact a4 v b1 b2 (fun d hd => h3 d (by simp [hd]))

/-- The plan's span: where it stays best. -/
theorem span_spec {t : T24} (hr : rightC t = true) (hf : fewM t = true) {i k s : Nat} (ha : At t i k s) (hfe : feas t (srch t).1) (hm : minK t (srch t).2) (hc : (srch t).2 = floorC t (srch t).1) :
    0 ≤ (spanC t i k s (srch t).1).1 ∧ (spanC t i k s (srch t).1).2 ≤ 1000000000000000 ∧
    (∀ v, 0 ≤ v → v ≤ 1000000000000000 → (((spanC t i k s (srch t).1).1 ≤ v ∧ v ≤ (spanC t i k s (srch t).1).2) ↔ ∀ c, feas t c → costV (linC t i k s (srch t).1) v ≤ costV (linC t i k s c) v)) ∧
    (spanC t i k s (srch t).1).1 ≤ nowC t i k s ∧ nowC t i k s ≤ (spanC t i k s (srch t).1).2 := by
  have g := good_of hr
  obtain ⟨h4, h3⟩ := few_of' hf
  obtain ⟨_, _, _, _, n0, n1⟩ := now_at g ha
  have hV : ∀ c, feas t c → VW t c := fun c h => ⟨h.1, h.2.1⟩
  have hnow : ∀ c, feas t c → costV (linC t i k s c) (nowC t i k s) = floorC t c := fun c h => by
    rw [← w_floor g ha n0 (hV c h), w_self g ha]
  have hopt : ∀ c, feas t c → costV (linC t i k s (srch t).1) (nowC t i k s) ≤ costV (linC t i k s c) (nowC t i k s) := fun c h => by
    rw [hnow _ hfe, hnow c h, ← hc]
    exact hm c h.1 h.2.1 h.2.2
  obtain ⟨a1, a2, a3, a4⟩ := fold_spec (t := t) (i := i) (k := k) (s := s) (o := linC t i k s (srch t).1) (allC t) (0, 1000000000000000)
  have key : ∀ v, 0 ≤ v → v ≤ 1000000000000000 → (((spanC t i k s (srch t).1).1 ≤ v ∧ v ≤ (spanC t i k s (srch t).1).2) ↔ ∀ c, feas t c → costV (linC t i k s (srch t).1) v ≤ costV (linC t i k s c) v) := by
    intro v v0 v1
    constructor
    · rintro ⟨x1, x2⟩ c hfc
      obtain ⟨y1, y2⟩ := a3 c ((mem_allC g h4 h3).2 (hV c hfc)) ((costC_feas hr).2 hfc)
      exact (lim_spec (lin_bd g ha (hV _ hfe)) (lin_bd g ha (hV c hfc)) (hopt c hfc) n0 v0 v1).2 ⟨Int.le_trans y1 x1, Int.le_trans x2 y2⟩
    · intro h
      refine a4 v v0 v1 (fun c hcl hcc => ?_)
      have hfc := (costC_feas hr).1 hcc
      exact (lim_spec (lin_bd g ha (hV _ hfe)) (lin_bd g ha (hV c hfc)) (hopt c hfc) n0 v0 v1).1 (h c hfc)
  exact ⟨a1, a2, key, ((key _ n0 n1).2 hopt).1, ((key _ n0 n1).2 hopt).2⟩

end Go.Proofs.Ytadinocaadlgmaa
