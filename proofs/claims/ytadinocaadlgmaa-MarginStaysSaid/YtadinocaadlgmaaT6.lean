/- Margin: the reference, and the examples. -/
import Derived.Test.YtadinocaadlgmaaT3
namespace Go.Proofs.Ytadinocaadlgmaa
open Go Go.Eng
set_option linter.unusedVariables false
set_option linter.unusedSimpArgs false

/-! ### The least cost -/
def lstp (x : T24) (m : Int) (c : List Int) : Int := bif (costC x c).2.1 && (decide (m < 0) || decide ((costC x c).1 < m)) then (costC x c).1 else m
def leastC (x : T24) : Int := (allC x).foldl (lstp x) (-1)

theorem l50_eq {x : T24} (g : Good x) (h4 : x.1.length ≤ 4) (h3 : ∀ i, i < x.1.length → wd x i ≤ 3) : ∀ (d m : Nat) (c : List Int) (q : Int), VW x c → 81 ≤ hN (wd x) c x.1.length + d → d < m →
    l50_1 x (fun y4 => some y4) m q c = some ((lst (wd x) x.1.length d c).foldl (lstp x) q)
  | 0, m, c, q, h, hd, _ => by
    have h1 := hN_lt (VW_iff.1 h).2 h3
    have h2 := pw_le h4
    omega
  | d + 1, m, c, q, h, hd, hm => by
    obtain ⟨m, rfl⟩ : ∃ a, m = a + 1 := ⟨m - 1, by omega⟩
    have hl := h.2
    have := g.n1
    obtain ⟨a, b⟩ := VW_iff.1 h
    have sp := nxR_spec x.1.length c (by omega) b
    have e1 : decide ((List.length c : Int) > 0) = true := decide_eq_true (by omega)
    simp only [l50_1, s50_1, e1, cond_true, m28_eq, Option.bind_some, m60_eq g h, lst]
    refine (cont_eq (lstp x q c) fun kk => ?_).trans ?_
    · unfold lstp
      cases (costC x c).2.1 && (decide (q < 0) || decide ((costC x c).1 < q)) <;> rfl
    · cases hx : nxR (wd x) x.1.length c with
      | some c' =>
        rw [hx] at sp
        obtain ⟨s1, s2, s3, _⟩ := sp
        simp only [Option.getD_some, List.foldl_cons]
        exact l50_eq g h4 h3 d m c' _ (VW_iff.2 ⟨by omega, s3⟩) (by omega) (by omega)
      | none =>
        obtain ⟨m, rfl⟩ : ∃ a, m = a + 1 := ⟨m - 1, by omega⟩
        rfl

theorem m50_eq {x : T24} (g : Good x) (h4 : x.1.length ≤ 4) (h3 : ∀ i, i < x.1.length → wd x i ≤ 3) : m50 x = some (leastC x) := by
  have := g.n2
  have hl := lim_eq
  unfold m50
  have e : (decide (0 ≤ (List.length x.1 : Int)) && decide ((List.length x.1 : Int) ≤ (List.length x.1 : Int)) && decide ((List.length x.1 : Int) ≤ (LIM : Int))) = true := by simp; omega
  rw [e, asrtT]
  have hz := zer_h x x.1.length
  exact l50_eq g h4 h3 100 FUEL (zer x) (-1) (zer_VW g) (by omega) (fuel_lt (by omega))

theorem least_fold {x : T24} (hr : rightC x = true) : ∀ (l : List (List Int)) (m : Int), (m = -1 ∨ 0 ≤ m) →
    ((l.foldl (lstp x) m = m ∧ ∀ c ∈ l, feas x c → m ≠ -1 ∧ m ≤ floorC x c) ∨
      ∃ c, feas x c ∧ l.foldl (lstp x) m = floorC x c ∧ (m = -1 ∨ floorC x c ≤ m) ∧ ∀ d ∈ l, feas x d → floorC x c ≤ floorC x d)
  | [], m, _ => .inl ⟨rfl, fun c h => by cases h⟩
  | c :: l, m, hm => by
    have g := good_of hr
    simp only [List.foldl_cons]
    by_cases hf : feas x c
    · have hc := costC_val hr hf
      have h0 := (floor_bd g hf.1).1
      have hst : lstp x m c = if m = -1 ∨ floorC x c < m then floorC x c else m := by
        unfold lstp
        rw [hc]
        simp only [Bool.true_and]
        by_cases q : m = -1 ∨ floorC x c < m
        · rw [if_pos q]
          have : (decide (m < 0) || decide (floorC x c < m)) = true := by simp only [Bool.or_eq_true, decide_eq_true_eq]; omega
          rw [this]; rfl
        · rw [if_neg q]
          have : (decide (m < 0) || decide (floorC x c < m)) = false := by simp only [Bool.or_eq_false_iff, decide_eq_false_iff_not]; omega
          rw [this]; rfl
      rw [hst]
      by_cases q : m = -1 ∨ floorC x c < m
      · rw [if_pos q]
        rcases least_fold hr l (floorC x c) (.inr h0) with ⟨e, a⟩ | ⟨d, d1, d2, d3, d4⟩
        · refine .inr ⟨c, hf, e, by omega, fun d hd hfd => ?_⟩
          rcases List.mem_cons.1 hd with rfl | hd
          · exact Int.le_refl _
          · exact (a d hd hfd).2
        · refine .inr ⟨d, d1, d2, by omega, fun d' hd hfd => ?_⟩
          rcases List.mem_cons.1 hd with rfl | hd
          · omega
          · exact d4 d' hd hfd
      · rw [if_neg q]
        rcases least_fold hr l m hm with ⟨e, a⟩ | ⟨d, d1, d2, d3, d4⟩
        · refine .inl ⟨e, fun d hd hfd => ?_⟩
          rcases List.mem_cons.1 hd with rfl | hd
          · omega
          · exact a d hd hfd
        · refine .inr ⟨d, d1, d2, d3, fun d' hd hfd => ?_⟩
          rcases List.mem_cons.1 hd with rfl | hd
          · omega
          · exact d4 d' hd hfd
    · have hst : lstp x m c = m := by
        unfold lstp
        have : (costC x c).2.1 = false := by
          cases h : (costC x c).2.1 with
          | false => rfl
          | true => exact absurd ((costC_feas hr).1 h) hf
        rw [this]; rfl
      rw [hst]
      rcases least_fold hr l m hm with ⟨e, a⟩ | ⟨d, d1, d2, d3, d4⟩
      · refine .inl ⟨e, fun d hd hfd => ?_⟩
        rcases List.mem_cons.1 hd with rfl | hd
        · exact absurd hfd hf
        · exact a d hd hfd
      · refine .inr ⟨d, d1, d2, d3, fun d' hd hfd => ?_⟩
        rcases List.mem_cons.1 hd with rfl | hd
        · exact absurd hfd hf
        · exact d4 d' hd hfd

theorem least_spec {x : T24} (hr : rightC x = true) (h4 : x.1.length ≤ 4) (h3 : ∀ i, i < x.1.length → wd x i ≤ 3) {b : List Int} (hb : feas x b) :
    (∃ c, feas x c ∧ leastC x = floorC x c) ∧ ∀ c, feas x c → leastC x ≤ floorC x c := by
  have g := good_of hr
  have hmem : ∀ c, feas x c → c ∈ allC x := fun c h => (mem_allC g h4 h3).2 ⟨h.1, h.2.1⟩
  rcases least_fold hr (allC x) (-1) (.inl rfl) with ⟨e, a⟩ | ⟨c, c1, c2, c3, c4⟩
  · exact absurd rfl (a b (hmem b hb) hb).1
  · exact ⟨⟨c, c1, c2⟩, fun d hd => by rw [show leastC x = _ from c2]; exact c4 d (hmem d hd) hd⟩

/-- The reference's word on whether a choice stays best. -/
theorem m27_eq {t : T24} (hr : rightC t = true) (hf : fewM t = true) {i k s : Nat} (ha : At t i k s) {v : Int} (v0 : 0 ≤ v) (v1 : v ≤ 1000000000000000) {b : List Int} (hb : feas t b) :
    ∃ r, m27 t (i : Int) (k : Int) (s : Int) v b = some r ∧ (r = true ↔ ∀ c, feas t c → costV (linC t i k s b) v ≤ costV (linC t i k s c) v) := by
  have g := good_of hr
  obtain ⟨h4, h3⟩ := few_of' hf
  have hrw := w_right hr ha v0 v1
  have gw := good_of hrw
  have h4w : (withC t i k s v).1.length ≤ 4 := by rw [w_len]; exact h4
  have h3w : ∀ j, j < (withC t i k s v).1.length → wd (withC t i k s v) j ≤ 3 := fun j hj => by
    rw [w_len] at hj
    have := h3 j hj
    show ((withC t i k s v).1.getD j []).length ≤ 3
    rw [w_ilen ha]
    exact this
  have hbw := (w_feas ha v).2 hb
  have hV : ∀ c, feas t c → VW t c := fun c h => ⟨h.1, h.2.1⟩
  obtain ⟨⟨c0, c1, c2⟩, c3⟩ := least_spec hrw h4w h3w hbw
  refine ⟨floorC (withC t i k s v) b == leastC (withC t i k s v), ?_, ?_⟩
  · unfold m27
    rw [m16_eq g ha]
    simp only [Option.bind_some, m28_eq, costC_val hrw hbw, beq_self_eq_true, cond_true, m50_eq gw h4w h3w, Bool.true_and]
  · rw [beq_iff_eq, w_floor g ha v0 (hV b hb)]
    constructor
    · intro h c hc
      rw [h, ← w_floor g ha v0 (hV c hc)]
      exact c3 c ((w_feas ha v).2 hc)
    · intro h
      have e1 := c3 b hbw
      rw [w_floor g ha v0 (hV b hb)] at e1
      have hc0 := (w_feas ha v).1 c1
      have e2 := h c0 hc0
      rw [← w_floor g ha v0 (hV c0 hc0), ← c2] at e2
      omega

/-! ### Halving -/
theorem half1 {t : T24} {i k s : Nat} {b : List Int} {lo now : Int} {R : Type} (k1 : Int → Option R) (h0 : 0 ≤ lo) (hn : now ≤ 1000000000000000)
    (hst : ∀ v, 0 ≤ v → v ≤ now → m27 t (i : Int) (k : Int) (s : Int) v b = some (decide (lo ≤ v))) : ∀ (d m : Nat) (x y : Int), 0 ≤ x → x ≤ lo → lo ≤ y → y ≤ now → (y - x).toNat ≤ d → d < m →
    l10_2 (i : Int) (k : Int) (s : Int) b t k1 m x y = k1 lo
  | d, 0, x, y, _, _, _, _, _, h => absurd h (Nat.not_lt_zero _)
  | d, m + 1, x, y, h1, h2, h3, h4, h5, h6 => by
    simp only [l10_2, s10_2]
    by_cases hlt : x < y
    · have w1 : IntKind.i64.wrap (x + y) = x + y := wrapI (by omega) (by omega)
      have w2 : Int.tdiv (x + y) 2 = (x + y) / 2 := tdiv_pos _ (by omega)
      have w3 : IntKind.i64.wrap ((x + y) / 2) = (x + y) / 2 := wrapI (by omega) (by omega)
      have w4 : IntKind.i64.wrap ((x + y) / 2 + 1) = (x + y) / 2 + 1 := wrapI (by omega) (by omega)
      rw [decide_eq_true hlt, w1, w2, w3, w4, hst _ (by omega) (by omega)]
      simp only [cond_true, Option.bind_some]
      by_cases q : lo ≤ (x + y) / 2
      · rw [decide_eq_true q]
        exact half1 k1 h0 hn hst (d - 1) m x _ h1 h2 q (by omega) (by omega) (by omega)
      · rw [decide_eq_false q]
        exact half1 k1 h0 hn hst (d - 1) m _ y (by omega) (by omega) h3 h4 (by omega) (by omega)
    · have : x = lo := by omega
      rw [decide_eq_false hlt, this]
      rfl

theorem half2 {t : T24} {i k s : Nat} {b : List Int} {hi now : Int} {R : Type} (k1 : Int → Option R) (h0 : 0 ≤ now) (hn : hi ≤ 1000000000000000)
    (hst : ∀ v, now ≤ v → v ≤ 1000000000000000 → m27 t (i : Int) (k : Int) (s : Int) v b = some (decide (v ≤ hi))) : ∀ (d m : Nat) (x y : Int), now ≤ x → x ≤ hi → hi ≤ y → y ≤ 1000000000000000 → (y - x).toNat ≤ d → d < m →
    l10_3 (i : Int) (k : Int) (s : Int) b t k1 m x y = k1 hi
  | d, 0, x, y, _, _, _, _, _, h => absurd h (Nat.not_lt_zero _)
  | d, m + 1, x, y, h1, h2, h3, h4, h5, h6 => by
    simp only [l10_3, s10_3]
    by_cases hlt : x < y
    · have w1 : IntKind.i64.wrap (x + y) = x + y := wrapI (by omega) (by omega)
      have w1' : IntKind.i64.wrap (x + y + 1) = x + y + 1 := wrapI (by omega) (by omega)
      have w2 : Int.tdiv (x + y + 1) 2 = (x + y + 1) / 2 := tdiv_pos _ (by omega)
      have w3 : IntKind.i64.wrap ((x + y + 1) / 2) = (x + y + 1) / 2 := wrapI (by omega) (by omega)
      have w4 : IntKind.i64.wrap ((x + y + 1) / 2 - 1) = (x + y + 1) / 2 - 1 := wrapI (by omega) (by omega)
      rw [decide_eq_true hlt, w1, w1', w2, w3, w4, hst _ (by omega) (by omega)]
      simp only [cond_true, Option.bind_some]
      by_cases q : (x + y + 1) / 2 ≤ hi
      · rw [decide_eq_true q]
        exact half2 k1 h0 hn hst (d - 1) m _ y (by omega) q h3 h4 (by omega) (by omega)
      · rw [decide_eq_false q]
        exact half2 k1 h0 hn hst (d - 1) m x _ h1 h2 (by omega) (by omega) (by omega) (by omega)
    · have : x = hi := by omega
      rw [decide_eq_false hlt, this]
      rfl

/-- The reference's Span. -/
theorem m10_eq {t : T24} (hr : rightC t = true) (hf : fewM t = true) {i k s : Nat} (ha : At t i k s) (hthere : thereB t (i : Int) (k : Int) (s : Int) = true) :
    m10 t (i : Int) (k : Int) (s : Int) = some (bif (bestC t).2.2.2.1 != 0 then (0, 0, (bestC t).2.2.2.1, ()) else ((spanC t i k s (bestC t).1).1, (spanC t i k s (bestC t).1).2, 0, ())) := by
  have g := good_of hr
  obtain ⟨h4, h3⟩ := few_of' hf
  obtain ⟨n, n0, n1, _, hn⟩ := m21_eq g h4 h3
  obtain ⟨i1, i2, i3, _, p0, p1⟩ := now_at g ha
  unfold m10
  rw [m25_eq, hr]
  simp only [Option.bind_some, Bool.not_true, beq_self_eq_true, cond_true, m14_eq, hthere, Bool.or_self, cond_false]
  refine (hn _ _).trans ?_
  rw [decide_eq_false (p := n > 100000) (by omega), cond_false, m26_eq t (by omega), Option.bind_some]
  rcases best_cases t with ⟨h, _⟩ | ⟨_, _, e⟩ | ⟨_, hfe, hc, hmin, hm, e⟩
  · rw [hr] at h; cases h
  · rw [e]; rfl
  · rw [e]
    obtain ⟨a1, a2, a3, a4, a5⟩ := span_spec hr hf ha hfe hm hc
    simp only [bne_self_eq_false, cond_false, idx_nat, i1, i2, i3, Option.bind_some]
    have key : ∀ v, 0 ≤ v → v ≤ 1000000000000000 → m27 t (i : Int) (k : Int) (s : Int) v (srch t).1 = some (decide ((spanC t i k s (srch t).1).1 ≤ v ∧ v ≤ (spanC t i k s (srch t).1).2)) := by
      intro v v0 v1
      obtain ⟨r, r1, r2⟩ := m27_eq hr hf ha v0 v1 hfe
      rw [r1]
      congr 1
      rw [← a3 v v0 v1] at r2
      cases r with
      | true => exact (decide_eq_true (r2.1 rfl)).symm
      | false => exact (decide_eq_false (fun q => by have := r2.2 q; cases this)).symm
    refine (half1 (R := T47) (lo := (spanC t i k s (srch t).1).1) (now := nowC t i k s) _ a1 p1 (fun v v0 v1 => ?_) 1000000000000000 FUEL 0 (nowC t i k s) (Int.le_refl 0) a1 a4 (Int.le_refl _) (by omega) (fuel_lt (by omega))).trans ?_
    · rw [key v v0 (by omega)]
      congr 1
      by_cases q : (spanC t i k s (srch t).1).1 ≤ v
      · rw [decide_eq_true q, decide_eq_true ⟨q, by omega⟩]
      · rw [decide_eq_false q, decide_eq_false (fun h => q h.1)]
    · refine (half2 (R := T47) (hi := (spanC t i k s (srch t).1).2) (now := nowC t i k s) _ p0 a2 (fun v v0 v1 => ?_) 1000000000000000 FUEL (nowC t i k s) 1000000000000000 (Int.le_refl _) a5 a2 (Int.le_refl _) (by omega) (fuel_lt (by omega))).trans rfl
      rw [key v (by omega) v1]
      congr 1
      by_cases q : v ≤ (spanC t i k s (srch t).1).2
      · rw [decide_eq_true q, decide_eq_true ⟨by omega, q⟩]
      · rw [decide_eq_false q, decide_eq_false (fun h => q h.2)]

/-! ### What is not right, or not there -/
theorem m9_no {t : T24} {i k s : Int} (h : (rightC t && thereB t i k s) = false) : m9 t i k s = some (0, 0, 1, ()) := by
  unfold m9 pre9
  rw [m13_eq]
  cases hr : rightC t with
  | false => rfl
  | true =>
    rw [hr] at h
    simp only [Bool.true_and] at h
    simp only [Option.bind_some, Bool.not_true, beq_self_eq_true, cond_true, m20_eq, h]
    rfl
theorem m10_no {t : T24} {i k s : Int} (h : (rightC t && thereB t i k s) = false) : m10 t i k s = some (0, 0, 1, ()) := by
  unfold m10
  rw [m25_eq]
  cases hr : rightC t with
  | false => rfl
  | true =>
    rw [hr] at h
    simp only [Bool.true_and] at h
    simp only [Option.bind_some, Bool.not_true, beq_self_eq_true, cond_true, m14_eq, h]
    rfl

def staysC (t : T24) (c : List Int) : Bool := ((bestC t).2.2.2.1 == 0 && (costC t c).2.1) && ((costC t c).1 == (bestC t).2.1)
theorem m11_eq {t : T24} (h5 : t.1.length ≤ 5) (c : List Int) : m11 t c = some (staysC t c) := by
  unfold m11 staysC
  rw [m15_eq t h5, m17_eq]
  rfl
theorem m12_eq' {t : T24} (h5 : t.1.length ≤ 5) (c : List Int) : m12 t c = some (staysC t c) := by
  unfold m12 staysC
  rw [m26_eq t h5, m28_eq]
  rfl

/-! ### The examples -/
def tS : T24 := ([[([10], (-1), 0, ()), ([14], (-1), 0, ())], [([5], (-1), 0, ()), ([7], (-1), 0, ())]], [], ())
theorem tS_r : rightC tS = true ∧ fewM tS = true := ⟨by decide +kernel, by decide +kernel⟩
theorem m19_eq (i k : Nat) (a b : Int) (ht : thereB tS (i : Int) (k : Int) 0 = true) (ha : At tS i k 0) (hs : spanC tS i k 0 [0, 0] = (a, b)) : m19 (i : Int) (k : Int) a b = some true := by
  have e : bestC tS = ([0, 0], 15, (bestC tS).2.2.1, 0, ()) := by kernel_rfl
  have e2 : (bestC tS).1 = [0, 0] := by rw [e]
  have e3 : (bestC tS).2.2.2.1 = 0 := by rw [e]
  have h9 := m9_eq tS_r.1 tS_r.2 ha (s := 0) ht
  rw [e2, e3, hs] at h9
  have s1 : staysC tS [0, 0] = true := by decide +kernel
  have s2 : staysC tS [0, 1] = false := by decide +kernel
  unfold m19 m43
  simp only [Option.bind_some]
  have h9' : m9 ([[([10], (-1), 0, ()), ([14], (-1), 0, ())], [([5], (-1), 0, ()), ([7], (-1), 0, ())]], [], ()) (i : Int) (k : Int) 0 = some (a, b, 0, ()) := h9
  rw [h9']
  simp only [Option.bind_some, beq_self_eq_true, Bool.and_self, cond_true]
  rw [show m11 ([[([10], (-1), 0, ()), ([14], (-1), 0, ())], [([5], (-1), 0, ()), ([7], (-1), 0, ())]], [], ()) [0, 0] = some true from (m11_eq (t := tS) (by decide) _).trans (by rw [s1])]
  simp only [Option.bind_some, Bool.and_self, beq_self_eq_true, cond_true]
  rw [show m11 ([[([10], (-1), 0, ()), ([14], (-1), 0, ())], [([5], (-1), 0, ()), ([7], (-1), 0, ())]], [], ()) [0, 1] = some false from (m11_eq (t := tS) (by decide) _).trans (by rw [s2])]
  rfl

theorem m7_eq : m7 = some true := by
  unfold m7
  have a1 := m19_eq 0 0 0 14 (by decide +kernel) ⟨by decide, by decide, by decide⟩ (by decide +kernel)
  have a2 := m19_eq 0 1 10 1000000000000000 (by decide +kernel) ⟨by decide, by decide, by decide⟩ (by decide +kernel)
  have a3 := m19_eq 1 0 0 7 (by decide +kernel) ⟨by decide, by decide, by decide⟩ (by decide +kernel)
  rw [m9_no (t := ([], [], ())) (by decide +kernel)]
  simp only [Option.bind_some]
  rw [show m19 0 0 0 14 = some true from a1]
  simp only [Option.bind_some, beq_self_eq_true, cond_true]
  rw [show m19 0 1 10 1000000000000000 = some true from a2]
  simp only [Option.bind_some, Bool.and_self, beq_self_eq_true, cond_true]
  rw [show m19 1 0 0 7 = some true from a3]
  rfl

/-! ### Margin: the four laws. -/
theorem marginTells (t : T24) (i k s : Int) (c : List Int) : m3 t i k s c = some true := by
  unfold m3
  simp only [m7_eq, m8_eq, Option.bind_some]
  cases hf : fewM t with
  | false => rfl
  | true =>
    obtain ⟨h4, h3⟩ := few_of' hf
    by_cases hc : ((List.length c : Int) > 6)
    · rw [decide_eq_true hc]; rfl
    · rw [decide_eq_false hc]
      have key : ∃ r, m9 t i k s = some r ∧ m10 t i k s = some r := by
        cases h : (rightC t && thereB t i k s) with
        | false => exact ⟨_, m9_no h, m10_no h⟩
        | true =>
          obtain ⟨hr, ht⟩ := Bool.and_eq_true_iff.1 h
          obtain ⟨i', k', s', rfl, rfl, rfl, ha⟩ := at_of (good_of hr) ht
          exact ⟨_, m9_eq hr hf ha ht, m10_eq hr hf ha ht⟩
      obtain ⟨r, r1, r2⟩ := key
      simp only [Bool.not_true, Bool.or_self, cond_false, r1, r2, Option.bind_some, beq_self_eq_true, Bool.and_self, cond_true, m11_eq (t := t) (by omega), m12_eq' (t := t) (by omega)]

theorem stays_iff {t : T24} (hr : rightC t = true) {c : List Int} (h : feas t (srch t).1) (hc : (srch t).2 = floorC t (srch t).1) (e : bestC t = ((srch t).1, (srch t).2, bnd t (srch t).2 t.1.length [], 0, ())) :
    staysC t c = true ↔ feas t c ∧ floorC t c = (srch t).2 := by
  unfold staysC
  rw [e]
  simp only [beq_self_eq_true, Bool.true_and, Bool.and_eq_true, beq_iff_eq]
  constructor
  · rintro ⟨h1, h2⟩
    have hf := (costC_feas hr).1 h1
    rw [costC_val hr hf] at h2
    exact ⟨hf, h2⟩
  · rintro ⟨h1, h2⟩
    rw [costC_val hr h1]
    exact ⟨rfl, h2⟩

theorem stays_no {t : T24} (h : (bestC t).2.2.2.1 ≠ 0) (c : List Int) : staysC t c = false := by
  unfold staysC
  have : ((bestC t).2.2.2.1 == 0) = false := by simp [h]
  rw [this]; rfl

theorem small_bnd {t : T24} (g : Good t) (h5 : t.1.length ≤ 5) (k : Int) : (bnd t k t.1.length []).length ≤ 1000000 ∧ ∀ b ∈ bnd t k t.1.length [], b.1.length ≤ 1000000 := by
  refine ⟨by have := bnd_srch g h5 k; omega, fun b hb => ?_⟩
  have := bnd_size k t.1.length [] b (by simp) hb
  omega

theorem marginStays (t : T24) (c d : List Int) : m6 t c d = some true := by
  unfold m6
  simp only [m7_eq, m8_eq, Option.bind_some]
  cases hf : fewM t with
  | false => rfl
  | true =>
    obtain ⟨h4, h3⟩ := few_of' hf
    by_cases hc : ((List.length c : Int) > 6)
    · rw [decide_eq_true hc]; rfl
    by_cases hd : ((List.length d : Int) > 6)
    · rw [decide_eq_true hd, Bool.or_true]; rfl
    · rw [decide_eq_false hc, decide_eq_false hd]
      simp only [Bool.not_true, Bool.or_self, cond_false, m15_eq t (by omega), m11_eq (t := t) (by omega), Option.bind_some, m17_eq]
      rcases best_cases t with ⟨hr, e⟩ | ⟨hr, hn, e⟩ | ⟨hr, hfe, hcc, hmin, hm, e⟩
      · have h0 : (bestC t).2.2.2.1 ≠ 0 := by rw [e]; decide
        rw [stays_no h0, stays_no h0, e]; rfl
      · have h0 : (bestC t).2.2.2.1 ≠ 0 := by rw [e]; decide
        rw [stays_no h0, stays_no h0, e]; rfl
      · have g := good_of hr
        obtain ⟨b1, b2⟩ := small_bnd g (by omega) (srch t).2
        have hb : staysC t (bestC t).1 = true := (stays_iff hr hfe hcc e).2 (by rw [e]; exact ⟨hfe, hcc.symm⟩)
        have e0 : (bestC t).2.2.2.1 = 0 := by rw [e]
        have e1 : (bestC t).1 = (srch t).1 := by rw [e]
        have e2 : (bestC t).2.1 = (srch t).2 := by rw [e]
        have e3 : (bestC t).2.2.1 = bnd t (srch t).2 t.1.length [] := by rw [e]
        have hcv := covB_bnd g hm
        have hA : (staysC t c == (checkC t c (srch t).2 (bnd t (srch t).2 t.1.length []) == 0)) = true := by
          unfold checkC
          rw [hr, hcv]
          simp only [cond_true]
          cases hs : staysC t c with
          | true =>
            obtain ⟨q1, q2⟩ := (stays_iff hr hfe hcc e).1 hs
            rw [costC_val hr q1]
            simp [q2]
          | false =>
            by_cases q1 : (costC t c).2.1 = true
            · have hfc := (costC_feas hr).1 q1
              have q2 : ¬ floorC t c = (srch t).2 := fun q => by
                have := (stays_iff hr hfe hcc e).2 ⟨hfc, q⟩
                rw [hs] at this; cases this
              rw [costC_val hr hfc]
              have q3 : (floorC t c != (srch t).2) = true := by simp [q2]
              simp only [Bool.not_true, Bool.false_or, q3, cond_true]
              rfl
            · have : (costC t c).2.1 = false := by simpa using q1
              rw [this]
              rfl
        have hB : (((!staysC t c) || (!staysC t d)) || ((costC t c).1 == (costC t d).1)) = true := by
          cases hs : staysC t c with
          | false => rfl
          | true =>
            cases hs2 : staysC t d with
            | false => rfl
            | true =>
              obtain ⟨q1, q2⟩ := (stays_iff hr hfe hcc e).1 hs
              obtain ⟨q3, q4⟩ := (stays_iff hr hfe hcc e).1 hs2
              rw [costC_val hr q1, costC_val hr q3]
              simp [q2, q4]
        simp only [e0, bne_self_eq_false, cond_false, beq_self_eq_true, cond_true, hb, Option.bind_some, Bool.and_self, e2, e3, m18_eq t _ _ _ b1 b2, hA, hB, Bool.true_and]

/-- What another cost does to the plan. -/
theorem w_best {t : T24} (hr : rightC t = true) (hf : fewM t = true) {i k s : Nat} (ha : At t i k s) (hfe : feas t (srch t).1) (hm : minK t (srch t).2) (hcc : (srch t).2 = floorC t (srch t).1) {v : Int} (v0 : 0 ≤ v) (v1 : v ≤ 1000000000000000) :
    costC (withC t i k s v) (srch t).1 = (costV (linC t i k s (srch t).1) v, true, ()) ∧ (bestC (withC t i k s v)).2.2.2.1 = 0 ∧ (bestC (withC t i k s v)).2.1 ≤ costV (linC t i k s (srch t).1) v ∧
    (costV (linC t i k s (srch t).1) v = (bestC (withC t i k s v)).2.1 ↔ ((spanC t i k s (srch t).1).1 ≤ v ∧ v ≤ (spanC t i k s (srch t).1).2)) ∧
    staysC (withC t i k s v) (srch t).1 = decide ((spanC t i k s (srch t).1).1 ≤ v ∧ v ≤ (spanC t i k s (srch t).1).2) := by
  have g := good_of hr
  have hrw := w_right hr ha v0 v1
  have hbw := (w_feas ha v).2 hfe
  have hV : ∀ c, feas t c → VW t c := fun c h => ⟨h.1, h.2.1⟩
  have hcost : costC (withC t i k s v) (srch t).1 = (costV (linC t i k s (srch t).1) v, true, ()) := by rw [costC_val hrw hbw, w_floor g ha v0 (hV _ hfe)]
  obtain ⟨_, _, a3, _, _⟩ := span_spec hr hf ha hfe hm hcc
  rcases best_cases (withC t i k s v) with ⟨h, _⟩ | ⟨_, hn, _⟩ | ⟨_, hfe', hcc', hmin', hm', e'⟩
  · rw [hrw] at h; cases h
  · exact absurd hbw (hn _)
  · have hle : (srch (withC t i k s v)).2 ≤ costV (linC t i k s (srch t).1) v := by
      have := hm' _ hbw.1 hbw.2.1 hbw.2.2
      rw [w_floor g ha v0 (hV _ hfe)] at this
      exact this
    have hiff : costV (linC t i k s (srch t).1) v = (srch (withC t i k s v)).2 ↔ ((spanC t i k s (srch t).1).1 ≤ v ∧ v ≤ (spanC t i k s (srch t).1).2) := by
      rw [a3 v v0 v1]
      constructor
      · intro h c hc
        have := hm' c ((w_feas ha v).2 hc).1 ((w_feas ha v).2 hc).2.1 ((w_feas ha v).2 hc).2.2
        rw [w_floor g ha v0 (hV c hc)] at this
        omega
      · intro h
        have h1 := (w_feas ha v).1 hfe'
        have := h _ h1
        rw [← w_floor g ha v0 (hV _ h1), ← hcc'] at this
        omega
    refine ⟨hcost, by rw [e'], by rw [e']; exact hle, by rw [e']; exact hiff, ?_⟩
    have hs := stays_iff (c := (srch t).1) hrw hfe' hcc' e'
    rw [w_floor g ha v0 (hV _ hfe)] at hs
    have hs2 : staysC (withC t i k s v) (srch t).1 = true ↔ ((spanC t i k s (srch t).1).1 ≤ v ∧ v ≤ (spanC t i k s (srch t).1).2) := by
      rw [hs, ← hiff]
      exact ⟨fun h => h.2, fun h => ⟨hbw, h⟩⟩
    cases h : staysC (withC t i k s v) (srch t).1 with
    | true => exact (decide_eq_true (hs2.1 h)).symm
    | false => exact (decide_eq_false (fun q => by rw [hs2.2 q] at h; cases h)).symm

theorem marginSpan (t : T24) (i k s v : Int) : m4 t i k s v = some true := by
  unfold m4
  simp only [m7_eq, m8_eq, Option.bind_some]
  cases hf : fewM t with
  | false => rfl
  | true =>
  simp only [Bool.not_true, beq_self_eq_true, cond_true, m13_eq, Option.bind_some, Bool.false_or]
  cases hr : rightC t with
  | false => rfl
  | true =>
  simp only [Bool.not_true, beq_self_eq_true, cond_true, m14_eq, Option.bind_some]
  cases ht : thereB t i k s with
  | false => rfl
  | true =>
  have g := good_of hr
  obtain ⟨h4, h3⟩ := few_of' hf
  obtain ⟨i, k, s, rfl, rfl, rfl, ha⟩ := at_of g ht
  simp only [Bool.not_true, Bool.or_self, cond_false, m9_eq hr hf ha ht, m15_eq t (by omega), Option.bind_some]
  rcases best_cases t with ⟨h, _⟩ | ⟨_, _, e⟩ | ⟨_, hfe, hcc, hmin, hm, e⟩
  · rw [hr] at h; cases h
  · rw [e]; rfl
  · obtain ⟨i1, i2, i3, _, p0, p1⟩ := now_at g ha
    obtain ⟨a1, a2, a3, a4, a5⟩ := span_spec hr hf ha hfe hm hcc
    rw [e]
    simp only [bne_self_eq_false, cond_false, idx_nat, i1, i2, i3, Option.bind_some]
    generalize hlo : (spanC t i k s (srch t).1).1 = lo at *
    generalize hhi : (spanC t i k s (srch t).1).2 = hi at *
    rw [decide_eq_false (p := nowC t i k s < lo) (by omega), decide_eq_false (p := nowC t i k s > hi) (by omega), decide_eq_false (p := lo < 0) (by omega), decide_eq_false (p := hi > 1000000000000000) (by omega)]
    simp only [Bool.or_self, cond_false]
    refine (chk_loop (R := Bool) (S := Unit) 7 (fun _ => ()) (fun _ => true) (fun m j _ => l4_1 (i : Int) (k : Int) (s : Int) lo hi (srch t).1 t [v, IntKind.i64.wrap (lo - 1), lo, hi, IntKind.i64.wrap (hi + 1), nowC t i k s, IntKind.i64.wrap (Int.tdiv (IntKind.i64.wrap (lo + hi)) 2)] (some true) (some false) m j) (some true) (some false) (by omega) ?_ ?_).trans ?_
    · intro m j hj _
      generalize hl : [v, IntKind.i64.wrap (lo - 1), lo, hi, IntKind.i64.wrap (hi + 1), nowC t i k s, IntKind.i64.wrap (Int.tdiv (IntKind.i64.wrap (lo + hi)) 2)] = l
      have hlen : l.length = 7 := by rw [← hl]; rfl
      have hx : l[j]? = some l[j] := List.getElem?_eq_getElem (by omega)
      generalize l[j]'(by omega) = x at hx
      simp only [l4_1, s4_1, hlen, lt1 (show j < 7 by omega), cond_true, wr1 (j := j) (by omega)]
      refine (cont_eq () fun kk => ?_).trans rfl
      simp only [nn, Bool.and_self, asrtT, Int.toNat_natCast, hx, Option.bind_some]
      by_cases q : x < 0 ∨ x > 1000000000000000
      · have : (decide (x < 0) || decide (x > 1000000000000000)) = true := by simp only [Bool.or_eq_true, decide_eq_true_eq]; exact q
        rw [this]; rfl
      · have : (decide (x < 0) || decide (x > 1000000000000000)) = false := by simp only [Bool.or_eq_false_iff, decide_eq_false_iff_not]; omega
        rw [this]
        obtain ⟨w1, w2, w3, w4, w5⟩ := w_best hr hf ha hfe hm hcc (v := x) (by omega) (by omega)
        rw [hlo, hhi] at w4 w5
        have hin : (decide (x ≥ lo) && decide (x ≤ hi)) = decide (lo ≤ x ∧ x ≤ hi) := by
          by_cases q1 : lo ≤ x <;> by_cases q2 : x ≤ hi <;> simp [q1, q2]
        have h5 : (withC t i k s x).1.length ≤ 5 := by rw [w_len]; omega
        have heq : (costV (linC t i k s (srch t).1) x == (bestC (withC t i k s x)).2.1) = decide (lo ≤ x ∧ x ≤ hi) := by
          by_cases q1 : lo ≤ x ∧ x ≤ hi
          · rw [decide_eq_true q1, beq_iff_eq]; exact w4.2 q1
          · rw [decide_eq_false q1, beq_eq_false_iff_ne]; exact fun q2 => q1 (w4.1 q2)
        simp only [cond_false, m16_eq g ha, m17_eq, w1, m15_eq _ h5, Option.bind_some, w2, hin, heq, m11_eq h5, w5, bne_self_eq_false, Bool.not_true, Bool.or_self, beq_self_eq_true, Bool.or_false, Bool.false_or]
        rw [decide_eq_false (p := costV (linC t i k s (srch t).1) x < (bestC (withC t i k s x)).2.1) (by omega)]
        simp only [beq_self_eq_true, cond_true, Option.bind_some, Bool.not_true, Bool.or_self, cond_false]
    · intro _ m
      simp only [l4_1, s4_1]
      rfl
    · rw [if_pos (fun _ _ => rfl)]

/-! ### The chosen option -/
theorem fold_hi {t : T24} {i k s : Nat} {o : T50} (ho : o.2.2.1 = false) : ∀ (l : List (List Int)) (q : Int × Int), q.2 = 1000000000000000 → (l.foldl (stp t i k s o) q).2 = 1000000000000000
  | [], q, h => h
  | c :: l, q, h => by
    simp only [List.foldl_cons]
    refine fold_hi ho l _ ?_
    unfold stp
    cases (costC t c).2.1 with
    | false => exact h
    | true =>
      have : (limC o (linC t i k s c)).2 = 1000000000000000 := by
        unfold limC
        rw [ho]
        simp only [Bool.false_and, cond_false]
        cases (linC t i k s c).2.2.1 && decide ((linC t i k s c).1 < o.1) <;> rfl
      simp only [cond_true, this, h]
      rfl

theorem fold_lo {t : T24} (g : Good t) {i k s : Nat} (ha : At t i k s) {o : T50} (ho : o.1 = 0) : ∀ (l : List (List Int)) (q : Int × Int), (∀ c ∈ l, VW t c) → q.1 = 0 → o.2.2.1 = true → (l.foldl (stp t i k s o) q).1 = 0
  | [], q, _, h, _ => h
  | c :: l, q, hl, h, hh => by
    simp only [List.foldl_cons]
    refine fold_lo g ha ho l _ (fun d hd => hl d (by simp [hd])) ?_ hh
    unfold stp
    cases (costC t c).2.1 with
    | false => exact h
    | true =>
      have hb := (lin_bd g ha (hl c (by simp))).1
      have : (limC o (linC t i k s c)).1 = 0 := by
        unfold limC
        rw [hh, ho]
        simp only [Bool.true_and, cond_true]
        cases (linC t i k s c).2.2.1 with
        | true => simp only [cond_true]; rw [decide_eq_false (p := (0 : Int) > (linC t i k s c).1) (by omega)]; rfl
        | false => rfl
      simp only [cond_true, this, h]
      rfl

def wout (t : T24) (i k : Nat) : T24 := (t.1.set i ((t.1.getD i []).eraseIdx k), t.2.1, ())
def up (k : Nat) (x : Int) : Int := if x < (k : Int) then x else x + 1

theorem eraseIdx_app {α : Type} (l : List α) (x : α) (k : Nat) : (l ++ [x]).eraseIdx k = if l.length = k then l else l.eraseIdx k ++ [x] := by
  by_cases h : l.length = k
  · subst h; rw [if_pos rfl, List.eraseIdx_append_of_length_le (Nat.le_refl _)]; simp
  · rw [if_neg h]
    by_cases h2 : k < l.length
    · rw [List.eraseIdx_append_of_lt_length h2]
    · rw [List.eraseIdx_of_length_le (by simp; omega), List.eraseIdx_of_length_le (by omega)]

theorem l51_eq {t : T24} (g : Good t) {i k s : Nat} (ha : At t i k s) {R : Type} (k1 : List T37 → Option R) : l5_1 (i : Int) (k : Int) t k1 FUEL 0 [] = k1 ((t.1.getD i []).eraseIdx k) := by
  have hiss := g.issue ha.hi
  have hop := g.opt i _ hiss
  have hl := lim_eq
  have e0 : ([] : List T37) = ((t.1.getD i []).take 0).eraseIdx k := by simp
  have e1 : (t.1.getD i []).eraseIdx k = ((t.1.getD i []).take (t.1.getD i []).length).eraseIdx k := by rw [List.take_length]
  rw [e1, e0]
  exact seq_loop (R := R) (S := List T37) (t.1.getD i []).length (fun j => ((t.1.getD i []).take j).eraseIdx k) (fun m j x => l5_1 (i : Int) (k : Int) t k1 m j x) k1 (by omega)
    (by
      intro m j hj
      have hx : (t.1.getD i [])[j]? = some (optAt t i (j : Int)) := get_of_lt hj _
      have hlm : ∀ x : T37, decide (List.length (α := T37) (((t.1.getD i []).take j).eraseIdx k) + List.length (α := T37) [x] ≤ LIM) = true := fun x => decide_eq_true (by
        have : (((t.1.getD i []).take j).eraseIdx k).length ≤ ((t.1.getD i []).take j).length := List.length_eraseIdx_le _ _
        rw [List.length_take] at this
        simp only [List.length_singleton]
        omega)
      simp only [l5_1, s5_1, idx_nat, hiss, Option.bind_some, lt1 hj, cond_true, wr1 (j := j) (by omega)]
      refine (cont_eq (((t.1.getD i []).take (j + 1)).eraseIdx k) fun kk => ?_).trans rfl
      rw [List.take_add_one, hx]
      simp only [Option.toList_some, eraseIdx_app]
      have hlen : ((t.1.getD i []).take j).length = j := by rw [List.length_take]; omega
      rw [hlen, bneN]
      by_cases e : j = k
      · subst e
        rw [if_pos rfl, List.eraseIdx_of_length_le (by omega)]
        simp
      · have : (j != k) = true := by simp [e]
        rw [if_neg e, this]
        simp only [cond_true, hx, Option.bind_some, hlm, asrtT])
    (by intro m; simp only [l5_1, s5_1, idx_nat, hiss, Option.bind_some, lt0, cond_false])

theorem l52_eq {t : T24} (g : Good t) {i : Nat} (hi : i < t.1.length) (ot : List T37) {R : Type} (k1 : List (List T37) → Option R) : l5_2 (i : Int) ot t k1 FUEL 0 [] = k1 (t.1.set i ot) := by
  have hn := g.n2
  have hl := lim_eq
  have hlen : (t.1.set i ot).length = t.1.length := by simp
  have e1 : t.1.set i ot = (t.1.set i ot).take t.1.length := by rw [← hlen, List.take_length]
  rw [e1]
  exact seq_loop (R := R) (S := List (List T37)) t.1.length (fun j => (t.1.set i ot).take j) (fun m j x => l5_2 (i : Int) ot t k1 m j x) k1 (by omega)
    (by
      intro m j hj
      have hlm : ∀ x : List T37, decide (List.length (α := List T37) ((t.1.set i ot).take j) + List.length (α := List T37) [x] ≤ LIM) = true := fun x => decide_eq_true (by
        rw [List.length_take, hlen]
        simp only [List.length_singleton]
        omega)
      simp only [l5_2, s5_2, lt1 hj, cond_true, wr1 (j := j) (by omega)]
      refine (cont_eq ((t.1.set i ot).take (j + 1)) fun kk => ?_).trans rfl
      rw [beqN, List.take_add_one, List.getElem?_set]
      by_cases e : i = j
      · subst e
        simp only [beq_self_eq_true, cond_true, if_true, hj, Option.toList_some, hlm, asrtT]
      · have : (j == i) = false := by simp [Ne.symm e]
        rw [this, if_neg e, g.issue hj]
        simp only [cond_false, idx_nat, g.issue hj, Option.bind_some, Option.toList_some, hlm, asrtT])
    (by intro m; simp only [l5_2, s5_2, lt0, cond_false])

theorem o_iss {t : T24} {i k s : Nat} (ha : At t i k s) (q : Nat) : (wout t i k).1.getD q [] = if q = i then (t.1.getD i []).eraseIdx k else t.1.getD q [] := by
  show (t.1.set i _).getD q [] = _
  by_cases h : q = i
  · subst h; rw [if_pos rfl]; simp [List.getD_eq_getElem?_getD, ha.hi]
  · rw [if_neg h]; simp [List.getD_eq_getElem?_getD, List.getElem?_set, Ne.symm h]
theorem o_opt {t : T24} {i k s : Nat} (ha : At t i k s) (q : Nat) {x : Int} (hx : 0 ≤ x) : optAt (wout t i k) q x = if q = i then optAt t i (up k x) else optAt t q x := by
  show ((wout t i k).1.getD q []).getD x.toNat _ = _
  rw [o_iss ha]
  by_cases h : q = i
  · subst h
    rw [if_pos rfl, if_pos rfl]
    obtain ⟨x, rfl⟩ := Int.eq_ofNat_of_zero_le hx
    unfold optAt up
    simp only [List.getD_eq_getElem?_getD, List.getElem?_eraseIdx, Int.toNat_natCast]
    by_cases e : x < k
    · rw [if_pos e, if_pos (by omega)]; rfl
    · rw [if_neg e, if_neg (by omega)]
      have : ((x : Int) + 1).toNat = x + 1 := by omega
      rw [this]
  · rw [if_neg h, if_neg h]; rfl

/-- A choice without the option is a choice. -/
theorem without_le {t : T24} (g : Good t) {i k s : Nat} (ha : At t i k s) (hne : (t.1.getD i []).eraseIdx k ≠ []) {d : List Int} (hd : feas (wout t i k) d) :
    ∃ c, feas t c ∧ hasC i k c = false ∧ floorC t c = floorC (wout t i k) d := by
  have hlen : (wout t i k).1.length = t.1.length := by simp [wout]
  obtain ⟨hv, hl, ho⟩ := hd
  rw [hlen] at hl
  have hid : i < d.length := by have := ha.hi; omega
  have hdi : d[i]? = some (d.getD i 0) := get_of_lt hid 0
  obtain ⟨x0, x1⟩ := hv.2 i _ hdi
  rw [o_iss ha, if_pos rfl, List.length_eraseIdx_of_lt ha.hk] at x1
  have hup : 0 ≤ up k (d.getD i 0) ∧ (up k (d.getD i 0)).toNat < (t.1.getD i []).length ∧ up k (d.getD i 0) ≠ (k : Int) := by
    have hk := ha.hk
    unfold up
    split <;> omega
  generalize hc : d.set i (up k (d.getD i 0)) = c
  have hcl : c.length = t.1.length := by rw [← hc]; simpa using hl
  have hcg : ∀ j, j < t.1.length → c[j]? = some (if j = i then up k (d.getD i 0) else d.getD j 0) := by
    intro j hj
    rw [← hc, List.getElem?_set]
    by_cases e : i = j
    · subst e; simp [hid]
    · rw [if_neg e, if_neg (Ne.symm e)]; exact get_of_lt (by omega) 0
  have hcd : ∀ j, j < t.1.length → c.getD j 0 = if j = i then up k (d.getD i 0) else d.getD j 0 := fun j hj => by
    rw [List.getD_eq_getElem?_getD, hcg j hj]; rfl
  have hopt : ∀ j, j < t.1.length → optAt (wout t i k) j (d.getD j 0) = optAt t j (c.getD j 0) := by
    intro j hj
    have h0 := (hv.2 j _ (get_of_lt (by omega) 0)).1
    rw [o_opt ha j h0, hcd j hj]
    by_cases e : j = i
    · subst e; rw [if_pos rfl, if_pos rfl]
    · rw [if_neg e, if_neg e]
  have hvt : vC t c := by
    refine ⟨by omega, fun j x hx => ?_⟩
    have hj : j < t.1.length := by rw [← hcl]; exact (List.getElem?_eq_some_iff.1 hx).1
    rw [hcg j hj] at hx
    have hx := Option.some.inj hx
    by_cases e : j = i
    · subst e
      rw [if_pos rfl] at hx
      rw [← hx]
      exact ⟨hup.1, hup.2.1⟩
    · rw [if_neg e] at hx
      have := hv.2 j _ (get_of_lt (by omega) 0)
      rw [o_iss ha, if_neg e, hx] at this
      exact this
  have hsc : scen (wout t i k) = scen t := by
    have h1 : ((wout t i k).1.getD 0 []).getD 0 ([], 0, 0, ()) = optAt (wout t i k) 0 0 := rfl
    have h2 := o_opt ha 0 (Int.le_refl 0)
    rw [scen_eq, h1, h2]
    have hn := g.n1
    split
    · rename_i e
      subst e
      have hq : (up k 0).toNat < (t.1.getD 0 []).length := by
        have hpos : 0 < ((t.1.getD 0 []).eraseIdx k).length := List.length_pos_iff.2 hne
        rw [List.length_eraseIdx_of_lt ha.hk] at hpos
        unfold up
        split <;> omega
      have := (g.at' ha.hi (k := up k 0) hq).2.1
      exact this
    · exact (scen_eq t).symm
  have hdue : ∀ y, dueS (wout t i k) d y = dueS t c y := by
    intro y
    unfold dueS
    rw [hl, hcl]
    refine sumN_congr fun j hj => ?_
    unfold partD
    rw [get_of_lt (l := d) (i := j) (by omega) 0, get_of_lt (l := c) (i := j) (by omega) 0]
    simp only
    rw [hopt j hj]
  have hfl : floorC t c = floorC (wout t i k) d := by
    unfold floorC
    rw [hsc]
    congr 1
    funext s'
    unfold sumC
    rw [hlen]
    refine sumN_congr fun j hj => ?_
    unfold partC
    rw [get_of_lt (l := d) (i := j) (by omega) 0, get_of_lt (l := c) (i := j) (by omega) 0]
    simp only
    rw [hopt j hj]
  refine ⟨c, ⟨hvt, hcl, over_none.2 fun y hy => ?_⟩, ?_, hfl⟩
  · rw [← hdue]
    exact over_none.1 ho y hy
  · unfold hasC
    rw [hcd i ha.hi, if_pos rfl, beq_eq_false_iff_ne]
    exact hup.2.2

theorem marginChosen (t : T24) (i k s : Int) : m5 t i k s = some true := by
  unfold m5
  simp only [m7_eq, m8_eq, Option.bind_some]
  cases hf : fewM t with
  | false => rfl
  | true =>
  simp only [Bool.not_true, beq_self_eq_true, cond_true, m13_eq, Option.bind_some, Bool.false_or]
  cases hr : rightC t with
  | false => rfl
  | true =>
  simp only [Bool.not_true, beq_self_eq_true, cond_true, m14_eq, Option.bind_some]
  cases ht : thereB t i k s with
  | false => rfl
  | true =>
  have g := good_of hr
  obtain ⟨h4, h3⟩ := few_of' hf
  obtain ⟨i, k, s, rfl, rfl, rfl, ha⟩ := at_of g ht
  simp only [Bool.not_true, Bool.or_self, cond_false, m9_eq hr hf ha ht, m15_eq t (by omega), Option.bind_some]
  rcases best_cases t with ⟨h, _⟩ | ⟨_, _, e⟩ | ⟨_, hfe, hcc, hmin, hm, e⟩
  · rw [hr] at h; cases h
  · rw [e]; rfl
  · obtain ⟨i1, i2, i3, i4, p0, p1⟩ := now_at g ha
    obtain ⟨a1, a2, a3, a4, a5⟩ := span_spec hr hf ha hfe hm hcc
    have hV : ∀ c, feas t c → VW t c := fun c h => ⟨h.1, h.2.1⟩
    have hbl : ((List.length (srch t).1 : Int) != (List.length t.1 : Int)) = false := by have := hfe.2.1; simp; omega
    have hbi : (srch t).1[i]? = some ((srch t).1.getD i 0) := get_of_lt (by have := hfe.2.1; have := ha.hi; omega) 0
    rw [e]
    simp only [bne_self_eq_false, cond_false, Bool.or_self, hbl, idx_nat, hbi, Option.bind_some]
    cases hh : ((srch t).1.getD i 0 != (k : Int)) with
    | true =>
      have hno : (linC t i k s (srch t).1).2.2.1 = false := by
        show hasC i k _ = false
        unfold hasC
        simpa [bne] using hh
      have : (spanC t i k s (srch t).1).2 = 1000000000000000 := fold_hi hno _ _ rfl
      rw [this]
      rfl
    | false =>
      have hyes : (linC t i k s (srch t).1).2.2.1 = true := by
        show hasC i k _ = true
        unfold hasC
        simpa [bne] using hh
      simp only [cond_false, i1, i2, i4, Option.bind_some]
      have h1 : (((scen t : Int) == 1) && ((spanC t i k s (srch t).1).1 != 0)) = false := by
        by_cases q : scen t = 1
        · have hs0 : s = 0 := by have := ha.hs; omega
          have hrest : (linC t i k s (srch t).1).1 = 0 := by
            show restC t i k s _ = 0
            unfold restC
            rw [q]
            have hf0 : restF t i k s (srch t).1 0 = 0 := by
              unfold restF
              rw [show hasC i k (srch t).1 = true from hyes, hs0]
              rfl
            simp only [maxN, hf0]
            rfl
          have := fold_lo g ha hrest (allC t) (0, 1000000000000000) (fun c hc => (mem_allC g h4 h3).1 hc) rfl hyes
          rw [show (spanC t i k s (srch t).1).1 = 0 from this]
          simp
        · have : ((scen t : Int) == 1) = false := by simp; omega
          rw [this]; rfl
      simp only [h1, cond_false]
      rw [l51_eq g ha]
      by_cases hne : (t.1.getD i []).eraseIdx k = []
      · rw [hne]; rfl
      · have hl0 : ((List.length ((t.1.getD i []).eraseIdx k) : Int) == 0) = false := by
          have := List.length_pos_iff.2 hne
          simp only [beq_eq_false_iff_ne, ne_eq]; omega
        rw [hl0]
        simp only [cond_false]
        rw [l52_eq g ha.hi]
        have eW : (t.1.set i ((t.1.getD i []).eraseIdx k), t.2.1, ()) = wout t i k := rfl
        rw [eW, m15_eq (wout t i k) (by simp [wout]; omega)]
        simp only [Option.bind_some]
        rcases best_cases (wout t i k) with ⟨_, e'⟩ | ⟨_, _, e'⟩ | ⟨_, hfe', hcc', _, _, e'⟩
        · rw [e']; rfl
        · rw [e']; rfl
        · rw [e']
          have hhi : 0 ≤ (spanC t i k s (srch t).1).2 := by omega
          obtain ⟨w1, _⟩ := w_best hr hf ha hfe hm hcc hhi a2
          simp only [bne_self_eq_false, cond_false, m16_eq g ha, m17_eq, w1, Option.bind_some, Bool.and_self, Bool.true_and]
          obtain ⟨c, c1, c2, c3⟩ := without_le g ha hne hfe'
          have h5 := (a3 _ hhi a2).1 ⟨by omega, Int.le_refl _⟩ c c1
          have h6 : costV (linC t i k s c) (spanC t i k s (srch t).1).2 = floorC t c := by
            have h7 := w_floor g ha p0 (hV c c1)
            rw [w_self g ha] at h7
            rw [h7]
            unfold costV
            rw [show (linC t i k s c).2.2.1 = false from c2]
            rfl
          rw [h6, c3, ← hcc'] at h5
          rw [decide_eq_true h5]

end Go.Proofs.Ytadinocaadlgmaa
