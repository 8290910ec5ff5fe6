/- Offer: the code's share. -/
import Derived.Test.YtidlfemliaepjaaT2
namespace Go.Proofs.Ytidlfemliaepjaa
open Go Go.Eng
set_option linter.unusedVariables false
set_option linter.unusedSimpArgs false

/-! Lists by their places. -/

def tab (n : Nat) (f : Nat → Int) : List Int := (List.range n).map f
theorem tab_len (n : Nat) (f : Nat → Int) : (tab n f).length = n := by simp [tab]
theorem tab_gI {n i : Nat} (h : i < n) (f : Nat → Int) : gI (tab n f) i = f i := by
  unfold gI tab
  rw [List.getD_eq_getElem?_getD, List.getElem?_map, List.getElem?_range h]
  rfl
theorem tab_set {n j : Nat} (hj : j < n) (f g : Nat → Int) (x : Int) (h1 : ∀ i, i < n → i ≠ j → g i = f i) (h2 : g j = x) : (tab n f).set j x = tab n g := by
  apply ext_gI (by rw [List.length_set, tab_len, tab_len])
  intro i hi
  rw [List.length_set, tab_len] at hi
  rw [gI_set (by rw [tab_len]; exact hj), tab_gI hi, tab_gI hi]
  by_cases e : i = j
  · rw [if_pos e, e, h2]
  · rw [if_neg e, h1 i hi e]
theorem tab_rep (n : Nat) : List.replicate n (0 : Int) = tab n (fun _ => 0) := by
  apply ext_gI (by simp [tab_len])
  intro i hi
  rw [gI_rep, tab_gI (by simpa using hi)]

theorem get_at {α : Type} : ∀ (P : List α) (y : α) (Q : List α), (P ++ y :: Q)[P.length]? = some y
  | [], y, Q => rfl
  | a :: P, y, Q => get_at P y Q
theorem set_at {α : Type} : ∀ (P : List α) (y z : α) (Q : List α), (P ++ y :: Q).set P.length z = P ++ z :: Q
  | [], y, z, Q => rfl
  | a :: P, y, z, Q => by
    show a :: ((P ++ y :: Q).set P.length z) = _
    rw [set_at P y z Q]; rfl

/-! Sorting by insertion. -/

/-- Into a list that is the wrong way round. -/
def insR (K : Nat → Int) : List Nat → Nat → List Nat
  | [], x => [x]
  | y :: R, x => if K y < K x then y :: insR K R x else x :: y :: R

def asI (S : List Nat) : List Int := S.map fun (i : Nat) => (i : Int)

def ordL (K : Nat → Int) (n : Nat) : List Nat := ((List.range n).foldl (insR K) []).reverse

/-- a comes before b. -/
def Bet (K : Nat → Int) (a b : Nat) : Prop := K b < K a ∨ (K a = K b ∧ a < b)

theorem insR_perm (K : Nat → Int) : ∀ (R : List Nat) (x : Nat), (insR K R x).Perm (x :: R)
  | [], x => List.Perm.refl _
  | y :: R, x => by
    unfold insR
    split
    · exact ((insR_perm K R x).cons y).trans (List.Perm.swap x y R)
    · exact List.Perm.refl _

theorem insR_sorted (K : Nat → Int) : ∀ (R : List Nat) (x : Nat), R.Pairwise (fun a b => Bet K b a) → (∀ y ∈ R, y < x) → (insR K R x).Pairwise (fun a b => Bet K b a)
  | [], x, _, _ => by simp [insR]
  | y :: R, x, h, hx => by
    rw [List.pairwise_cons] at h
    unfold insR
    split
    · rename_i c
      rw [List.pairwise_cons]
      refine ⟨fun b hb => ?_, insR_sorted K R x h.2 (fun z hz => hx z (List.mem_cons_of_mem _ hz))⟩
      have hb := (insR_perm K R x).mem_iff.1 hb
      rcases List.mem_cons.1 hb with q | q
      · rw [q]; exact .inl c
      · exact h.1 b q
    · rename_i c
      rw [List.pairwise_cons]
      refine ⟨fun b hb => ?_, by rw [List.pairwise_cons]; exact h⟩
      have hy := hx y (List.mem_cons_self ..)
      rcases List.mem_cons.1 hb with q | q
      · rw [q]; unfold Bet; omega
      · have h1 := h.1 b q
        have h2 := hx b (List.mem_cons_of_mem _ q)
        unfold Bet at h1 ⊢
        omega

theorem fold_perm (K : Nat → Int) : ∀ (X S : List Nat), (X.foldl (insR K) S).Perm (S ++ X)
  | [], S => by simp
  | x :: X, S => by
    rw [List.foldl_cons]
    refine (fold_perm K X (insR K S x)).trans ?_
    refine ((insR_perm K S x).append_right X).trans ?_
    exact (List.perm_middle (l₁ := S) (l₂ := X) (a := x)).symm

theorem fold_sorted (K : Nat → Int) : ∀ (X S : List Nat), S.Pairwise (fun a b => Bet K b a) → X.Pairwise (· < ·) → (∀ x ∈ X, ∀ y ∈ S, y < x) → (X.foldl (insR K) S).Pairwise (fun a b => Bet K b a)
  | [], S, h, _, _ => h
  | x :: X, S, h, hX, hx => by
    rw [List.pairwise_cons] at hX
    rw [List.foldl_cons]
    refine fold_sorted K X (insR K S x) (insR_sorted K S x h (hx x (List.mem_cons_self ..))) hX.2 (fun z hz y hy => ?_)
    have hy := (insR_perm K S x).mem_iff.1 hy
    rcases List.mem_cons.1 hy with q | q
    · rw [q]; exact hX.1 z hz
    · exact hx z (List.mem_cons_of_mem _ hz) y q

theorem ordL_perm (K : Nat → Int) (n : Nat) : (ordL K n).Perm (List.range n) := by
  unfold ordL
  refine (List.reverse_perm _).trans ?_
  simpa using fold_perm K (List.range n) []

theorem ordL_sorted (K : Nat → Int) (n : Nat) : (ordL K n).Pairwise (Bet K) := by
  unfold ordL
  rw [List.pairwise_reverse]
  exact fold_sorted K (List.range n) [] List.Pairwise.nil List.pairwise_lt_range (fun x _ y hy => by simp at hy)

theorem ordL_len (K : Nat → Int) (n : Nat) : (ordL K n).length = n := by
  rw [(ordL_perm K n).length_eq, List.length_range]
theorem ordL_mem {K : Nat → Int} {n i : Nat} : i ∈ ordL K n ↔ i < n := by
  rw [(ordL_perm K n).mem_iff, List.mem_range]
theorem ordL_nodup (K : Nat → Int) (n : Nat) : (ordL K n).Nodup := (ordL_perm K n).nodup_iff.2 List.nodup_range

/-! The code. -/

def rem (l : List Int) (t m : Int) (i : Nat) : Int := gI l i * m % t
def flo (l : List Int) (t m : Int) (i : Nat) : Int := gI l i * m / t

/-- What can be shared. -/
structure Sh (l : List Int) (t m : Int) : Prop where
  n : l.length ≤ 15
  pos : ∀ i, 0 ≤ gI l i ∧ gI l i ≤ 1000000000
  m0 : 0 ≤ m
  m1 : m ≤ 1000000000
  t0 : 0 < t
  sum : sumN (gI l) l.length = t

theorem Sh.prod {l : List Int} {t m : Int} (h : Sh l t m) (i : Nat) : 0 ≤ gI l i * m ∧ gI l i * m ≤ 1000000000 * 1000000000 :=
  ⟨Int.mul_nonneg (h.pos i).1 h.m0, Int.mul_le_mul (h.pos i).2 h.m1 h.m0 (by omega)⟩

theorem Sh.rem_b {l : List Int} {t m : Int} (h : Sh l t m) (i : Nat) : 0 ≤ rem l t m i ∧ rem l t m i < t :=
  ⟨Int.emod_nonneg _ (by have := h.t0; omega), Int.emod_lt_of_pos _ h.t0⟩

theorem Sh.eq {l : List Int} {t m : Int} (i : Nat) : t * flo l t m i + rem l t m i = gI l i * m := Int.mul_ediv_add_emod _ _

theorem Sh.flo_b {l : List Int} {t m : Int} (h : Sh l t m) (i : Nat) : 0 ≤ flo l t m i ∧ flo l t m i ≤ 1000000000000000000 := by
  have := h.prod i
  have h2 := h.t0
  refine ⟨Int.ediv_nonneg this.1 (by omega), ?_⟩
  have := Int.ediv_le_self t this.1
  unfold flo
  omega

/-- What is left when all have their floors. -/
def lef (l : List Int) (t m : Int) : Int := m - sumN (flo l t m) l.length

theorem Sh.left_eq {l : List Int} {t m : Int} (h : Sh l t m) : t * lef l t m = sumN (rem l t m) l.length := by
  have e : sumN (fun i => t * flo l t m i + rem l t m i) l.length = sumN (fun i => m * gI l i) l.length := sumN_congr fun i _ => by rw [Sh.eq, Int.mul_comm]
  rw [sumN_add, sumN_mul, sumN_mul, h.sum] at e
  unfold lef
  rw [Int.mul_sub, Int.mul_comm t m]
  omega

theorem Sh.left_b {l : List Int} {t m : Int} (h : Sh l t m) : 0 ≤ lef l t m ∧ lef l t m ≤ l.length := by
  have e := h.left_eq
  have ht := h.t0
  have a : 0 ≤ sumN (rem l t m) l.length := sumN_nonneg fun i _ => (h.rem_b i).1
  have b : sumN (rem l t m) l.length ≤ sumN (fun _ => t * 1) l.length := sumN_le fun i _ => by have := (h.rem_b i).2; omega
  have c : ∀ n, sumN (fun _ => t * 1) n = t * (n : Int) := by
    intro n
    rw [sumN_mul]
    congr 1
    induction n with
    | zero => rfl
    | succ n ih => simp only [sumN, ih]; omega
  rw [c, ← e] at b
  rw [← e] at a
  exact ⟨Int.le_of_mul_le_mul_left (by rw [Int.mul_zero]; exact a) ht, Int.le_of_mul_le_mul_left b ht⟩

def bump (o : List Int) (is : List Nat) : List Int := is.foldl (fun o i => o.set i (gI o i + 1)) o

def shareS (l : List Int) (t m : Int) : List Int := bump (tab l.length (flo l t m)) ((ordL (rem l t m) l.length).take (lef l t m).toNat)

theorem m41_eq (a : Int) : m41 a = some false := by
  unfold m41
  simp

theorem m34_lt (a b : Int) : ∃ c, m34 a b = some c ∧ (decide (c < 0) = decide (a < b)) := by
  unfold m34
  rw [m41_eq, m41_eq]
  simp only [Option.bind_some, cond_false]
  by_cases h : a < b
  · exact ⟨-1, by rw [bifT (decide_eq_true h)], by simp [h]⟩
  · rw [bifF (decide_eq_false h)]
    by_cases h2 : a > b
    · exact ⟨1, by rw [bifT (decide_eq_true h2)], by simp [h]⟩
    · exact ⟨0, by rw [bifF (decide_eq_false h2)], by simp [h]⟩

theorem asI_len (S : List Nat) : (asI S).length = S.length := by simp [asI]

theorem l21_3_eq {R : Type} {l : List Int} {t m : Int} (h : Sh l t m) (k : List Int → Option R) : ∀ (S : List Nat) (x : Nat) (B : List Nat) (n j : Nat), S.length = j → j < n → (∀ i ∈ S, i < l.length) → x < l.length → S.length + B.length ≤ 100 →
    l21_3 0 l t m k n (j : Int) (asI (S.reverse ++ x :: B)) = k (asI ((insR (rem l t m) S x).reverse ++ B))
  | [], x, B, n + 1, j, hj, _, _, _, _ => by
    have : j = 0 := by simpa using hj.symm
    subst this
    show s21_3 _ _ _ _ _ _ _ _ = _
    unfold s21_3
    rfl
  | y :: S, x, B, n + 1, j, hj, hn, hS, hx, hlen => by
    obtain ⟨j, rfl⟩ : ∃ i, j = i + 1 := ⟨S.length, by simpa using hj.symm⟩
    have hj' : S.length = j := by simpa using hj
    have hlen' : S.length + B.length + 1 ≤ 100 := by simp at hlen; omega
    have hy : y < l.length := hS y (List.mem_cons_self ..)
    show s21_3 _ _ _ _ _ _ _ _ = _
    unfold s21_3
    have hg : ((decide (((j + 1 : Nat) : Int) > 0)) == true) = true := by simp
    have hw : IntKind.i64.wrap (((j + 1 : Nat) : Int) - 1) = (j : Int) := by rw [wrapI (by omega) (by omega)]; omega
    have eL : asI ((y :: S).reverse ++ x :: B) = asI S.reverse ++ (y : Int) :: (x : Int) :: asI B := by simp [asI]
    have hP : (asI S.reverse).length = j := by rw [asI_len]; simpa using hj'
    have hP' : (asI S.reverse ++ [(y : Int)]).length = j + 1 := by rw [List.length_append, hP]; rfl
    have eL' : asI S.reverse ++ (y : Int) :: (x : Int) :: asI B = (asI S.reverse ++ [(y : Int)]) ++ (x : Int) :: asI B := by simp
    have g0 : (asI S.reverse ++ (y : Int) :: (x : Int) :: asI B)[j]? = some (y : Int) := by
      have := get_at (asI S.reverse) (y : Int) ((x : Int) :: asI B); rwa [hP] at this
    have g1 : (asI S.reverse ++ (y : Int) :: (x : Int) :: asI B)[j + 1]? = some (x : Int) := by
      have := get_at (asI S.reverse ++ [(y : Int)]) (x : Int) (asI B); rw [hP'] at this; rw [eL']; exact this
    have s1 : (asI S.reverse ++ (y : Int) :: (x : Int) :: asI B).set (j + 1) (y : Int) = asI S.reverse ++ (y : Int) :: (y : Int) :: asI B := by
      have := set_at (asI S.reverse ++ [(y : Int)]) (x : Int) (y : Int) (asI B); rw [hP'] at this; rw [eL', this]; simp
    have s0 : (asI S.reverse ++ (y : Int) :: (y : Int) :: asI B).set j (x : Int) = asI S.reverse ++ (x : Int) :: (y : Int) :: asI B := by
      have := set_at (asI S.reverse) (y : Int) (x : Int) ((y : Int) :: asI B); rwa [hP] at this
    have ln : (asI S.reverse ++ (y : Int) :: (x : Int) :: asI B).length = j + 1 + 1 + B.length := by simp [asI_len, hj']; omega
    have ln2 : (asI S.reverse ++ (y : Int) :: (y : Int) :: asI B).length = j + 1 + 1 + B.length := by simp [asI_len, hj']; omega
    rw [eL, hg, hw]
    simp only [cond_true, Int.toNat_natCast]
    rw [asrtP (fun _ => rng (by rw [ln]; omega)), g1]
    simp only [Option.bind_some]
    rw [asrtP (fun _ => rng (by rw [ln]; omega)), g0]
    simp only [Option.bind_some]
    have p1 := h.prod x
    have p2 := h.prod y
    rw [gix hy, gix hx]
    simp only [Option.bind_some]
    rw [asrtP (fun _ => by have := h.t0; simp; omega), asrtP (fun _ => by have := h.t0; simp; omega), wrapI (x := gI l y * m) (by omega) (by omega), wrapI (x := gI l x * m) (by omega) (by omega), tmod_pos _ p1.1, tmod_pos _ p2.1]
    obtain ⟨c, e1, e2⟩ := m34_lt (gI l y * m % t) (gI l x * m % t)
    rw [e1]
    simp only [Option.bind_some]
    rw [e2, show decide (((j + 1 : Nat) : Int) > 0) = true by simp]
    show (bif true && decide (rem l t m y < rem l t m x) then _ else _) = _
    by_cases c : rem l t m y < rem l t m x
    · rw [decide_eq_true c]
      simp only [Bool.and_self, cond_true, Int.toNat_natCast, g0, g1, Option.bind_some, s1]
      rw [asrtP (fun _ => rng (by rw [ln]; omega)), asrtP (fun _ => rng (by rw [ln]; omega)), asrtP (fun _ => rng (by rw [ln]; omega)), asrtP (fun _ => rng (by rw [ln2]; omega))]
      have g2 : (asI S.reverse ++ (y : Int) :: (y : Int) :: asI B)[j]? = some (y : Int) := by
        have := get_at (asI S.reverse) (y : Int) ((y : Int) :: asI B); rwa [hP] at this
      simp only [g2, Option.bind_some, s0]
      have ih := l21_3_eq h k S x (y :: B) n j hj' (by omega) (fun i hi => hS i (List.mem_cons_of_mem _ hi)) hx (by simp; omega)
      have eI : asI (S.reverse ++ x :: y :: B) = asI S.reverse ++ (x : Int) :: (y : Int) :: asI B := by simp [asI]
      rw [eI] at ih
      rw [ih]
      have ei : insR (rem l t m) (y :: S) x = y :: insR (rem l t m) S x := by
        show (if _ then _ else _) = _
        rw [if_pos c]
      rw [ei]
      simp
    · rw [decide_eq_false c]
      simp only [Bool.and_false, cond_false]
      have ei : insR (rem l t m) (y :: S) x = x :: y :: S := by
        show (if _ then _ else _) = _
        rw [if_neg c]
      rw [ei, ← eL]
      simp

theorem l21_4_eq {R : Type} {l : List Int} {t m : Int} (h : Sh l t m) (k : List Int → Option R) : ∀ (X S : List Nat) (n i : Nat), S.length = i → i + X.length = l.length → X.length < n → (∀ i ∈ S, i < l.length) → (∀ i ∈ X, i < l.length) →
    l21_4 0 (l.length : Int) l t m k n (i : Int) (asI (S.reverse ++ X)) = k (asI (X.foldl (insR (rem l t m)) S).reverse)
  | [], S, n + 1, i, hi, hl, hn, hS, hX => by
    have : i = l.length := by simpa using hl
    rw [this]
    show s21_4 _ _ _ _ _ _ _ _ _ = _
    unfold s21_4
    rw [bifF (lt0 _)]
    simp
  | x :: X, S, n + 1, i, hi, hl, hn, hS, hX => by
    have h15 := h.n
    have hl' : i + X.length + 1 = l.length := by simp at hl; omega
    have hx := hX x (List.mem_cons_self ..)
    show s21_4 _ _ _ _ _ _ _ _ _ = _
    unfold s21_4
    rw [bifT (lt1 (by omega)), wrapI (x := (i : Int) + 1) (by omega) (by omega)]
    rw [l21_3_eq h _ S x X FUEL i hi (fuel_lt (by omega)) hS hx (by omega)]
    have hp := insR_perm (rem l t m) S x
    have ih := l21_4_eq h k X (insR (rem l t m) S x) n (i + 1) (by rw [hp.length_eq, List.length_cons, hi]) (by omega) (by simp at hn; omega) (fun a ha => by
      rcases List.mem_cons.1 (hp.mem_iff.1 ha) with q | q
      · rw [q]; exact hx
      · exact hS a q) (fun a ha => hX a (List.mem_cons_of_mem _ ha))
    exact ih

theorem asI_range (n : Nat) : tab n (fun i => (i : Int)) = asI (List.range n) := rfl

theorem bump_len (is : List Nat) : ∀ o : List Int, (bump o is).length = o.length := by
  induction is with
  | nil => intro o; rfl
  | cons i is ih => intro o; show (bump (o.set i _) is).length = _; rw [ih, List.length_set]

theorem bump_snoc (o : List Int) (is : List Nat) (i : Nat) : bump o (is ++ [i]) = (bump o is).set i (gI (bump o is) i + 1) := by
  unfold bump
  rw [List.foldl_append]
  rfl

theorem bump_b (o : List Int) : ∀ (is : List Nat), (∀ i ∈ is, i < o.length) → ∀ j, gI o j ≤ gI (bump o is) j ∧ gI (bump o is) j ≤ gI o j + is.length := by
  intro is
  induction is generalizing o with
  | nil => intro _ j; exact ⟨Int.le_refl _, by show gI o j ≤ gI o j + 0; omega⟩
  | cons i is ih =>
    intro h j
    have h1 := h i (List.mem_cons_self ..)
    have := ih (o.set i (gI o i + 1)) (fun a ha => by rw [List.length_set]; exact h a (List.mem_cons_of_mem _ ha)) j
    rw [gI_set h1] at this
    show _ ≤ gI (bump (o.set i _) is) j ∧ gI (bump (o.set i _) is) j ≤ _
    rw [List.length_cons]
    by_cases e : j = i
    · subst e
      rw [if_pos rfl] at this
      omega
    · rw [if_neg e] at this
      omega

theorem l21_8_eq {R : Type} (out : List Int) (o : List Nat) (q : Nat) (hq : q ≤ o.length) (h100 : o.length ≤ 100) (ho : ∀ i ∈ o, i < out.length) (hb : ∀ i, 0 ≤ gI out i ∧ gI out i ≤ 1000000000000000000) (k : List Int → Option R) :
    l21_8 0 q (q : Int) (asI o) k FUEL 0 out = k (bump out (o.take q)) := by
  refine seq_loop q (fun j => bump out (o.take j)) (fun n j s => l21_8 0 q (q : Int) (asI o) k n j s) k (by omega) (fun m j hj => ?_) (fun m => ?_)
  · show s21_8 _ _ _ _ _ _ _ _ = _
    unfold s21_8
    have hlt : j < o.length := by omega
    have hoj := ho _ (List.getElem_mem hlt)
    have eo : (asI o)[0 + j]? = some (o[j] : Int) := by
      rw [Nat.zero_add]; unfold asI; rw [List.getElem?_map, List.getElem?_eq_getElem hlt]; rfl
    have hb1 := bump_b out (o.take j) (fun i hi => ho i (List.mem_of_mem_take hi)) o[j]
    have hb2 := hb o[j]
    have hl : (o.take j).length ≤ 100 := by rw [List.length_take]; omega
    rw [bifT (lt1 hj), asrtP (fun _ => rng hj), Int.toNat_natCast, eo, wrapI (x := (j : Int) + 1) (by omega) (by omega)]
    simp only [Option.bind_some, Int.toNat_natCast]
    rw [asrtP (fun _ => rng (by rw [bump_len]; exact hoj)), gI_get (by rw [bump_len]; exact hoj)]
    simp only [Option.bind_some]
    rw [asrtP (fun _ => rng (by rw [bump_len]; exact hoj)), wrapI (x := gI (bump out (o.take j)) o[j] + 1) (by omega) (by omega), List.take_succ_eq_append_getElem hlt, bump_snoc]
  · show s21_8 _ _ _ _ _ _ _ _ = _
    unfold s21_8
    rw [bifF (lt0 _)]

theorem limN {n : Nat} (h : n ≤ 10000) : (decide (0 ≤ (n : Int)) && decide ((n : Int) ≤ (n : Int)) && decide ((n : Int) ≤ (LIM : Int))) = true := by
  have : (n : Int) ≤ (LIM : Int) := by
    have : n ≤ LIM := Nat.le_trans h (by decide)
    omega
  simp [this]

theorem Sh.part {l : List Int} {t m : Int} (h : Sh l t m) {j : Nat} (hj : j ≤ l.length) : 0 ≤ sumN (flo l t m) j ∧ sumN (flo l t m) j ≤ m := by
  have hle := h.left_b.1
  unfold lef at hle
  refine ⟨sumN_nonneg fun i _ => (h.flo_b i).1, ?_⟩
  have hsp := sumN_split (flo l t m) j l.length hj
  have : 0 ≤ sumN (fun i => if j ≤ i then flo l t m i else 0) l.length := sumN_nonneg fun i _ => by
    split
    · exact (h.flo_b i).1
    · exact Int.le_refl 0
  omega

theorem l21_1_eq {R : Type} {l : List Int} {t m : Int} (h : Sh l t m) (k : List Int → List Int → Option R) :
    l21_1 l (l.length : Int) t m k FUEL 0 (tab l.length fun _ => 0) (tab l.length fun _ => 0) = k (tab l.length (flo l t m)) (asI (List.range l.length)) := by
  have h15 := h.n
  have ht := h.t0
  have e1 : tab l.length (fun i => if i < l.length then flo l t m i else 0) = tab l.length (flo l t m) := by
    unfold tab
    apply List.map_congr_left
    intro i hi
    rw [if_pos (List.mem_range.1 hi)]
  have e2 : tab l.length (fun i => if i < l.length then (i : Int) else 0) = asI (List.range l.length) := by
    unfold tab asI
    apply List.map_congr_left
    intro i hi
    rw [if_pos (List.mem_range.1 hi)]
  rw [← e1, ← e2]
  refine seq_loop l.length (fun j => (tab l.length (fun i => if i < j then flo l t m i else 0), tab l.length (fun i => if i < j then (i : Int) else 0)))
    (fun n j s => l21_1 l (l.length : Int) t m k n j s.1 s.2) (fun s => k s.1 s.2) (by omega) (fun n j hj => ?_) (fun n => ?_)
  · show s21_1 _ _ _ _ _ _ _ _ _ = _
    unfold s21_1
    have hp := h.prod j
    have hf := h.flo_b j
    rw [bifT (lt1 hj), gix hj, wrapI (x := (j : Int) + 1) (by omega) (by omega)]
    simp only [Option.bind_some]
    rw [asrtP (fun _ => by simp; omega), asrtP (fun _ => rng (by rw [tab_len]; exact hj)), asrtP (fun _ => rng (by rw [tab_len]; exact hj)), Int.toNat_natCast, gI_get (by rw [tab_len]; exact hj), gI_get (by rw [tab_len]; exact hj)]
    simp only [Option.bind_some]
    rw [wrapI (x := gI l j * m) (by omega) (by omega), tdiv_pos _ hp.1]
    have : IntKind.i64.wrap (gI l j * m / t) = flo l t m j := wrapI (x := flo l t m j) (by omega) (by omega)
    rw [this, tab_set hj _ (fun i => if i < j + 1 then flo l t m i else 0) _ (fun i _ hne => by
      by_cases c : i < j
      · rw [if_pos c, if_pos (by omega)]
      · rw [if_neg c, if_neg (by omega)]) (if_pos (by omega)), tab_set hj _ (fun i => if i < j + 1 then (i : Int) else 0) _ (fun i _ hne => by
      by_cases c : i < j
      · rw [if_pos c, if_pos (by omega)]
      · rw [if_neg c, if_neg (by omega)]) (if_pos (by omega))]
  · show s21_1 _ _ _ _ _ _ _ _ _ = _
    unfold s21_1
    rw [bifF (lt0 _)]

theorem l21_2_eq {R : Type} {l : List Int} {t m : Int} (h : Sh l t m) (k : Int → Option R) :
    l21_2 (l.length : Int) (tab l.length (flo l t m)) k FUEL m 0 = k (lef l t m) := by
  have h15 := h.n
  have := seq_loop l.length (fun j => m - sumN (flo l t m) j) (fun n j s => l21_2 (l.length : Int) (tab l.length (flo l t m)) k n s j) k (by omega) (fun n j hj => by
    show s21_2 _ _ _ _ _ _ = _
    unfold s21_2
    have hb := h.part (j := j) (by omega)
    have hb2 := h.part (j := j + 1) (by omega)
    simp only [sumN] at hb2 ⊢
    have hf := h.flo_b j
    have hm := h.m1
    rw [bifT (lt1 hj), asrtP (fun _ => rng (by rw [tab_len]; exact hj)), Int.toNat_natCast, gI_get (by rw [tab_len]; exact hj), tab_gI hj, wrapI (x := (j : Int) + 1) (by omega) (by omega)]
    simp only [Option.bind_some]
    rw [wrapI (x := m - _ - _) (by omega) (by omega), Int.sub_sub]) (fun n => by
    show s21_2 _ _ _ _ _ _ = _
    unfold s21_2
    rw [bifF (lt0 _)])
  simp only [sumN, Int.sub_zero] at this
  exact this

theorem srt_eq {R : Type} {l : List Int} {t m : Int} (h : Sh l t m) (k : List Int → Option R) :
    l21_4 0 (l.length : Int) l t m k FUEL (IntKind.i64.wrap (0 + 1)) (asI (List.range l.length)) = k (asI (ordL (rem l t m) l.length)) := by
  have h15 := h.n
  by_cases hl0 : l.length = 0
  · obtain ⟨n, e⟩ := fuel_s 1 (by decide)
    rw [e, hl0]
    show s21_4 _ _ _ _ _ _ _ _ _ = _
    unfold s21_4
    rw [bifF (by decide)]
    rfl
  · obtain ⟨p, hp⟩ : ∃ p, l.length = p + 1 := ⟨l.length - 1, by omega⟩
    have er : List.range l.length = 0 :: (List.range p).map Nat.succ := by rw [hp, List.range_succ_eq_map]
    have := l21_4_eq h k ((List.range p).map Nat.succ) [0] FUEL 1 rfl (by simp; omega) (fuel_lt (by simp; omega)) (fun i hi => by
      have : i = 0 := by simpa using hi
      omega) (fun i hi => by
      obtain ⟨a, ha, rfl⟩ := List.mem_map.1 hi
      have := List.mem_range.1 ha
      omega)
    have ew : IntKind.i64.wrap (0 + 1) = ((1 : Nat) : Int) := by decide
    have el : asI (List.range l.length) = asI ([0].reverse ++ (List.range p).map Nat.succ) := by rw [er]; rfl
    rw [ew, el, this]
    unfold ordL
    rw [er]
    rfl

theorem m21_eq {l : List Int} {t m : Int} (h : Sh l t m) : m21 l t m = some (shareS l t m) := by
  have h15 := h.n
  have ht := h.t0
  unfold m21
  rw [asrtP (fun _ => limN (by omega)), asrtP (fun _ => limN (by omega)), Int.toNat_natCast, tab_rep, l21_1_eq h, tab_len, asI_len, List.length_range, l21_2_eq h]
  -- no blocks
  have e3 : ∀ (k : Int → List Int → Option (List Int)) (o : List Int), l21_5 (l.length : Int) 20 l t m k FUEL 0 20 o = k 0 o := by
    intro k o
    obtain ⟨n, e⟩ := fuel_s 1 (by decide)
    rw [e]
    show s21_5 _ _ _ _ _ _ _ _ _ _ = _
    unfold s21_5
    rw [bifF (decide_eq_false (by omega))]
  have e4 : ∀ (k : Option (List Int)), l21_7 (l.length : Int) k FUEL 20 = k := by
    intro k
    obtain ⟨n, e⟩ := fuel_s 1 (by decide)
    rw [e]
    show s21_7 _ _ _ _ = _
    unfold s21_7
    rw [bifF (decide_eq_false (by omega))]
  rw [e3]
  simp only [e4]
  have hlb := h.left_b
  rw [srt_eq h]
  have hn : ((lef l t m).toNat : Int) = lef l t m := Int.toNat_of_nonneg hlb.1
  rw [asrtP (fun _ => by unfold bounds; rw [asI_len, ordL_len]; simp; omega)]
  refine Eq.trans (l21_8_eq (tab l.length (flo l t m)) (ordL (rem l t m) l.length) (lef l t m).toNat (by rw [ordL_len]; omega) (by rw [ordL_len]; omega) (fun i hi => by rw [tab_len]; exact ordL_mem.1 hi) (fun i => ?_) _) rfl
  by_cases c : i < l.length
  · rw [tab_gI c]; exact h.flo_b i
  · unfold gI; rw [List.getD_eq_getElem?_getD, List.getElem?_eq_none (by rw [tab_len]; omega)]; simp

end Go.Proofs.Ytidlfemliaepjaa
