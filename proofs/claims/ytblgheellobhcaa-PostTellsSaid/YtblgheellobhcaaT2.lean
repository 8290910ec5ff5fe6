/- Post: what a way is, and what the functions return. -/
import Derived.Test.YtblgheellobhcaaM
namespace Go.Proofs.Ytblgheellobhcaa
open Go Go.Eng
set_option linter.unusedVariables false
set_option linter.unusedSimpArgs false

/-- A loop that passes a list's places with a state. -/
theorem seq_loop {R S : Type} (n : Nat) (F : Nat → S) (f : Nat → Int → S → Option R) (k : S → Option R) (hn : n ≤ 1000000)
    (hs : ∀ m j, j < n → f (m + 1) (j : Int) (F j) = f m ((j : Int) + 1) (F (j + 1))) (he : ∀ m, f (m + 1) (n : Int) (F n) = k (F n)) :
    f FUEL 0 (F 0) = k (F n) := by
  have key : ∀ (i m j : Nat), j + i = n → i < m → f m (j : Int) (F j) = k (F n) := by
    intro i
    induction i with
    | zero =>
      intro m j hj hm
      obtain ⟨m, rfl⟩ : ∃ a, m = a + 1 := ⟨m - 1, by omega⟩
      have : j = n := by omega
      subst this
      exact he m
    | succ i ih =>
      intro m j hj hm
      obtain ⟨m, rfl⟩ : ∃ a, m = a + 1 := ⟨m - 1, by omega⟩
      rw [hs m j (by omega)]
      exact ih m (j + 1) (by omega) (by omega)
  exact key n FUEL 0 (by omega) (fuel_lt (by omega))

/-- A loop that checks something of each place, with a state. -/
theorem chk_loop {R S : Type} (n : Nat) (F : Nat → S) (p : Nat → Bool) (f : Nat → Int → S → Option R) (k1 k2 : Option R) (hn : n ≤ 1000000)
    (hs : ∀ m j, j < n → (∀ i, i < j → p i = true) → f (m + 1) (j : Int) (F j) = bif p j then f m ((j : Int) + 1) (F (j + 1)) else k2) (he : (∀ i, i < n → p i = true) → ∀ m, f (m + 1) (n : Int) (F n) = k1) :
    f FUEL 0 (F 0) = if ∀ i, i < n → p i = true then k1 else k2 := by
  have key : ∀ (i m j : Nat), j + i = n → i < m → (∀ i, i < j → p i = true) → f m (j : Int) (F j) = if ∀ i, i < n → p i = true then k1 else k2 := by
    intro i
    induction i with
    | zero =>
      intro m j hj hm hb
      obtain ⟨m, rfl⟩ : ∃ a, m = a + 1 := ⟨m - 1, by omega⟩
      have : j = n := by omega
      subst this
      rw [he hb m, if_pos hb]
    | succ i ih =>
      intro m j hj hm hb
      obtain ⟨m, rfl⟩ : ∃ a, m = a + 1 := ⟨m - 1, by omega⟩
      rw [hs m j (by omega) hb]
      cases hp : p j with
      | true =>
        refine ih m (j + 1) (by omega) (by omega) (fun i hi => ?_)
        by_cases e : i = j
        · subst e; exact hp
        · exact hb i (by omega)
      | false =>
        rw [if_neg]
        · rfl
        · intro h
          rw [h j (by omega)] at hp; cases hp
  exact key n FUEL 0 (by omega) (fuel_lt (by omega)) (fun i hi => absurd hi (Nat.not_lt_zero i))

theorem lt1 {a b : Nat} (h : a < b) : decide ((a : Int) < (b : Int)) = true := decide_eq_true (by omega)
theorem lt0 (a : Nat) : decide ((a : Int) < (a : Int)) = false := decide_eq_false (by omega)
theorem rng {a b : Nat} (h : a < b) : (decide (0 ≤ (a : Int)) && decide ((a : Int) < (b : Int))) = true := by simp; omega

/-- How many messages have arrived in order. -/
def nx : List Bool → Nat
  | true :: l => nx l + 1
  | _ => 0
def isH (H : List Bool) (i : Nat) : Bool := H.getD i false
/-- The numbers from c on of which something holds. -/
def sel (p : Nat → Bool) (n : Nat) : List Int := ((List.range n).filter p).map fun (i : Nat) => (i : Int)
def eaC (H : List Bool) (c : Nat) : List Int := sel (fun i => decide (c ≤ i) && isH H i) H.length
def ea (H : List Bool) : List Int := eaC H (nx H)
def ag (H : List Bool) : List Int := sel (fun i => !isH H i) H.length
/-- The way of which some messages have arrived. -/
def enc (S : List T35) (H : List Bool) : T26 := (S, (nx H : Int), ea H, ())

theorem isH_lt {H : List Bool} {i : Nat} (h : isH H i = true) : i < H.length := by
  rcases Nat.lt_or_ge i H.length with c | c
  · exact c
  · simp [isH, c] at h
theorem isH_get {H : List Bool} {i : Nat} (h : i < H.length) : H[i]? = some (isH H i) := by
  simp [isH, h]
theorem isH_set {H : List Bool} {q : Nat} (hq : q < H.length) (i : Nat) : isH (H.set q true) i = if i = q then true else isH H i := by
  simp only [isH, List.getD_eq_getElem?_getD, List.getElem?_set]
  by_cases e : q = i
  · subst e; simp [hq]
  · rw [if_neg e, if_neg (fun h => e h.symm)]
theorem nx_le (H : List Bool) : nx H ≤ H.length := by
  induction H with
  | nil => simp [nx]
  | cons b H ih => cases b <;> simp [nx]; omega
theorem nx_here : ∀ (H : List Bool) (i : Nat), i < nx H → isH H i = true
  | [], i, h => by simp [nx] at h
  | false :: H, i, h => by simp [nx] at h
  | true :: H, 0, h => by simp [isH]
  | true :: H, i + 1, h => by
    have := nx_here H i (by simp only [nx] at h; omega)
    simpa [isH] using this
theorem nx_not : ∀ (H : List Bool), isH H (nx H) = false
  | [] => by simp [isH]
  | false :: H => by simp [isH, nx]
  | true :: H => by
    have := nx_not H
    simpa [isH, nx] using this
theorem nx_of {H : List Bool} {c : Nat} (h1 : ∀ i, i < c → isH H i = true) (h2 : isH H c = false) : nx H = c := by
  rcases Nat.lt_trichotomy (nx H) c with h | h | h
  · have := h1 _ h
    rw [nx_not H] at this; cases this
  · exact h
  · rw [nx_here H c h] at h2; cases h2

theorem sel_mem {p : Nat → Bool} {n : Nat} {x : Int} : x ∈ sel p n ↔ ∃ i : Nat, x = i ∧ i < n ∧ p i = true := by
  simp only [sel, List.mem_map, List.mem_filter, List.mem_range]
  constructor
  · rintro ⟨i, ⟨h1, h2⟩, rfl⟩; exact ⟨i, rfl, h1, h2⟩
  · rintro ⟨i, rfl, h1, h2⟩; exact ⟨i, ⟨h1, h2⟩, rfl⟩
theorem sel_asc (p : Nat → Bool) (n : Nat) : (sel p n).Pairwise (· < ·) := by
  unfold sel
  rw [List.pairwise_map]
  refine List.Pairwise.imp (fun h => ?_) (List.Pairwise.filter _ List.pairwise_lt_range)
  omega
theorem sel_succ (p : Nat → Bool) (n : Nat) : sel p (n + 1) = sel p n ++ (bif p n then [(n : Int)] else []) := by
  unfold sel
  rw [List.range_succ, List.filter_append, List.map_append]
  congr 1
  cases h : p n <;> simp [h]
theorem sel_len (p : Nat → Bool) (n : Nat) : (sel p n).length ≤ n := by
  unfold sel
  rw [List.length_map]
  exact Nat.le_trans (List.length_filter_le _ _) (by simp)
theorem sel_none {p : Nat → Bool} : ∀ {n : Nat}, (∀ i, i < n → p i = false) → sel p n = []
  | 0, _ => by simp [sel]
  | n + 1, h => by rw [sel_succ, sel_none (fun i hi => h i (by omega)), h n (by omega)]; rfl
theorem sel_congr {p q : Nat → Bool} : ∀ {n : Nat}, (∀ i, i < n → p i = q i) → sel p n = sel q n
  | 0, _ => by simp [sel]
  | n + 1, h => by rw [sel_succ, sel_succ, sel_congr (fun i hi => h i (by omega)), h n (by omega)]

/-- Ascending lists with the same members are the same. -/
theorem asc_ext : ∀ {a b : List Int}, a.Pairwise (· < ·) → b.Pairwise (· < ·) → (∀ x, x ∈ a ↔ x ∈ b) → a = b
  | [], [], _, _, _ => rfl
  | [], y :: b, _, _, h => absurd ((h y).2 (by simp)) (by simp)
  | x :: a, [], _, _, h => absurd ((h x).1 (by simp)) (by simp)
  | x :: a, y :: b, ha, hb, h => by
    rw [List.pairwise_cons] at ha hb
    have e : x = y := by
      have h1 := (h x).1 (by simp)
      have h2 := (h y).2 (by simp)
      simp only [List.mem_cons] at h1 h2
      rcases h1 with h1 | h1
      · exact h1
      · rcases h2 with h2 | h2
        · exact h2.symm
        · have := ha.1 y h2
          have := hb.1 x h1
          omega
    subst e
    rw [asc_ext ha.2 hb.2 (fun z => ?_)]
    have := h z
    simp only [List.mem_cons] at this
    constructor
    · intro hz
      rcases this.1 (.inr hz) with e | e
      · subst e; have := ha.1 z hz; omega
      · exact e
    · intro hz
      rcases this.2 (.inr hz) with e | e
      · subst e; have := hb.1 z hz; omega
      · exact e

theorem eaC_mem {H : List Bool} {c : Nat} {x : Int} : x ∈ eaC H c ↔ ∃ i : Nat, x = i ∧ c ≤ i ∧ isH H i = true := by
  unfold eaC
  rw [sel_mem]
  constructor
  · rintro ⟨i, rfl, h1, h2⟩
    simp only [Bool.and_eq_true, decide_eq_true_eq] at h2
    exact ⟨i, rfl, h2⟩
  · rintro ⟨i, rfl, h1, h2⟩
    exact ⟨i, rfl, isH_lt h2, by simp [h1, h2]⟩
theorem eaC_asc (H : List Bool) (c : Nat) : (eaC H c).Pairwise (· < ·) := sel_asc _ _
theorem eaC_len (H : List Bool) (c : Nat) : (eaC H c).length ≤ H.length := sel_len _ _
theorem eaC_yes {H : List Bool} {c : Nat} (h : isH H c = true) : eaC H c = (c : Int) :: eaC H (c + 1) := by
  refine asc_ext (eaC_asc _ _) (List.pairwise_cons.2 ⟨fun x hx => ?_, eaC_asc _ _⟩) (fun x => ?_)
  · obtain ⟨i, rfl, h1, _⟩ := eaC_mem.1 hx
    omega
  · rw [List.mem_cons, eaC_mem, eaC_mem]
    constructor
    · rintro ⟨i, rfl, h1, h2⟩
      rcases Nat.eq_or_lt_of_le h1 with e | e
      · exact .inl (by omega)
      · exact .inr ⟨i, rfl, e, h2⟩
    · rintro (rfl | ⟨i, rfl, h1, h2⟩)
      · exact ⟨c, rfl, Nat.le_refl _, h⟩
      · exact ⟨i, rfl, by omega, h2⟩
theorem eaC_no {H : List Bool} {c : Nat} (h : isH H c = false) : eaC H c = eaC H (c + 1) := by
  refine asc_ext (eaC_asc _ _) (eaC_asc _ _) (fun x => ?_)
  rw [eaC_mem, eaC_mem]
  constructor
  · rintro ⟨i, rfl, h1, h2⟩
    rcases Nat.eq_or_lt_of_le h1 with e | e
    · subst e; rw [h] at h2; cases h2
    · exact ⟨i, rfl, e, h2⟩
  · rintro ⟨i, rfl, h1, h2⟩
    exact ⟨i, rfl, by omega, h2⟩
theorem eaC_set {H : List Bool} {q c : Nat} (hq : q < H.length) (h : q < c) : eaC (H.set q true) c = eaC H c := by
  refine asc_ext (eaC_asc _ _) (eaC_asc _ _) (fun x => ?_)
  rw [eaC_mem, eaC_mem]
  constructor
  · rintro ⟨i, rfl, h1, h2⟩
    rw [isH_set hq, if_neg (by omega)] at h2
    exact ⟨i, rfl, h1, h2⟩
  · rintro ⟨i, rfl, h1, h2⟩
    exact ⟨i, rfl, h1, by rw [isH_set hq, if_neg (by omega)]; exact h2⟩

/-- What is right about the numbers of early messages, from one on. -/
def rightB (len : Int) : Int → List Int → Bool
  | _, [] => true
  | last, x :: l => !(decide (x ≤ last) || decide (x ≥ len)) && rightB len x l
theorem rightB_iff (len : Int) : ∀ (last : Int) (l : List Int), rightB len last l = true ↔ (∀ x ∈ l, last < x ∧ x < len) ∧ l.Pairwise (· < ·)
  | last, [] => by simp [rightB]
  | last, x :: l => by
    simp only [rightB, Bool.and_eq_true, Bool.not_eq_true', Bool.or_eq_false_iff, decide_eq_false_iff_not, rightB_iff len x l, List.mem_cons, forall_eq_or_imp, List.pairwise_cons]
    constructor
    · rintro ⟨⟨h1, h2⟩, h3, h4⟩
      exact ⟨⟨by omega, fun y hy => ⟨by have := (h3 y hy).1; omega, (h3 y hy).2⟩⟩, fun y hy => (h3 y hy).1, h4⟩
    · rintro ⟨⟨h1, h2⟩, h3, h4⟩
      exact ⟨⟨by omega, by omega⟩, fun y hy => ⟨h3 y hy, (h2 y hy).2⟩, h4⟩

def preB (w : T26) : Bool := !(((decide ((List.length w.1 : Int) > 10000)) || (decide (w.2.1 < 0))) || (decide (w.2.1 > (List.length w.1 : Int))))
def rightW (w : T26) : Bool := preB w && rightB (List.length w.1 : Int) w.2.1 w.2.2.1

theorem l9_eq {R : Type} (l : List Int) (hl : l.length < 4294967296) (o : T26) (k1 k2 : Option R) : ∀ (n j : Nat) (last : Int), j ≤ l.length → l.length - j < n →
    l9_1 l (l.length : Int) o k1 k2 n last (j : Int) = bif rightB (List.length o.1 : Int) last (l.drop j) then k1 else k2
  | 0, j, last, _, h => by omega
  | n + 1, j, last, hj, hn => by
    unfold l9_1 s9_1
    rcases Nat.lt_or_ge j l.length with c | c
    · rw [bifT (lt1 c), idx_nat, List.getElem?_eq_getElem c, List.drop_eq_getElem_cons c]
      simp only [Option.bind_some, rightB]
      rw [wrapI (x := (j : Int) + 1) (by omega) (by omega)]
      have := l9_eq l hl o k1 k2 n (j + 1) l[j] (by omega) (by omega)
      rw [Int.natCast_add, Int.natCast_one] at this
      rw [this]
      cases (decide (l[j] ≤ last) || decide (l[j] ≥ (List.length o.1 : Int))) <;> rfl
    · have : j = l.length := by omega
      subst this
      rw [bifF (lt0 _), List.drop_length]
      rfl

theorem m9_eq (w : T26) (h : List.length w.2.2.1 < 4294967296) : m9 w = some (rightW w) := by
  unfold m9 rightW preB
  have := l9_eq w.2.2.1 h w (some true) (some false) FUEL 0 w.2.1 (Nat.zero_le _) (fuel_lt (by omega))
  rw [Int.natCast_zero] at this
  rw [this, List.drop_zero]
  cases (((decide ((List.length w.1 : Int) > 10000)) || (decide (w.2.1 < 0))) || (decide (w.2.1 > (List.length w.1 : Int)))) <;> cases rightB (List.length w.1 : Int) w.2.1 w.2.2.1 <;> rfl

theorem right_enc {S : List T35} {H : List Bool} (h : H.length = S.length) (h2 : S.length ≤ 10000) : rightW (enc S H) = true := by
  have h3 := nx_le H
  have a1 : preB (enc S H) = true := by
    simp only [preB, enc, Bool.not_eq_true', Bool.or_eq_false_iff, decide_eq_false_iff_not]
    rw [h] at h3
    refine ⟨⟨?_, ?_⟩, ?_⟩
    · exact decide_eq_false (by omega)
    · exact decide_eq_false (by omega)
    · exact decide_eq_false (by omega)
  have a2 : rightB (List.length (enc S H).1 : Int) (enc S H).2.1 (enc S H).2.2.1 = true := by
    rw [rightB_iff]
    refine ⟨fun x hx => ?_, eaC_asc _ _⟩
    obtain ⟨i, rfl, i1, i2⟩ := eaC_mem.1 hx
    have := isH_lt i2
    have hne : i ≠ nx H := fun e => by subst e; rw [nx_not] at i2; cases i2
    simp only [enc]
    constructor <;> omega
  rw [rightW, a1, a2]; rfl

theorem m9_enc {S : List T35} {H : List Bool} (h : H.length = S.length) (h2 : S.length ≤ 10000) : m9 (enc S H) = some true := by
  rw [m9_eq _ (by have := eaC_len H (nx H); show (ea H).length < _; unfold ea; omega), right_enc h h2]

/-- A right way is one of which some messages have arrived. -/
theorem enc_of {w : T26} (h : rightW w = true) {H : List Bool} (hl : H.length = List.length w.1) (hH : ∀ i : Nat, isH H i = true ↔ ((i : Int) < w.2.1 ∨ (i : Int) ∈ w.2.2.1)) : w = enc w.1 H := by
  unfold rightW at h
  rw [Bool.and_eq_true, rightB_iff] at h
  obtain ⟨h1, h2, h3⟩ := h
  simp only [preB, Bool.not_eq_true', Bool.or_eq_false_iff, decide_eq_false_iff_not] at h1
  obtain ⟨S, n, e, u⟩ := w
  simp only at *
  obtain ⟨m, rfl⟩ : ∃ m : Nat, n = m := ⟨n.toNat, by omega⟩
  have hn : nx H = m := nx_of (fun i hi => (hH i).2 (.inl (by omega))) (by
    cases hb : isH H m with
    | false => rfl
    | true =>
      rcases (hH m).1 hb with c | c
      · omega
      · have := (h2 _ c).1; omega)
  have he : e = ea H := by
    refine asc_ext h3 (eaC_asc _ _) (fun x => ?_)
    unfold ea
    rw [eaC_mem, hn]
    constructor
    · intro hx
      have := h2 x hx
      obtain ⟨i, rfl⟩ : ∃ i : Nat, x = i := ⟨x.toNat, by omega⟩
      exact ⟨i, rfl, by omega, (hH i).2 (.inr hx)⟩
    · rintro ⟨i, rfl, i1, i2⟩
      rcases (hH i).1 i2 with c | c
      · omega
      · exact c
  unfold enc
  rw [hn, ← he]

theorem m27_eq (a b : Int) : m27 a b = some (decide (a < b)) := by
  unfold m27 m31
  simp
theorem m28_eq (a : Int) : m28 a = some false := by
  unfold m28
  simp
theorem half (i j : Nat) (h : i < j) (hj : j ≤ 1000000) : IntKind.i64.wrap (shr2 (IntKind.u64.wrap (IntKind.i64.wrap ((i : Int) + (j : Int)))) 1) = (((i + j) / 2 : Nat) : Int) := by
  rw [wrapI (x := (i : Int) + j) (by omega) (by omega)]
  have e : IntKind.u64.wrap ((i : Int) + j) = (i : Int) + j := by rw [IntKind.wrap_u64]; omega
  rw [e]
  unfold shr2
  have e2 : ((i : Int) + (j : Int)).fdiv (2 ^ 1) = (((i + j) / 2 : Nat) : Int) := by
    rw [Int.fdiv_eq_ediv_of_nonneg _ (by decide)]
    omega
  rw [e2, wrapI (by omega) (by omega)]

theorem asc_gI {l : List Int} (hA : l.Pairwise (· < ·)) {i j : Nat} (h : i < j) (hj : j < l.length) : gI l i < gI l j := by
  have := List.pairwise_iff_getElem.1 hA i j (by omega) hj h
  simpa [gI, hj, show i < l.length by omega] using this

theorem l23_eq {R : Type} (l : List Int) (hl : l.length ≤ 1000000) (hA : l.Pairwise (· < ·)) (x : Int) (k : Int → Option R) : ∀ (n i j : Nat), i ≤ j → j ≤ l.length → j - i < n → (∀ q, q < i → gI l q < x) → (∀ q, j ≤ q → q < l.length → x ≤ gI l q) →
    ∃ p : Nat, p ≤ l.length ∧ (∀ q, q < p → gI l q < x) ∧ (∀ q, p ≤ q → q < l.length → x ≤ gI l q) ∧ l23_1 l x k n i j = k p
  | 0, i, j, _, _, h, _, _ => by omega
  | n + 1, i, j, hij, hj, hn, h1, h2 => by
    unfold l23_1 s23_1
    by_cases c : i < j
    · rw [bifT (decide_eq_true (by omega)), half i j c (by omega)]
      have hm : (i + j) / 2 < l.length := by omega
      rw [idx_nat, gI_get hm]
      simp only [Option.bind_some, m27_eq]
      by_cases hlt : gI l ((i + j) / 2) < x
      · rw [decide_eq_true hlt, bifT rfl, wrapI (by omega) (by omega)]
        have := l23_eq l hl hA x k n ((i + j) / 2 + 1) j (by omega) hj (by omega) (fun q hq => by
          rcases Nat.lt_or_ge q ((i + j) / 2) with c2 | c2
          · have := asc_gI hA c2 hm; omega
          · have : q = (i + j) / 2 := by omega
            subst this; exact hlt) h2
        simpa using this
      · rw [decide_eq_false hlt, bifF rfl]
        exact l23_eq l hl hA x k n i ((i + j) / 2) (by omega) (by omega) (by omega) h1 (fun q hq hq2 => by
          rcases Nat.lt_or_ge ((i + j) / 2) q with c2 | c2
          · have := asc_gI hA c2 hq2; omega
          · have : q = (i + j) / 2 := by omega
            subst this; omega)
    · have : i = j := by omega
      subst this
      rw [bifF (decide_eq_false (by omega))]
      exact ⟨i, hj, h1, h2, rfl⟩

theorem m23_eq (l : List Int) (hl : l.length ≤ 1000000) (hA : l.Pairwise (· < ·)) (x : Int) : ∃ p : Nat, p ≤ l.length ∧ (∀ q, q < p → gI l q < x) ∧ (∀ q, p ≤ q → q < l.length → x ≤ gI l q) ∧ m23 l x = some ((p : Int), decide (x ∈ l), ()) := by
  unfold m23
  obtain ⟨p, p1, p2, p3, p4⟩ := l23_eq l hl hA x (fun y3 => (idxG ((decide (y3 < (List.length l : Int))) == true) 0 l y3).bind fun x4 =>
      (idxG (((decide (y3 < (List.length l : Int))) == true) && ((x4 == x) == false)) 0 l y3).bind fun x5 =>
      (bif (((decide (y3 < (List.length l : Int))) == true) && ((x4 == x) == false)) then (m28 x5) else some false).bind fun r6 =>
      (bif ((((decide (y3 < (List.length l : Int))) == true) && ((x4 == x) == false)) && (r6 == true)) then (m28 x) else some false).bind fun r7 =>
      some ((y3, ((decide (y3 < (List.length l : Int))) && ((x4 == x) || (r6 && r7))), ()) : Int × Bool × Unit)) FUEL 0 l.length (by omega) (by omega) (fuel_lt (by omega)) (by omega) (by omega)
  simp only [Int.natCast_zero] at p4
  refine ⟨p, p1, p2, p3, ?_⟩
  rw [p4]
  have hm : x ∈ l ↔ p < l.length ∧ gI l p = x := by
    constructor
    · intro hx
      obtain ⟨i, hi, e⟩ := List.mem_iff_getElem.1 hx
      have e' : gI l i = x := by simpa [gI, hi] using e
      rcases Nat.lt_trichotomy i p with c | c | c
      · have := p2 i c; omega
      · subst c; exact ⟨hi, e'⟩
      · have := asc_gI hA c hi
        have := p3 p (by omega) (by omega)
        omega
    · rintro ⟨h1, h2⟩
      rw [← h2]
      simp [gI, h1]
  by_cases c : p < l.length
  · have ig : ∀ g : Bool, idxG g 0 l (p : Int) = some (bif g then gI l p else 0) := by
      intro g; unfold idxG; rw [idx_nat, gI_get c]; cases g <;> rfl
    rw [decide_eq_true (show (p : Int) < l.length by omega)]
    simp only [ig, Option.bind_some, beq_self_eq_true, cond_true, m28_eq, bind_guard]
    have : (gI l p == x) = decide (x ∈ l) := by
      rw [Bool.eq_iff_iff, beq_iff_eq, decide_eq_true_eq, hm]
      exact ⟨fun h => ⟨c, h⟩, fun h => h.2⟩
    rw [← this]
    simp
  · rw [decide_eq_false (show ¬ (p : Int) < l.length by omega), decide_eq_false (fun h => c (hm.1 h).1)]
    rfl

end Go.Proofs.Ytblgheellobhcaa
