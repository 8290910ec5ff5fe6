/- Fall: comparing; the small examples. -/
import Derived.Test.YtajnmcabnkidjaaT5
namespace Go.Proofs.Ytajnmcabnkidjaa
open Go Go.Eng
set_option linter.unusedVariables false
set_option linter.unusedSimpArgs false

/-- A loop that compares two lists of one length. -/
theorem cmp_loop {α R : Type} (xs ys : List α) (p : α → α → Bool) (f : Nat → Int → Option R) (k1 k2 : Option R) (hL : xs.length ≤ 1000000) (hy : xs.length = ys.length)
    (hs : ∀ (n j : Nat) (hj : j < xs.length) (hj' : j < ys.length), f (n + 1) (j : Int) = bif p xs[j] ys[j] then f n ((j : Int) + 1) else k2) (he : ∀ n, f (n + 1) (xs.length : Int) = k1) :
    f FUEL 0 = if ∀ t ∈ xs.zip ys, p t.1 t.2 = true then k1 else k2 := by
  have := all_loop (xs.zip ys) (fun t => p t.1 t.2) f k1 k2 (by rw [List.length_zip]; omega) (fun n j hj => by
    rw [List.length_zip] at hj
    rw [hs n j (by omega) (by omega)]
    simp) (fun n => by
    rw [List.length_zip]
    have : min xs.length ys.length = xs.length := by omega
    rw [this]; exact he n)
  exact this

theorem zip_same {α : Type} {p : α → α → Bool} (hp : ∀ a b, p a b = true ↔ a = b) : ∀ {xs ys : List α}, xs.length = ys.length → ((∀ t ∈ xs.zip ys, p t.1 t.2 = true) ↔ xs = ys)
  | [], [], _ => by simp
  | a :: xs, b :: ys, h => by
    rw [List.zip_cons_cons, List.forall_mem_cons, zip_same hp (by simpa using h), hp, List.cons.injEq]
  | [], _ :: _, h => by simp at h
  | _ :: _, [], h => by simp at h

theorem m11_eq (a b : List Int) (hL : a.length ≤ 1000000) : m11 a b = some (decide (a = b)) := by
  unfold m11
  by_cases h : a.length = b.length
  · rw [bifF (by simp [h])]
    have := cmp_loop a b (fun x y => x == y) (fun n j => l11_1 a b (some true) (some false) n j) (some true) (some false) hL h (fun n j hj hj' => by
      show s11_1 _ _ _ _ _ _ = _
      unfold s11_1
      rw [bifT (lt1 hj), ix hj, ix hj', wrapI (x := (j : Int) + 1) (by omega) (by omega)]
      simp only [Option.bind_some]
      by_cases c : a[j] = b[j]
      · simp [c]
      · rw [bifT (by simpa using c), bifF (by simpa using c)]) (fun n => by
      show s11_1 _ _ _ _ _ _ = _
      unfold s11_1
      rw [bifF (lt0 _)])
    refine Eq.trans this ?_
    have z := zip_same (p := fun x y : Int => x == y) (fun a b => by simp) h
    by_cases c : a = b
    · rw [if_pos (z.2 c), decide_eq_true c]
    · rw [if_neg (fun q => c (z.1 q)), decide_eq_false c]
  · rw [bifT (bne_iff_ne.2 (by omega)), decide_eq_false (fun c => h (by rw [c]))]

def eq38 (x y : T38) : Bool := (x.1 == y.1) && ((x.2.1 == y.2.1) && true)
theorem eq38_iff (x y : T38) : eq38 x y = true ↔ x = y := by
  obtain ⟨a, b, _⟩ := x; obtain ⟨c, e, _⟩ := y; simp [eq38]
def eq41 (x y : T41) : Bool := (x.1 == y.1) && ((x.2.1 == y.2.1) && ((x.2.2.1 == y.2.2.1) && true))
theorem eq41_iff (x y : T41) : eq41 x y = true ↔ x = y := by
  obtain ⟨a, b, u, _⟩ := x; obtain ⟨c, e, v, _⟩ := y; simp [eq41]

theorem same_i {R : Type} (g : Bool) (a b : Option R) : (bif (!g) then a else b) = bif g then b else a := by cases g <;> rfl

theorem l10_1_eq {R : Type} (a b : T25) (hL : a.2.2.2.2.1.length ≤ 1000000) (h : a.2.2.2.2.1.length = b.2.2.2.2.1.length) (k1 k2 : Option R) : l10_1 a b k1 k2 FUEL 0 = if a.2.2.2.2.1 = b.2.2.2.2.1 then k1 else k2 := by
  have := cmp_loop a.2.2.2.2.1 b.2.2.2.2.1 eq38 (fun n j => l10_1 a b k1 k2 n j) k1 k2 hL h (fun n j hj hj' => by
      show s10_1 _ _ _ _ _ _ = _
      unfold s10_1
      rw [bifT (lt1 hj), ix hj, ix hj', wrapI (x := (j : Int) + 1) (by omega) (by omega)]
      simp only [Option.bind_some]
      rw [same_i]; rfl) (fun n => by
      show s10_1 _ _ _ _ _ _ = _
      unfold s10_1
      rw [bifF (lt0 _)])
  refine Eq.trans this ?_
  have z := zip_same (p := eq38) eq38_iff h
  by_cases c : a.2.2.2.2.1 = b.2.2.2.2.1
  · rw [if_pos (z.2 c), if_pos c]
  · rw [if_neg (fun q => c (z.1 q)), if_neg c]

theorem l10_2_eq {R : Type} (a b : T25) (hL : a.2.2.2.2.2.1.length ≤ 1000000) (h : a.2.2.2.2.2.1.length = b.2.2.2.2.2.1.length) (k1 k2 : Option R) : l10_2 a b k1 k2 FUEL 0 = if a.2.2.2.2.2.1 = b.2.2.2.2.2.1 then k1 else k2 := by
  have := cmp_loop a.2.2.2.2.2.1 b.2.2.2.2.2.1 eq38 (fun n j => l10_2 a b k1 k2 n j) k1 k2 hL h (fun n j hj hj' => by
      show s10_2 _ _ _ _ _ _ = _
      unfold s10_2
      rw [bifT (lt1 hj), ix hj, ix hj', wrapI (x := (j : Int) + 1) (by omega) (by omega)]
      simp only [Option.bind_some]
      rw [same_i]; rfl) (fun n => by
      show s10_2 _ _ _ _ _ _ = _
      unfold s10_2
      rw [bifF (lt0 _)])
  refine Eq.trans this ?_
  have z := zip_same (p := eq38) eq38_iff h
  by_cases c : a.2.2.2.2.2.1 = b.2.2.2.2.2.1
  · rw [if_pos (z.2 c), if_pos c]
  · rw [if_neg (fun q => c (z.1 q)), if_neg c]

theorem l10_3_eq {R : Type} (a b : T25) (hL : a.2.2.2.2.2.2.1.length ≤ 1000000) (h : a.2.2.2.2.2.2.1.length = b.2.2.2.2.2.2.1.length) (k1 k2 : Option R) : l10_3 a b k1 k2 FUEL 0 = if a.2.2.2.2.2.2.1 = b.2.2.2.2.2.2.1 then k1 else k2 := by
  have := cmp_loop a.2.2.2.2.2.2.1 b.2.2.2.2.2.2.1 eq41 (fun n j => l10_3 a b k1 k2 n j) k1 k2 hL h (fun n j hj hj' => by
      show s10_3 _ _ _ _ _ _ = _
      unfold s10_3
      rw [bifT (lt1 hj), ix hj, ix hj', wrapI (x := (j : Int) + 1) (by omega) (by omega)]
      simp only [Option.bind_some]
      rw [same_i]; rfl) (fun n => by
      show s10_3 _ _ _ _ _ _ = _
      unfold s10_3
      rw [bifF (lt0 _)])
  refine Eq.trans this ?_
  have z := zip_same (p := eq41) eq41_iff h
  by_cases c : a.2.2.2.2.2.2.1 = b.2.2.2.2.2.2.1
  · rw [if_pos (z.2 c), if_pos c]
  · rw [if_neg (fun q => c (z.1 q)), if_neg c]

theorem m10_self (a : T25) (h1 : a.2.2.2.2.1.length ≤ 1000000) (h2 : a.2.2.2.2.2.1.length ≤ 1000000) (h3 : a.2.2.2.2.2.2.1.length ≤ 1000000) : m10 a a = some true := by
  unfold m10
  rw [bifF (by simp), l10_1_eq a a h1 rfl, if_pos rfl, l10_2_eq a a h2 rfl, if_pos rfl, l10_3_eq a a h3 rfl, if_pos rfl]

/-! The small examples. -/

def samp : T25 := (1000, 10, 0, 0, [(600, 30, ()), (300, 20, ())], [(2, 880, ())], [(0, 0, 0, ()), (0, 1, 0, ()), (2, 0, 15, ()), (3, 0, 0, ()), (4, 0, 0, ())], ())
def bett : T25 := (1000, 10, 0, 0, [(600, 30, ()), (200, 20, ())], [(2, 880, ())], [(0, 0, 0, ()), (0, 1, 0, ()), (2, 0, 15, ()), (3, 0, 0, ()), (4, 0, 0, ())], ())

theorem l71 {R : Type} (a b : Nat) (c : Int) (o : List T38) (k : Int → Option R) : ∀ n x y, l7_1 a b c o k n x y = l8_1 a b c o k n x y
  | 0, _, _ => rfl
  | n + 1, x, y => by
    show s7_1 _ _ _ _ _ _ _ _ = s8_1 _ _ _ _ _ _ _ _
    unfold s7_1 s8_1
    rw [show l7_1 a b c o k n = l8_1 a b c o k n from funext fun x => funext fun y => l71 a b c o k n x y]

theorem l72 {R : Type} (a b : Int) (c : List T41) (o : List T38) (k : Int → Int → Int → Int → List Int → List T38 → Option R) : ∀ n x y z u v w t, l7_2 a b c o k n x y z u v w t = l8_2 a b c o k n x y z u v w t
  | 0, _, _, _, _, _, _, _ => rfl
  | n + 1, x, y, z, u, v, w, t => by
    show s7_2 _ _ _ _ _ _ _ _ _ _ _ _ _ = s8_2 _ _ _ _ _ _ _ _ _ _ _ _ _
    unfold s7_2 s8_2
    rw [show l7_2 a b c o k n = l8_2 a b c o k n from funext fun x => funext fun y => funext fun z => funext fun u => funext fun v => funext fun w => funext fun t => l72 a b c o k n x y z u v w t]
    simp only [l71]

theorem m18_eq : m18 = some samp := rfl

deriving instance DecidableEq for FS
instance : DecidableEq T38 := inferInstanceAs (DecidableEq (Int × Int × Unit))
instance : DecidableEq T41 := inferInstanceAs (DecidableEq (Int × Int × Int × Unit))
instance i25a : DecidableEq (List T38 × List T41 × Unit) := inferInstance
instance i25b : DecidableEq (Int × Int × List T38 × List T38 × List T41 × Unit) := inferInstance
instance i25 : DecidableEq T25 := inferInstanceAs (DecidableEq (Int × Int × (Int × Int × List T38 × List T38 × List T41 × Unit)))
instance i25r : DecidableEq (T25 × List Int × Int × Unit) := inferInstance

theorem run1 : runS samp 100 = ((1000, 15, 45, 0, [(600, 0, ()), (300, 0, ())], samp.2.2.2.2.2.1, samp.2.2.2.2.2.2.1, ()), [30, 20, 5, 45, 0], 0, ()) := by decide +kernel
theorem run2 : runS samp 35 = ((1000, 0, 0, 0, [(600, 0, ()), (300, 5, ())], samp.2.2.2.2.2.1, samp.2.2.2.2.2.2.1, ()), [30, 15, 0, 0, 0], 0, ()) := by decide +kernel

theorem runB : List.foldl (stepF bett.1 bett.2.2.2.2.2.1) (start bett 60) bett.2.2.2.2.2.2.1 = ⟨0, 15, 0, 5, [30, 20, 5, 0, 5], [(600, 0, ()), (200, 0, ())]⟩ := by decide +kernel

theorem bett_r : RightD bett := by decide +kernel

theorem m7_eq : m7 = some true := by
  unfold m7
  rw [m18_eq]
  simp only [Option.bind_some]
  rw [m8_eq, m8_eq, run1, run2]
  simp only [Option.bind_some]
  rw [asrtP (fun _ => by decide)]
  show (m12 bett).bind _ = _
  rw [m12_eq, decide_eq_true bett_r]
  simp only [Option.bind_some]
  rw [m19_eq, decide_eq_true (show Mny 60 by decide)]
  simp only [Bool.not_true, beq_self_eq_true, cond_true, Option.bind_some, Bool.or_self, cond_false]
  rw [m19_eq, decide_eq_true (show Mny (IntKind.i64.wrap (60 + 0)) by decide)]
  simp only [Bool.not_true, Option.bind_some, cond_false]
  rw [cloneM_eq (by decide), cloneM_eq (by decide), cloneM_eq (by decide)]
  simp only [Option.bind_some]
  rw [l72]
  refine Eq.trans (l8_2_eq (env8 bett_r) _ (start bett 60) (finv0 bett_r (by decide) (by decide)) rfl).1 ?_
  rw [runB]
  simp only [m19_eq, m11_eq _ _ (show List.length [30, 20, 5, 45, 0] ≤ 1000000 by decide), m11_eq _ _ (show List.length [30, 15, 0, 0, 0] ≤ 1000000 by decide), m11_eq _ _ (show List.length [30, 20, 5, 0, 5] ≤ 1000000 by decide), m12_eq, m14_eq]
  decide +kernel

end Go.Proofs.Ytajnmcabnkidjaa
