/- Offer: comparing; the examples; what is told. -/
import Derived.Test.YtidlfemliaepjaaT6
namespace Go.Proofs.Ytidlfemliaepjaa
open Go Go.Eng
set_option linter.unusedVariables false
set_option linter.unusedSimpArgs false

theorem ext_iff {α : Type} {a b : List α} (hl : a.length = b.length) (p : Nat → Bool) (hp : ∀ (i : Nat) (h1 : i < a.length) (h2 : i < b.length), p i = true ↔ a[i] = b[i]) : (∀ i, i < a.length → p i = true) ↔ a = b := by
  constructor
  · intro h
    apply List.ext_getElem hl
    intro i h1 h2
    exact (hp i h1 h2).1 (h i h1)
  · intro h i hi
    subst h
    exact (hp i hi hi).2 rfl

theorem m15_eq (a b : List Int) (hL : a.length ≤ 1000) : m15 a b = some (decide (a = b)) := by
  unfold m15
  by_cases h : a.length = b.length
  · rw [bifF (by simp [h])]
    refine Eq.trans (chk_loop a.length (fun _ => ()) (fun i => gI a i == gI b i) (fun n j (_ : Unit) => l15_1 a b (some true) (some false) n j) (some true) (some false) (by omega) (fun m j hj _ => ?_) (fun _ m => ?_)) ?_
    · show s15_1 _ _ _ _ _ _ = _
      unfold s15_1
      rw [bifT (lt1 hj), gix hj, gix (by omega), wrapI (x := (j : Int) + 1) (by omega) (by omega)]
      simp only [Option.bind_some]
      by_cases c : gI a j = gI b j
      · rw [c]; simp
      · rw [bifT (bne_iff_ne.2 c), bifF (beq_eq_false_iff_ne.2 c)]
    · show s15_1 _ _ _ _ _ _ = _
      unfold s15_1
      rw [bifF (lt0 _)]
    · have z := ext_iff h (fun i => gI a i == gI b i) (fun i h1 h2 => by
        have e1 := gI_get h1
        have e2 := gI_get h2
        rw [List.getElem?_eq_getElem h1] at e1
        rw [List.getElem?_eq_getElem h2] at e2
        rw [beq_iff_eq, Option.some.inj e1, Option.some.inj e2])
      by_cases c : a = b
      · rw [if_pos (z.2 c), decide_eq_true c]
      · rw [if_neg (fun q => c (z.1 q)), decide_eq_false c]
  · rw [bifT (bne_iff_ne.2 (by omega)), decide_eq_false (fun c => h (by rw [c]))]

def gS (l : List T40) (i : Nat) : T40 := l.getD i (0, 0, ())
theorem gS_get {l : List T40} {i : Nat} (h : i < l.length) : l[i]? = some (gS l i) := by
  unfold gS
  rw [List.getD_eq_getElem?_getD, List.getElem?_eq_getElem h]
  rfl
theorem gSx {l : List T40} {j : Nat} (h : j < l.length) : idx l (j : Int) = some (gS l j) := by rw [idx_nat, gS_get h]

instance : DecidableEq T40 := inferInstanceAs (DecidableEq (Int × Int × Unit))

theorem m14_eq (a b : List T40) (hL : a.length ≤ 1000) : m14 a b = some (decide (a = b)) := by
  unfold m14
  by_cases h : a.length = b.length
  · rw [bifF (by simp [h])]
    refine Eq.trans (chk_loop a.length (fun _ => ()) (fun i => ((gS a i).1 == (gS b i).1) && (((gS a i).2.1 == (gS b i).2.1) && true)) (fun n j (_ : Unit) => l14_1 a b (some true) (some false) n j) (some true) (some false) (by omega) (fun m j hj _ => ?_) (fun _ m => ?_)) ?_
    · show s14_1 _ _ _ _ _ _ = _
      unfold s14_1
      rw [bifT (lt1 hj), gSx hj, gSx (by omega), wrapI (x := (j : Int) + 1) (by omega) (by omega)]
      simp only [Option.bind_some]
      cases (((gS a j).1 == (gS b j).1) && (((gS a j).2.1 == (gS b j).2.1) && true)) <;> rfl
    · show s14_1 _ _ _ _ _ _ = _
      unfold s14_1
      rw [bifF (lt0 _)]
    · have z := ext_iff h (fun i => ((gS a i).1 == (gS b i).1) && (((gS a i).2.1 == (gS b i).2.1) && true)) (fun i h1 h2 => by
        have e1 := gS_get h1
        have e2 := gS_get h2
        rw [List.getElem?_eq_getElem h1] at e1
        rw [List.getElem?_eq_getElem h2] at e2
        rw [Option.some.inj e1, Option.some.inj e2]
        obtain ⟨x, y, _⟩ := gS a i
        obtain ⟨x', y', _⟩ := gS b i
        simp)
      by_cases c : a = b
      · rw [if_pos (z.2 c), decide_eq_true c]
      · rw [if_neg (fun q => c (z.1 q)), decide_eq_false c]
  · rw [bifT (bne_iff_ne.2 (by omega)), decide_eq_false (fun c => h (by rw [c]))]

theorem res_len (o : T22) (l : List T38) (u : List Int) (tk : List Int) : (resS o l u tk).1.length ≤ u.length ∧ (resS o l u tk).2.length ≤ u.length := ⟨pick_len _ _, pick_len _ _⟩

def someO : T22 := (1, 2, 5, 9, 1000, 900, 6, 10, ())

theorem m27_eq : m27 = some someO := rfl

theorem m18_eq {l : List T38} {a b : List T40} (hn : l.length ≤ 14) (h : Ok someO l [8, 4, 6]) (h1 : (resS someO l [8, 4, 6] (takenS someO l [8, 4, 6])) = (a, b)) : m18 l a b = some true := by
  have hr : Rt someO l [8, 4, 6] := ⟨hn, by decide, h⟩
  have hl := res_len someO l [8, 4, 6] (takenS someO l [8, 4, 6])
  unfold m18
  rw [m27_eq]
  simp only [Option.bind_some]
  rw [m10_eq hr]
  rw [h1] at hl ⊢
  have la : a.length ≤ 3 := hl.1
  have lb : b.length ≤ 3 := hl.2
  simp only [Option.bind_some, beq_self_eq_true, cond_true, m14_eq a a (by omega), m14_eq b b (by omega), decide_eq_true, Bool.and_self]

theorem m8_eq : m8 = some true := by
  unfold m8
  rw [m18_eq (by decide) (by decide +kernel) (by decide +kernel), m18_eq (by decide) (by decide +kernel) (by decide +kernel), m18_eq (by decide) (by decide +kernel) (by decide +kernel), m18_eq (by decide) (by decide +kernel) (by decide +kernel),
    m10_bad (by decide) (by decide) (show ¬ Ok (0, 0, 0, 0, 0, 0, 1, 0, ()) [] [] by decide +kernel)]
  rfl

theorem m9_eq (l : List T38) (u : List Int) : m9 l u = some (decide (l.length ≤ 14 ∧ u.length ≤ 10)) := by
  unfold m9
  congr 1
  rw [Bool.eq_iff_iff]
  simp
  omega

theorem offerTells (o : T22) (l : List T38) (u : List Int) : m3 o l u = some true := by
  unfold m3
  rw [m8_eq, m9_eq]
  simp only [Option.bind_some]
  by_cases hf : l.length ≤ 14 ∧ u.length ≤ 10
  case neg => rw [decide_eq_false hf]; rfl
  rw [decide_eq_true hf]
  simp only [Bool.not_true, cond_false]
  by_cases h : Ok o l u
  · have hr : Rt o l u := ⟨hf.1, hf.2, h⟩
    have hl := res_len o l u (takenS o l u)
    have ht := (takenS_tk hr).n
    rw [m10_eq hr, m11_eq hr, m12_eq hr, m13_eq hr]
    simp only [Option.bind_some]
    rw [m14_eq _ _ (by omega), m14_eq _ _ (by omega), m15_eq _ _ (by omega)]
    simp
  · rw [m10_bad hf.1 hf.2 h, m11_bad hf.1 hf.2 h, m12_bad hf.1 hf.2 h, m13_bad hf.1 hf.2 h]
    simp only [Option.bind_some]
    rw [m14_eq _ _ (by simp), m15_eq _ _ (by simp)]
    simp

end Go.Proofs.Ytidlfemliaepjaa
