/- Fall: the waterfall. -/
import Derived.Test.YtajnmcabnkidjaaT3
namespace Go.Proofs.Ytajnmcabnkidjaa
open Go Go.Eng
set_option linter.unusedVariables false
set_option linter.unusedSimpArgs false

/-- A deal while money goes down. -/
structure FS where
  pot : Int
  res : Int
  trp : Int
  eqt : Int
  tk : List Int
  tr : List T38

def at38 (l : List T38) (i : Int) : T38 := l.getD i.toNat (0, 0, ())

def payX (n : Int) (f : FS) : Int := min (at38 f.tr n).2.1 (f.pot + f.res)
def payF (n : Int) (f : FS) : FS := ⟨f.pot - min (payX n f) f.pot, f.res - (payX n f - min (payX n f) f.pot), f.trp, f.eqt, f.tk ++ [payX n f], f.tr.set n.toNat ((at38 f.tr n).1, (at38 f.tr n).2.1 - payX n f, ())⟩
def downX (n : Int) (f : FS) : Int := min (at38 f.tr n).1 f.pot
def downF (n : Int) (f : FS) : FS := ⟨f.pot - downX n f, f.res, f.trp, f.eqt, f.tk ++ [downX n f], f.tr.set n.toNat ((at38 f.tr n).1 - downX n f, (at38 f.tr n).2.1, ())⟩
def fillX (a : Int) (f : FS) : Int := min f.pot (max (a - f.res) 0)
def fillF (a : Int) (f : FS) : FS := ⟨f.pot - fillX a f, f.res + fillX a f, f.trp, f.eqt, f.tk ++ [fillX a f], f.tr⟩
def trapF (b : Bool) (f : FS) : FS := if b = true then ⟨f.pot, f.res, f.trp, f.eqt, f.tk ++ [0], f.tr⟩ else ⟨0, f.res, f.trp + f.pot, f.eqt, f.tk ++ [f.pot], f.tr⟩
def restF (f : FS) : FS := ⟨0, f.res, f.trp, f.eqt + f.pot, f.tk ++ [f.pot], f.tr⟩

def stepF (col : Int) (tes : List T38) (f : FS) (s : T41) : FS :=
  if s.1 = 0 then payF s.2.1 f else if s.1 = 1 then downF s.2.1 f else if s.1 = 2 then fillF s.2.2.1 f else if s.1 = 3 then trapF (pas col f.tr (at38 tes s.2.1)) f else restF f

structure FInv (nt : Nat) (f : FS) : Prop where
  p : 0 ≤ f.pot
  r : 0 ≤ f.res
  t : 0 ≤ f.trp
  e : 0 ≤ f.eqt
  sum : f.pot + f.res + f.trp + f.eqt ≤ 3000000000000000
  len : f.tr.length = nt
  ok : ∀ t ∈ f.tr, OkTr t

theorem at_get {l : List T38} {i : Int} (h0 : 0 ≤ i) (h1 : i < (l.length : Int)) : l[i.toNat]? = some (at38 l i) := by
  unfold at38
  rw [List.getD_eq_getElem?_getD, List.getElem?_eq_getElem (by omega)]; rfl

theorem at_mem {l : List T38} {i : Int} (h0 : 0 ≤ i) (h1 : i < (l.length : Int)) : at38 l i ∈ l := List.mem_of_getElem? (at_get h0 h1)

theorem pay_b {nt : Nat} {f : FS} (h : FInv nt f) {n : Int} (h0 : 0 ≤ n) (h1 : n < nt) : 0 ≤ payX n f ∧ payX n f ≤ (at38 f.tr n).2.1 ∧ payX n f ≤ f.pot + f.res ∧ 0 ≤ min (payX n f) f.pot ∧ min (payX n f) f.pot ≤ f.pot ∧ min (payX n f) f.pot ≤ payX n f ∧ payX n f - min (payX n f) f.pot ≤ f.res := by
  have ht := (h.ok _ (at_mem h0 (by rw [h.len]; exact h1))).2.1
  have := h.p
  have := h.r
  unfold payX
  omega

theorem down_b {nt : Nat} {f : FS} (h : FInv nt f) {n : Int} (h0 : 0 ≤ n) (h1 : n < nt) : 0 ≤ downX n f ∧ downX n f ≤ (at38 f.tr n).1 ∧ downX n f ≤ f.pot := by
  have ht := (h.ok _ (at_mem h0 (by rw [h.len]; exact h1))).1.1
  have := h.p
  unfold downX
  omega

theorem fill_b {nt : Nat} {f : FS} (h : FInv nt f) (a : Int) : 0 ≤ fillX a f ∧ fillX a f ≤ f.pot ∧ (fillX a f ≤ a - f.res ∨ fillX a f = 0) := by
  have := h.p
  unfold fillX
  omega

theorem FInv.pay {nt : Nat} {f : FS} (h : FInv nt f) {n : Int} (h0 : 0 ≤ n) (h1 : n < nt) : FInv nt (payF n f) := by
  obtain ⟨b1, b2, b3, b4, b5, b6, b7⟩ := pay_b h h0 h1
  have ht := h.ok _ (at_mem h0 (by rw [h.len]; exact h1))
  have hs := h.sum
  refine ⟨?_, ?_, h.t, h.e, ?_, by simp [payF, h.len], fun t hm => ?_⟩
  · show 0 ≤ f.pot - _; omega
  · show 0 ≤ f.res - _; omega
  · show f.pot - _ + (f.res - _) + f.trp + f.eqt ≤ _; omega
  · rcases List.mem_or_eq_of_mem_set hm with q | q
    · exact h.ok t q
    · rw [q]
      refine ⟨ht.1, ?_, ?_⟩
      · show 0 ≤ (at38 f.tr n).2.1 - _; omega
      · have := ht.2.2; show (at38 f.tr n).2.1 - _ ≤ _; omega

theorem FInv.down {nt : Nat} {f : FS} (h : FInv nt f) {n : Int} (h0 : 0 ≤ n) (h1 : n < nt) : FInv nt (downF n f) := by
  obtain ⟨b1, b2, b3⟩ := down_b h h0 h1
  have ht := h.ok _ (at_mem h0 (by rw [h.len]; exact h1))
  have hs := h.sum
  refine ⟨?_, h.r, h.t, h.e, ?_, by simp [downF, h.len], fun t hm => ?_⟩
  · show 0 ≤ f.pot - _; omega
  · show f.pot - _ + f.res + f.trp + f.eqt ≤ _; omega
  · rcases List.mem_or_eq_of_mem_set hm with q | q
    · exact h.ok t q
    · rw [q]
      refine ⟨⟨?_, ?_⟩, ht.2⟩
      · show 0 ≤ (at38 f.tr n).1 - _; omega
      · have := ht.1.2; show (at38 f.tr n).1 - _ ≤ _; omega

theorem FInv.fill {nt : Nat} {f : FS} (h : FInv nt f) (a : Int) : FInv nt (fillF a f) := by
  obtain ⟨b1, b2, _⟩ := fill_b h a
  have hs := h.sum
  have hr := h.r
  refine ⟨?_, ?_, h.t, h.e, ?_, h.len, h.ok⟩
  · show 0 ≤ f.pot - _; omega
  · show 0 ≤ f.res + _; omega
  · show f.pot - _ + (f.res + _) + f.trp + f.eqt ≤ _; omega

theorem FInv.trap {nt : Nat} {f : FS} (h : FInv nt f) (b : Bool) : FInv nt (trapF b f) := by
  have hs := h.sum
  have hp := h.p
  have ht := h.t
  unfold trapF
  split
  · exact ⟨h.p, h.r, h.t, h.e, h.sum, h.len, h.ok⟩
  · refine ⟨Int.le_refl 0, h.r, ?_, h.e, ?_, h.len, h.ok⟩
    · show 0 ≤ f.trp + f.pot; omega
    · show 0 + f.res + (f.trp + f.pot) + f.eqt ≤ _; omega

theorem FInv.rest {nt : Nat} {f : FS} (h : FInv nt f) : FInv nt (restF f) := by
  have hs := h.sum
  have hp := h.p
  have he := h.e
  refine ⟨Int.le_refl 0, h.r, h.t, ?_, ?_, h.len, h.ok⟩
  · show 0 ≤ f.eqt + f.pot; omega
  · show 0 + f.res + f.trp + (f.eqt + f.pot) ≤ _; omega

theorem FInv.step {nt : Nat} {f : FS} (h : FInv nt f) {col : Int} {tes : List T38} {s : T41} (hs : OkSt nt tes.length s) : FInv nt (stepF col tes f s) := by
  unfold stepF
  rcases hs with ⟨h1 | h1, n0, n1, _⟩ | ⟨h1, _, _⟩ | ⟨h1, n0, n1, _⟩ | ⟨h1, _, _⟩
  · rw [if_pos h1]; exact h.pay n0 n1
  · rw [if_neg (by omega), if_pos h1]; exact h.down n0 n1
  · rw [if_neg (by omega), if_neg (by omega), if_pos h1]; exact h.fill _
  · rw [if_neg (by omega), if_neg (by omega), if_neg (by omega), if_pos h1]; exact h.trap _
  · rw [if_neg (by omega), if_neg (by omega), if_neg (by omega), if_neg (by omega)]; exact h.rest

theorem step_tk (col : Int) (tes : List T38) (f : FS) (s : T41) : (stepF col tes f s).tk.length = f.tk.length + 1 := by
  unfold stepF trapF
  split
  · simp [payF]
  · split
    · simp [downF]
    · split
      · simp [fillF]
      · split
        · split <;> simp
        · simp [restF]

theorem lim {n : Nat} (h : n ≤ 10000) : decide (n ≤ LIM) = true := decide_eq_true (Nat.le_trans h (by decide))

/-- The deal's part that stays. -/
structure Env8 (col : Int) (tes : List T38) (sts : List T41) (nt : Nat) : Prop where
  colM : Mny col
  nt40 : nt ≤ 40
  tesOk : ∀ t ∈ tes, OkTe nt t
  stsOk : ∀ s ∈ sts, OkSt nt tes.length s
  len : sts.length ≤ 40

theorem set_set (l : List T38) (i : Nat) (a b : T38) : (l.set i a).set i b = l.set i b := List.set_set ..

/-- The code's loop. -/
theorem l8_2_eq {R : Type} {col : Int} {tes : List T38} {sts : List T41} {nt : Nat} (hE : Env8 col tes sts nt) (k : Int → Int → Int → Int → List Int → List T38 → Option R) (f : FS) (hf : FInv nt f) (hl : f.tk.length = 0) :
    l8_2 (sts.length : Int) col sts tes k FUEL f.pot 0 f.res f.trp f.eqt f.tk f.tr =
      k (sts.foldl (stepF col tes) f).pot (sts.foldl (stepF col tes) f).res (sts.foldl (stepF col tes) f).trp (sts.foldl (stepF col tes) f).eqt (sts.foldl (stepF col tes) f).tk (sts.foldl (stepF col tes) f).tr ∧ FInv nt (sts.foldl (stepF col tes) f) ∧ (sts.foldl (stepF col tes) f).tk.length = sts.length := by
  have h40 := hE.nt40
  have hl40 := hE.len
  refine fold_loop sts (stepF col tes) (fun j s => FInv nt s ∧ s.tk.length = j) (fun n j s => l8_2 (sts.length : Int) col sts tes k n s.pot j s.res s.trp s.eqt s.tk s.tr) (fun s => k s.pot s.res s.trp s.eqt s.tk s.tr) (by omega) ?_ ?_ f ⟨hf, hl⟩
  · rintro n j s hj ⟨hI, ht⟩
    have hst := hE.stsOk _ (List.getElem_mem hj)
    refine ⟨?_, hI.step hst, by rw [step_tk, ht]⟩
    have hp := hI.p
    have hr := hI.r
    have htt := hI.t
    have he := hI.e
    have hsum := hI.sum
    have hlen := hI.len
    show s8_2 _ _ _ _ _ _ _ _ _ _ _ _ _ = _
    unfold s8_2
    rw [bifT (lt1 hj), asrtP (fun _ => by simp only [Bool.and_eq_true, decide_eq_true_eq]; omega), Int.toNat_natCast, List.getElem?_eq_getElem hj, wrapI (x := (j : Int) + 1) (by omega) (by omega)]
    simp only [Option.bind_some]
    generalize sts[j] = q at hst
    rcases hst with ⟨h1 | h1, n0, n1, _⟩ | ⟨h1, _, ha⟩ | ⟨h1, n0, n1, _⟩ | ⟨h1, _, _⟩
    · have es : stepF col tes s q = payF q.2.1 s := if_pos h1
      obtain ⟨b1, b2, b3, b4, b5, b6, b7⟩ := pay_b hI n0 n1
      have hd := (hI.ok _ (at_mem n0 (by rw [hlen]; exact n1))).2
      unfold Mny at hd
      rw [es, bifT (decide_eq_true h1), asrtP (fun _ => by simp only [Bool.and_eq_true, decide_eq_true_eq]; omega), at_get n0 (by omega)]
      simp only [Option.bind_some]
      rw [asrtP (fun _ => lim (by rw [ht]; simp; omega))]
      rw [wrapI (x := s.pot + s.res) (by omega) (by omega), min_eq (at38 s.tr q.2.1).2.1 (s.pot + s.res)]
      have ex : min (at38 s.tr q.2.1).2.1 (s.pot + s.res) = payX q.2.1 s := rfl
      rw [ex, min_eq (payX q.2.1 s) s.pot, wrapI (x := (at38 s.tr q.2.1).2.1 - payX q.2.1 s) (by omega) (by omega), wrapI (x := s.pot - _) (by omega) (by omega), wrapI (x := payX q.2.1 s - _) (by omega) (by omega), wrapI (x := s.res - _) (by omega) (by omega)]
      rfl
    · have es : stepF col tes s q = downF q.2.1 s := by unfold stepF; rw [if_neg (by omega), if_pos h1]
      obtain ⟨b1, b2, b3⟩ := down_b hI n0 n1
      have hd := (hI.ok _ (at_mem n0 (by rw [hlen]; exact n1))).1
      unfold Mny at hd
      rw [es, bifF (decide_eq_false (by omega)), bifT (decide_eq_true h1), asrtP (fun _ => by simp only [Bool.and_eq_true, decide_eq_true_eq]; omega), at_get n0 (by omega)]
      simp only [Option.bind_some]
      rw [asrtP (fun _ => lim (by rw [ht]; simp; omega)), min_eq (at38 s.tr q.2.1).1 s.pot]
      have ex : min (at38 s.tr q.2.1).1 s.pot = downX q.2.1 s := rfl
      rw [ex, wrapI (x := (at38 s.tr q.2.1).1 - downX q.2.1 s) (by omega) (by omega), wrapI (x := s.pot - downX q.2.1 s) (by omega) (by omega)]
      rfl
    · have es : stepF col tes s q = fillF q.2.2.1 s := by unfold stepF; rw [if_neg (by omega), if_neg (by omega), if_pos h1]
      obtain ⟨b1, b2, _⟩ := fill_b hI q.2.2.1
      unfold Mny at ha
      rw [es, bifF (decide_eq_false (by omega)), bifF (decide_eq_false (by omega)), bifT (decide_eq_true h1)]
      rw [asrtP (fun _ => lim (by rw [ht]; simp; omega)), wrapI (x := q.2.2.1 - s.res) (by omega) (by omega), max_eq (q.2.2.1 - s.res) 0, min_eq s.pot (max (q.2.2.1 - s.res) 0)]
      have ex : min s.pot (max (q.2.2.1 - s.res) 0) = fillX q.2.2.1 s := rfl
      rw [ex, wrapI (x := s.pot - fillX q.2.2.1 s) (by omega) (by omega), wrapI (x := s.res + fillX q.2.2.1 s) (by omega) (by omega)]
      rfl
    · have es : stepF col tes s q = trapF (pas col s.tr (at38 tes q.2.1)) s := by unfold stepF; rw [if_neg (by omega), if_neg (by omega), if_neg (by omega), if_pos h1]
      have hte := hE.tesOk _ (at_mem n0 n1)
      have hte' := hte
      obtain ⟨u1, u2, _, _⟩ := hte'
      rw [es, bifF (decide_eq_false (by omega)), bifF (decide_eq_false (by omega)), bifF (decide_eq_false (by omega)), bifT (decide_eq_true h1), asrtP (fun _ => by simp only [Bool.and_eq_true, decide_eq_true_eq]; omega), at_get n0 n1]
      simp only [Option.bind_some]
      rw [asrtP (fun _ => by unfold bounds; simp; omega)]
      have e8 := l8_1_eq hI.ok (at38 tes q.2.1).1.toNat (by omega) (by omega) (fun y10 => bif (decide (y10 ≤ (IntKind.i64.wrap (Int.tdiv (IntKind.i64.wrap ((at38 tes q.2.1).2.1 * col)) 1000)))) then
          asrt true (decide (List.length (α := Int) s.tk + List.length (α := Int) [0] ≤ LIM)) (
            l8_2 (sts.length : Int) col sts tes k n (IntKind.i64.wrap (s.pot - 0)) ((j : Int) + 1) s.res s.trp s.eqt (s.tk ++ [0]) s.tr)
        else
          asrt true (decide (List.length (α := Int) s.tk + List.length (α := Int) [s.pot] ≤ LIM)) (
            l8_2 (sts.length : Int) col sts tes k n (IntKind.i64.wrap (s.pot - s.pot)) ((j : Int) + 1) s.res (IntKind.i64.wrap (s.trp + s.pot)) s.eqt (s.tk ++ [s.pot]) s.tr)) _ FUEL 0 (Nat.zero_add _) (fuel_lt (by omega))
      refine Eq.trans e8 ?_
      rw [lim_b hE.colM hte, wrapI (x := s.pot - 0) (by omega) (by omega), wrapI (x := s.pot - s.pot) (by omega) (by omega), wrapI (x := s.trp + s.pot) (by omega) (by omega), asrtP (fun _ => lim (by rw [ht]; simp; omega)), asrtP (fun _ => lim (by rw [ht]; simp; omega))]
      unfold trapF pas
      by_cases c : bal s.tr (at38 tes q.2.1).1.toNat ≤ (at38 tes q.2.1).2.1 * col / 1000
      · rw [bifT (decide_eq_true c), if_pos (decide_eq_true c), Int.sub_zero]
      · rw [bifF (decide_eq_false c), if_neg (by rw [decide_eq_false c]; exact Bool.false_ne_true), Int.sub_self]
    · have es : stepF col tes s q = restF s := by unfold stepF; rw [if_neg (by omega), if_neg (by omega), if_neg (by omega), if_neg (by omega)]
      rw [es, bifF (decide_eq_false (by omega)), bifF (decide_eq_false (by omega)), bifF (decide_eq_false (by omega)), bifF (decide_eq_false (by omega)), bifT (decide_eq_true h1), asrtP (fun _ => lim (by rw [ht]; simp; omega)), wrapI (x := s.pot - s.pot) (by omega) (by omega), wrapI (x := s.eqt + s.pot) (by omega) (by omega), Int.sub_self]
      rfl
  · rintro n s ⟨hI, ht⟩
    show s8_2 _ _ _ _ _ _ _ _ _ _ _ _ _ = _
    unfold s8_2
    rw [bifF (lt0 _)]

end Go.Proofs.Ytajnmcabnkidjaa
