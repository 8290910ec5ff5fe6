/- Disk, plain: the reference's files. -/
import Derived.Test.YtondjihmmjjinaaT2
namespace Go.Proofs.Ytondjihmmjjinaa
open Go Go.Eng
set_option linter.unusedVariables false
set_option linter.unusedSimpArgs false

/-- A file of the reference. -/
def gR (fl : List T64) (f : Int) : T64 := (fl.find? fun x => x.1 == f).getD (f, [], [], ())

theorem l39_eq {R : Type} {f : Int} {k1 : Option R} {k2 : T64 → Option R} {fl : List T64} (hl : fl.length ≤ 1000000000) : ∀ (m i g : Nat), i + m = fl.length →
    l39_1 f fl k1 k2 (g + m + 1) (i : Int) = match (fl.drop i).find? (fun x => x.1 == f) with
      | some x => k2 x
      | none => k1
  | 0, i, g, hm => by
    have hi : i = fl.length := by omega
    subst hi
    rw [List.drop_length]
    show s39_1 _ _ _ _ _ _ = _
    unfold s39_1
    rw [show decide (((fl.length : Nat) : Int) < (fl.length : Int)) = false by simp]
    rfl
  | m + 1, i, g, hm => by
    have hi : i < fl.length := by omega
    rw [List.drop_eq_getElem_cons hi, List.find?_cons]
    show s39_1 _ _ _ _ _ _ = _
    unfold s39_1
    rw [show decide ((i : Int) < (fl.length : Int)) = true by simp; omega, cond_true]
    rw [show (decide (0 ≤ (i : Int)) && true) = true by simp, asrtT, Int.toNat_natCast, List.getElem?_eq_getElem hi, Option.bind_some]
    rw [show IntKind.i64.wrap ((i : Int) + 1) = ((i + 1 : Nat) : Int) by rw [wrapI (by omega) (by omega)]; rfl]
    cases h : (fl[i].1 == f) with
    | true => rfl
    | false =>
      rw [cond_false]
      exact l39_eq hl m (i + 1) g (by omega)

theorem m39_eq {fl : List T64} (hl : fl.length ≤ 1000000000) (f lost : Int) (down : Bool) (armed : Int) (keep : List Int) (qu : List T69) :
    m39 f lost down armed keep fl qu = some ((gR fl f, ()), (((), (), lost, down, armed, keep, ()), fl, qu, ())) := by
  unfold m39
  obtain ⟨g, hg⟩ := fuel_s (fl.length + 1) (by omega)
  rw [show FUEL = g + fl.length + 1 by omega]
  have h := l39_eq (R := F39o.ty) (f := f) (fl := fl) (k1 := some (((f, ([] : List UInt8), ([] : List UInt8), ()), ()), (((), (), lost, down, armed, keep, ()), fl, qu, ()))) (k2 := fun y3 => some ((y3, ()), (((), (), lost, down, armed, keep, ()), fl, qu, ()))) hl fl.length 0 g (by omega)
  refine h.trans ?_
  rw [List.drop_zero]
  unfold gR
  cases fl.find? (fun x => x.1 == f) <;> rfl

theorem l60_eq {R : Type} {x : T64} {fl : List T64} {k1 : List T64 → Option R} (hl : fl.length ≤ 1000000000) : ∀ (m i g : Nat) (o : List T64), i + m = fl.length → o.length ≤ i →
    l60_1 x fl k1 (g + m + 1) (i : Int) o = k1 (o ++ (fl.drop i).filter fun y => y.1 != x.1)
  | 0, i, g, o, hm, ho => by
    have hi : i = fl.length := by omega
    subst hi
    rw [List.drop_length]
    show s60_1 _ _ _ _ _ _ = _
    unfold s60_1
    rw [show decide (((fl.length : Nat) : Int) < (fl.length : Int)) = false by simp]
    simp
  | m + 1, i, g, o, hm, ho => by
    have hi : i < fl.length := by omega
    rw [List.drop_eq_getElem_cons hi, List.filter_cons]
    show s60_1 _ _ _ _ _ _ = _
    unfold s60_1
    rw [show decide ((i : Int) < (fl.length : Int)) = true by simp; omega, cond_true]
    rw [show IntKind.i64.wrap ((i : Int) + 1) = ((i + 1 : Nat) : Int) by rw [wrapI (by omega) (by omega)]; rfl]
    refine (cont_eq (if fl[i].1 != x.1 then o ++ [fl[i]] else o) (fun k3 => ?_)).trans ?_
    · rw [show (decide (0 ≤ (i : Int)) && true) = true by simp, asrtT, Int.toNat_natCast, List.getElem?_eq_getElem hi, Option.bind_some]
      cases h : (fl[i].1 != x.1) with
      | true =>
        rw [cond_true, asrtT, Option.bind_some, show decide (List.length (α := T64) o + List.length (α := T64) [fl[i]] ≤ LIM) = true by unfold LIM; simp; omega]
        rfl
      | false => rfl
    · refine (l60_eq hl m (i + 1) g (if fl[i].1 != x.1 then o ++ [fl[i]] else o) (by omega) (by
        split
        · rw [List.length_append]; show o.length + 1 ≤ i + 1; omega
        · omega)).trans ?_
      split <;> simp

theorem m60_eq {fl : List T64} (hl : fl.length ≤ 1000000000) (x : T64) (lost : Int) (down : Bool) (armed : Int) (keep : List Int) (qu : List T69) :
    m60 x lost down armed keep fl qu = some (((), ()), (((), (), lost, down, armed, keep, ()), (), (), (fl.filter fun y => y.1 != x.1) ++ [x], qu, ())) := by
  unfold m60
  obtain ⟨g, hg⟩ := fuel_s (fl.length + 1) (by omega)
  rw [show FUEL = g + fl.length + 1 by omega]
  refine (l60_eq (R := F60o.ty) hl fl.length 0 g [] (by omega) (by simp)).trans ?_
  rw [List.drop_zero, List.nil_append]
  have := List.length_filter_le (fun y : T64 => y.1 != x.1) fl
  rw [show decide (List.length (α := T64) (fl.filter fun y => y.1 != x.1) + List.length (α := T64) [x] ≤ LIM) = true by unfold LIM; simp; omega, asrtT]

/-! ### Disk, plain: the reference's Put and pending. -/
theorem l62_eq {R : Type} {f n : Int} {k1 k2 : Option R} {qu : List T69} (hl : qu.length ≤ 1000000000) : ∀ (m i g : Nat), i + m = qu.length →
    l62_1 f n qu k1 k2 (g + m + 1) (i : Int) = if (f, n, ()) ∈ qu.drop i then k2 else k1
  | 0, i, g, hm => by
    have hi : i = qu.length := by omega
    subst hi
    rw [List.drop_length]
    show s62_1 _ _ _ _ _ _ _ = _
    unfold s62_1
    rw [show decide (((qu.length : Nat) : Int) < (qu.length : Int)) = false by simp]
    simp
  | m + 1, i, g, hm => by
    have hi : i < qu.length := by omega
    rw [List.drop_eq_getElem_cons hi]
    show s62_1 _ _ _ _ _ _ _ = _
    unfold s62_1
    rw [show decide ((i : Int) < (qu.length : Int)) = true by simp; omega, cond_true]
    rw [show (decide (0 ≤ (i : Int)) && true) = true by simp, asrtT, Int.toNat_natCast, List.getElem?_eq_getElem hi, Option.bind_some]
    rw [show IntKind.i64.wrap ((i : Int) + 1) = ((i + 1 : Nat) : Int) by rw [wrapI (by omega) (by omega)]; rfl]
    have ih := l62_eq (R := R) (f := f) (n := n) (k1 := k1) (k2 := k2) hl m (i + 1) g (by omega)
    generalize qu[i] = p at *
    obtain ⟨a, b, ⟨⟩⟩ := p
    cases h : (a == f) with
    | false =>
      have hne : ¬ a = f := by simpa using h
      show l62_1 f n qu k1 k2 (g + m + 1) ((i + 1 : Nat) : Int) = _
      rw [ih]
      simp [Ne.symm hne]
    | true =>
      have he : a = f := by simpa using h
      subst he
      show (bif (true && (b == n)) then k2 else l62_1 a n qu k1 k2 (g + m + 1) ((i + 1 : Nat) : Int)) = _
      rw [ih]
      by_cases hb : b = n
      · subst hb; simp
      · simp [hb, Ne.symm hb]

theorem m62_eq {qu : List T69} (hl : qu.length ≤ 1000000000) (f n lost : Int) (down : Bool) (armed : Int) (keep : List Int) (fl : List T64) :
    m62 f n lost down armed keep fl qu = some ((decide ((f, n, ()) ∈ qu), ()), (((), (), lost, down, armed, keep, ()), fl, qu, ())) := by
  unfold m62
  obtain ⟨g, hg⟩ := fuel_s (qu.length + 1) (by omega)
  rw [show FUEL = g + qu.length + 1 by omega]
  refine (l62_eq (R := F62o.ty) hl qu.length 0 g (by omega)).trans ?_
  rw [List.drop_zero]
  split
  · rename_i h; simp [h]
  · rename_i h; simp [h]

/-! ### Disk, plain: the reference's Put. -/
theorem l61_1_eq {R : Type} {a : Nat} {t : List UInt8} {k : List Int → Option R} (ha : a + t.length ≤ 16777216) : ∀ (m g : Nat) (o : List Int), o.length ≤ 16777216 → m = a + t.length - o.length →
    l61_1 (a : Int) t k (g + m + 1) o = k (o ++ List.replicate m 0)
  | 0, g, o, ho, hm => by
    show s61_1 _ _ _ _ _ = _
    unfold s61_1
    rw [wrapI (by omega) (by omega), show decide ((o.length : Int) < (a : Int) + (t.length : Int)) = false by simp; omega]
    simp
  | m + 1, g, o, ho, hm => by
    show s61_1 _ _ _ _ _ = _
    unfold s61_1
    rw [wrapI (by omega) (by omega), show decide ((o.length : Int) < (a : Int) + (t.length : Int)) = true by simp; omega, cond_true]
    rw [show decide (List.length (α := Int) o + List.length (α := Int) [0] ≤ LIM) = true by unfold LIM; simp; omega, asrtT]
    refine (l61_1_eq ha m g (o ++ [0]) (by simp; omega) (by simp; omega)).trans ?_
    rw [List.append_assoc, List.replicate_succ]
    rfl

theorem l61_2_eq {R : Type} {a : Nat} {t : List UInt8} {k : List Int → Option R} (ha : a + t.length ≤ 16777216) : ∀ (m i g : Nat) (o : List Int), i + m = t.length → a + t.length ≤ o.length →
    ∃ o', l61_2 (a : Int) t k (g + m + 1) (i : Int) o = k o' ∧ o'.length = o.length ∧ ∀ j, o'[j]? = if a + i ≤ j ∧ j < a + t.length then some ((byteD t (j - a)).toNat : Int) else o[j]?
  | 0, i, g, o, hm, ho => by
    refine ⟨o, ?_, rfl, fun j => by rw [if_neg (by omega)]⟩
    show s61_2 _ _ _ _ _ _ = _
    unfold s61_2
    rw [show decide ((i : Int) < (t.length : Int)) = false by simp; omega]
    rfl
  | m + 1, i, g, o, hm, ho => by
    have hi : i < t.length := by omega
    obtain ⟨o', h1, h2, h3⟩ := l61_2_eq (R := R) (k := k) ha m (i + 1) g (o.set (a + i) ((byteD t i).toNat : Int)) (by omega) (by rw [List.length_set]; exact ho)
    refine ⟨o', ?_, by rw [h2, List.length_set], fun j => ?_⟩
    · refine Eq.trans ?_ h1
      show s61_2 _ _ _ _ _ _ = _
      unfold s61_2
      rw [show decide ((i : Int) < (t.length : Int)) = true by simp; omega, cond_true, idx_nat, byteD_get hi, Option.bind_some]
      have e1 : IntKind.i64.wrap ((a : Int) + (i : Int)) = ((a + i : Nat) : Int) := by rw [wrapI (by omega) (by omega)]; rfl
      rw [e1, show (decide (0 ≤ ((a + i : Nat) : Int)) && decide (((a + i : Nat) : Int) < (List.length o : Int))) = true by simp; omega, asrtT, Int.toNat_natCast, List.getElem?_eq_getElem (show a + i < o.length by omega), Option.bind_some]
      rw [show IntKind.i64.wrap ((i : Int) + 1) = ((i + 1 : Nat) : Int) by rw [wrapI (by omega) (by omega)]; rfl]
      rfl
    · rw [h3, List.getElem?_set]
      by_cases e : a + i = j
      · subst e
        rw [if_neg (by omega), if_pos rfl, if_pos (by omega), if_pos ⟨Nat.le_refl _, by omega⟩, show a + i - a = i by omega]
      · rw [if_neg e]
        by_cases h : a + (i + 1) ≤ j ∧ j < a + t.length
        · rw [if_pos h, if_pos (by omega)]
        · rw [if_neg h, if_neg (by omega)]

theorem m61_eq {s t : List UInt8} {a : Int} (h0 : 0 ≤ a) (ha : a + t.length ≤ 16777216) (hs : s.length ≤ 16777216) : m61 s a t = some (putS s a.toNat t) := by
  unfold m61
  by_cases ht : t = []
  · subst ht; simp [putS]
  · rw [show (t == ([] : List UInt8)) = false by simp [ht], cond_false]
    obtain ⟨n, rfl⟩ := Int.eq_ofNat_of_zero_le h0
    rw [Int.toNat_natCast]
    obtain ⟨g1, hg1⟩ := fuel_s (n + t.length - s.length + 1) (by omega)
    obtain ⟨g2, hg2⟩ := fuel_s (t.length + 1) (by omega)
    have e1 := l61_1_eq (R := List UInt8) (a := n) (t := t) (k := fun y1 => l61_2 (n : Int) t (fun y4 => some (List.map (fun n => UInt8.ofNat (Int.toNat n)) y4)) FUEL 0 y1) (by omega) (n + t.length - s.length) g1 (s.map fun c => (UInt8.toNat c : Int)) (by simpa using hs) (by simp)
    rw [show g1 + (n + t.length - s.length) + 1 = FUEL by omega] at e1
    refine e1.trans ?_
    obtain ⟨o', h1, h2, h3⟩ := l61_2_eq (R := List UInt8) (a := n) (t := t) (k := fun y4 => some (List.map (fun n => UInt8.ofNat (Int.toNat n)) y4)) (by omega) t.length 0 g2 (s.map (fun c => (UInt8.toNat c : Int)) ++ List.replicate (n + t.length - s.length) 0) (by omega) (by simp; omega)
    rw [show g2 + t.length + 1 = FUEL by omega] at h1
    refine h1.trans ?_
    congr 1
    apply List.ext_getElem?
    intro j
    rw [List.getElem?_map, h3, Nat.add_zero]
    have hlen : (s.map (fun c => (UInt8.toNat c : Int)) ++ List.replicate (n + t.length - s.length) 0).length = max s.length (n + t.length) := by simp; omega
    by_cases hj : j < max s.length (n + t.length)
    · rw [putS_at ht hj]
      by_cases hc : n ≤ j ∧ j < n + t.length
      · rw [if_pos hc, if_pos hc]; simp [byte_back]
      · rw [if_neg hc, if_neg hc, List.getElem?_append]
        by_cases h2 : j < s.length
        · rw [if_pos (by simpa using h2), List.getElem?_map, byteD_get h2]; simp [byte_back]
        · rw [if_neg (by simpa using h2), List.getElem?_replicate, if_pos (by simp; omega), byteD_end (by omega)]; rfl
    · rw [if_neg (by omega), List.getElem?_eq_none (by rw [hlen]; omega), List.getElem?_eq_none (by rw [putS_len ht]; omega)]
      rfl

/-! ### Disk, plain: the reference bears the same disk; add. -/
structure RelR (n : Nat) (a : A) (fl : List T64) (qu : List T69) : Prop where
  hfs : ∀ f, gR fl f = (f, a.fs f)
  hqu : qu = a.qu
  len : a.qu.length ≤ 100 * n
  fln : fl.length + a.qu.length ≤ 200 * n
  dom : ∀ p ∈ a.qu, 0 ≤ p.2.1 ∧ p.2.1 ≤ 262144
  now : ∀ f, (a.fs f).1.length ≤ 16777216
  last : ∀ f, (a.fs f).2.1.length ≤ 16777216

/-- A file is set. -/
def setR (fl : List T64) (x : T64) : List T64 := (fl.filter fun y => y.1 != x.1) ++ [x]
theorem setR_len (fl : List T64) (x : T64) : (setR fl x).length ≤ fl.length + 1 := by
  unfold setR
  rw [List.length_append]
  have := List.length_filter_le (fun y : T64 => y.1 != x.1) fl
  show _ + 1 ≤ _
  omega
theorem gR_set (fl : List T64) (x : T64) (f : Int) : gR (setR fl x) f = if f = x.1 then x else gR fl f := by
  unfold gR setR
  rw [List.find?_append]
  by_cases h : f = x.1
  · subst h
    rw [if_pos rfl]
    have : (fl.filter fun y => y.1 != x.1).find? (fun y => y.1 == x.1) = none := by
      rw [List.find?_eq_none]
      intro y hy
      have := (List.mem_filter.1 hy).2
      simpa [bne] using this
    rw [this]
    simp
  · rw [if_neg h]
    have h1 : [x].find? (fun y => y.1 == f) = none := by simp [Ne.symm h]
    have h2 : ∀ fl : List T64, (fl.filter fun y => y.1 != x.1).find? (fun y => y.1 == f) = fl.find? (fun y => y.1 == f) := by
      intro fl
      induction fl with
      | nil => rfl
      | cons y fl ih =>
        rw [List.filter_cons, List.find?_cons]
        by_cases hy : y.1 = f
        · have : (y.1 != x.1) = true := by rw [hy]; simp [h]
          rw [if_pos this, List.find?_cons]
          simp [hy]
        · have e : (y.1 == f) = false := by simp [hy]
          rw [e]
          split
          · rw [List.find?_cons, e]; exact ih
          · exact ih
    rw [h1, h2]
    cases fl.find? (fun y => y.1 == f) <;> rfl

/-! ### Disk, plain: the reference's add. -/
theorem l54_eq {R : Type} {f at_ : Int} {s : List UInt8} {k : Int → Bool → Int → List Int → List T64 → List T69 → Option R} (h0 : 0 ≤ at_) (hs : 0 < s.length) (ha : at_ + s.length ≤ 16777216) (lost : Int) (down : Bool) (armed : Int) (keep : List Int) (fl : List T64) :
    ∀ (m : Nat) (n : Int) (q : List T69) (g : Nat), 0 ≤ n → n + m = (at_ + s.length - 1) / 64 + 1 → q.length + m ≤ 1000000000 →
    l54_1 f at_ s k (g + m + 1) n lost down armed keep fl q = k lost down armed keep fl (addQ f m n q)
  | 0, n, q, g, hn, hm, hl => by
    have e1 : IntKind.i64.wrap (Int.tdiv (IntKind.i64.wrap ((IntKind.i64.wrap (at_ + (s.length : Int))) - 1)) 64) = (at_ + s.length - 1) / 64 := by
      rw [wrapI (x := at_ + (s.length : Int)) (by omega) (by omega), wrapI (x := at_ + (s.length : Int) - 1) (by omega) (by omega), tdiv_pos _ (by omega), wrapI (by omega) (by omega)]
    show s54_1 _ _ _ _ _ _ _ _ _ _ _ _ = _
    unfold s54_1
    rw [e1, show decide (n ≤ (at_ + s.length - 1) / 64) = false by simp; omega]
    rfl
  | m + 1, n, q, g, hn, hm, hl => by
    have e1 : IntKind.i64.wrap (Int.tdiv (IntKind.i64.wrap ((IntKind.i64.wrap (at_ + (s.length : Int))) - 1)) 64) = (at_ + s.length - 1) / 64 := by
      rw [wrapI (x := at_ + (s.length : Int)) (by omega) (by omega), wrapI (x := at_ + (s.length : Int) - 1) (by omega) (by omega), tdiv_pos _ (by omega), wrapI (by omega) (by omega)]
    have e2 : IntKind.i64.wrap (n + 1) = n + 1 := wrapI (by omega) (by omega)
    show s54_1 _ _ _ _ _ _ _ _ _ _ _ _ = _
    unfold s54_1
    rw [e1, e2, show decide (n ≤ (at_ + s.length - 1) / 64) = true by simp; omega, cond_true]
    simp only [addQ]
    refine (cont_eq (lost, down, armed, keep, fl, if (f, n, ()) ∈ q then q else q ++ [(f, n, ())]) (fun k5 => ?_)).trans ?_
    · rw [m62_eq (by omega), Option.bind_some]
      by_cases hm' : (f, n, ()) ∈ q
      · simp [hm']
      · rw [if_neg hm']
        simp only [hm', decide_false, Bool.not_false, cond_true]
        rw [show decide (List.length (α := T69) q + List.length (α := T69) [(f, n, ())] ≤ LIM) = true by unfold LIM; simp; omega, asrtT]
    · exact l54_eq h0 hs ha lost down armed keep fl m (n + 1) _ g (by omega) (by omega) (by split <;> simp <;> omega)

/-! ### Disk, plain: the reference's add, whole. -/
theorem RelR.more {n m : Nat} {a : A} {fl : List T64} {qu : List T69} (R : RelR n a fl qu) (h : n ≤ m) : RelR m a fl qu :=
  ⟨R.hfs, R.hqu, Nat.le_trans R.len (Nat.mul_le_mul_left _ h), Nat.le_trans R.fln (Nat.mul_le_mul_left _ h), R.dom, R.now, R.last⟩

theorem m54_eq {n : Nat} {a : A} {fl : List T64} {qu : List T69} (R : RelR n a fl qu) (hn : n ≤ 1000) (f : Int) {at_ : Int} {s : List UInt8} (h0 : 0 ≤ at_) (ha : at_ + s.length ≤ 16777216) (hs : s.length ≤ 300) (lost : Int) (down : Bool) (armed : Int) (keep : List Int) :
    ∃ fl', m54 f at_ s lost down armed keep fl qu = some (((), ()), (((), (), lost, down, armed, keep, ()), (), (), fl', (addA f at_ s a).qu, ())) ∧ RelR (n + 1) (addA f at_ s a) fl' (addA f at_ s a).qu := by
  unfold m54
  by_cases hse : s = []
  · subst hse
    have he : addA f at_ [] a = a := by simp [addA]
    have hq := R.hqu
    subst hq
    rw [he]
    exact ⟨fl, rfl, R.more (m := n + 1) (by omega)⟩
  · rw [show (s == ([] : List UInt8)) = false by simp [hse], cond_false]
    have hpos : 0 < s.length := List.length_pos_iff.2 hse
    have hfl := R.fln
    have hg : gR fl f = (f, a.fs f) := R.hfs f
    rw [m39_eq (by omega), Option.bind_some, hg]
    simp only
    rw [m61_eq h0 ha (R.now f), Option.bind_some, m60_eq (by omega), Option.bind_some]
    have hc0 : 0 ≤ at_ / 64 ∧ at_ / 64 ≤ (at_ + s.length - 1) / 64 := by omega
    have hcn : ((cntQ at_ s.length : Nat) : Int) = (at_ + s.length - 1) / 64 - at_ / 64 + 1 := by unfold cntQ; omega
    have hc1 : cntQ at_ s.length ≤ 50 := by omega
    obtain ⟨g, hg2⟩ := fuel_s (cntQ at_ s.length + 1) (by omega)
    rw [show FUEL = g + cntQ at_ s.length + 1 by omega, tdiv_pos _ (by omega), wrapI (x := at_ / 64) (by omega) (by omega)]
    have hql : qu.length ≤ 100 * n := by rw [R.hqu]; exact R.len
    have ha2 : addA f at_ s a = { a with fs := setF a.fs f (putS (a.fs f).1 at_.toNat s, (a.fs f).2.1, ()), qu := addQ f (cntQ at_ s.length) (at_ / 64) a.qu } := by simp [addA, hse]
    rw [ha2]
    refine ⟨setR fl (f, putS (a.fs f).1 at_.toNat s, (a.fs f).2.1, ()), ?_, ?_⟩
    · refine (l54_eq (R := F54o.ty) h0 hpos ha lost down armed keep _ (cntQ at_ s.length) (at_ / 64) qu g hc0.1 (by omega) (by omega)).trans ?_
      rw [R.hqu]
      rfl
    · exact {
        hfs := fun h => by
          rw [gR_set, R.hfs]
          show _ = (h, setF a.fs f _ h)
          unfold setF
          split
          · rename_i e; rw [e]
          · rfl
        hqu := rfl
        len := by
          have := addQ_len f (cntQ at_ s.length) (at_ / 64) a.qu
          have := R.len
          show (addQ f (cntQ at_ s.length) (at_ / 64) a.qu).length ≤ _
          omega
        fln := by
          have := setR_len fl (f, putS (a.fs f).1 at_.toNat s, (a.fs f).2.1, ())
          have := addQ_len f (cntQ at_ s.length) (at_ / 64) a.qu
          show (setR fl _).length + (addQ f (cntQ at_ s.length) (at_ / 64) a.qu).length ≤ _
          omega
        dom := fun p hp => by
          rcases addQ_dom f _ _ _ hp with hp | ⟨_, h2, h3⟩
          · exact R.dom p hp
          · omega
        now := fun h => by
          show (setF a.fs f _ h).1.length ≤ _
          unfold setF
          split
          · show (putS _ _ _).length ≤ _
            rw [putS_len hse]
            have := R.now f
            omega
          · exact R.now h
        last := fun h => by
          show (setF a.fs f _ h).2.1.length ≤ _
          unfold setF
          split
          · exact R.last f
          · exact R.last h }

/-! ### Disk, plain: the reference's survive. -/
/-- A sector survives. -/
def survS (p : T69) (g : Int → T62) : Int → T62 := if 64 * p.2.1 < ((g p.1).1.length : Int) then setF g p.1 ((g p.1).1, putS (g p.1).2.1 (64 * p.2.1).toNat (cutS (g p.1).1 p.2.1), ()) else g
theorem crS_surv (keep : List Int) (i : Nat) (p : T69) (g : Int → T62) : crS keep i p g = if oddK keep i = true then survS p g else g := by
  unfold crS survS
  by_cases h : oddK keep i = true
  · simp [h]
  · simp [h]

theorem setF_self (g : Int → T62) (f : Int) : setF g f (g f) = g := by
  funext h
  unfold setF
  split
  · rename_i e; rw [e]
  · rfl
theorem gR_setF {fl : List T64} {G : Int → T62} (hG : ∀ f, gR fl f = (f, G f)) (k : Int) (x : T62) (f : Int) : gR (setR fl (k, x)) f = (f, setF G k x f) := by
  rw [gR_set]
  unfold setF
  split
  · rename_i e
    have e : f = k := e
    rw [e]
  · exact hG f

theorem m52_eq {fl : List T64} {G : Int → T62} (hl : fl.length ≤ 1000000000 - 1) (hG : ∀ f, gR fl f = (f, G f)) (hb : ∀ f, (G f).1.length ≤ 16777216 ∧ (G f).2.1.length ≤ 16777216) {p : T69} (h0 : 0 ≤ p.2.1) (h1 : p.2.1 ≤ 262144) (lost : Int) (down : Bool) (armed : Int) (keep : List Int) (qu : List T69) :
    ∃ fl', m52 p lost down armed keep fl qu = some (((), ()), (((), (), lost, down, armed, keep, ()), (), (), fl', qu, ())) ∧ (∀ f, gR fl' f = (f, survS p G f)) ∧ fl'.length ≤ fl.length + 1 := by
  unfold m52
  rw [m39_eq (by omega), Option.bind_some, hG]
  have hw1 : IntKind.i64.wrap (64 * p.2.1) = 64 * p.2.1 := by rw [wrapI (by omega) (by omega)]
  have hw2 : IntKind.i64.wrap (64 * p.2.1 + 64) = 64 * p.2.1 + 64 := wrapI (by omega) (by omega)
  simp only [hw1, hw2]
  by_cases hc : 64 * p.2.1 < ((G p.1).1.length : Int)
  · refine ⟨setR fl (p.1, (G p.1).1, putS (G p.1).2.1 (64 * p.2.1).toNat (cutS (G p.1).1 p.2.1), ()), ?_, fun f => ?_, setR_len _ _⟩
    · refine (cont_eq (p.1, (G p.1).1, putS (G p.1).2.1 (64 * p.2.1).toNat (cutS (G p.1).1 p.2.1), ()) (fun k3 => ?_)).trans ?_
      · rw [show decide (64 * p.2.1 < ((G p.1).1.length : Int)) = true by simpa using hc, cond_true]
        simp only [cond_if, decide_eq_true_eq]
        rw [cutS_eq h0 hc]
        rw [show bounds true (G p.1).1.length (64 * p.2.1) (if ((G p.1).1.length : Int) < 64 * p.2.1 + 64 then ((G p.1).1.length : Int) else 64 * p.2.1 + 64) = true by
              unfold bounds
              simp only [Bool.and_eq_true, decide_eq_true_eq]
              split <;> omega, asrtT]
        have h64 := (cutS_len (s := (G p.1).1) (n := p.2.1)).1
        have h65 := (cutS_len (s := (G p.1).1) (n := p.2.1)).2 h0
        have hb1 := hb p.1
        rw [m61_eq (by omega) (by omega) hb1.2, Option.bind_some]
      · rw [m60_eq (by omega), Option.bind_some]
        rfl
    · rw [gR_setF hG]
      unfold survS
      rw [if_pos hc]
  · refine ⟨setR fl (p.1, G p.1), ?_, fun f => ?_, setR_len _ _⟩
    · refine (cont_eq (p.1, G p.1) (fun k3 => ?_)).trans ?_
      · rw [show decide (64 * p.2.1 < ((G p.1).1.length : Int)) = false by simpa using hc, cond_false]
      · rw [m60_eq (by omega), Option.bind_some]
        rfl
    · rw [gR_setF hG]
      unfold survS
      rw [if_neg hc, setF_self]

/-! ### Disk, plain: the reference's crash. -/
theorem survS_now (p : T69) (g : Int → T62) (f : Int) : (survS p g f).1 = (g f).1 := by
  unfold survS
  split
  · unfold setF
    split
    · rename_i h; rw [h]
    · rfl
  · rfl

theorem l36_1_eq {R : Type} {kp : List Int} {k : Int → Bool → Int → List Int → List T64 → List T69 → Option R} {qu : List T69} (hl : qu.length ≤ 1000000) (hk0 : 0 < kp.length) (hk : kp.length ≤ 1000000000) (hd : ∀ p ∈ qu, 0 ≤ p.2.1 ∧ p.2.1 ≤ 262144) (lost : Int) (down : Bool) (armed : Int) (keep : List Int) :
    ∀ (m i g : Nat) (fl : List T64) (G : Int → T62), i + m = qu.length → fl.length ≤ 1000000 + i → (∀ f, gR fl f = (f, G f)) → (∀ f, (G f).1.length ≤ 16777216 ∧ (G f).2.1.length ≤ 16777216) →
    ∃ fl', l36_1 kp k (g + m + 1) (i : Int) lost down armed keep fl qu = k lost down armed keep fl' qu ∧ (∀ f, gR fl' f = (f, crF kp i (qu.drop i) G f)) ∧ fl'.length ≤ fl.length + m ∧ (∀ f, (crF kp i (qu.drop i) G f).2.1.length ≤ 16777216)
  | 0, i, g, fl, G, hm, hf, hG, hb => by
    have hi : i = qu.length := by omega
    subst hi
    refine ⟨fl, ?_, fun f => by rw [List.drop_length]; exact hG f, Nat.le_refl _, fun f => by rw [List.drop_length]; exact (hb f).2⟩
    show s36_1 _ _ _ _ _ _ _ _ _ _ = _
    unfold s36_1
    rw [show decide (((qu.length : Nat) : Int) < (qu.length : Int)) = false by simp]
    rfl
  | m + 1, i, g, fl, G, hm, hf, hG, hb => by
    have hi : i < qu.length := by omega
    obtain ⟨hp0, hp1⟩ := hd qu[i] (List.getElem_mem hi)
    rw [show qu.drop i = qu[i] :: qu.drop (i + 1) from List.drop_eq_getElem_cons hi, crF_cons]
    have hlt : i % kp.length < kp.length := Nat.mod_lt _ hk0
    have hmod : Int.tmod (i : Int) (kp.length : Int) = ((i % kp.length : Nat) : Int) := by rw [tmod_pos _ (by omega)]; rfl
    have hodd : oddK kp i = (gI kp (i % kp.length) % 2 == 1) := by
      unfold oddK
      rw [show (kp.length != 0) = true from bne_iff_ne.2 (by omega), Bool.true_and]
    obtain ⟨fl1, h1, h2, h3⟩ : ∃ fl1, l36_1 kp k (g + (m + 1) + 1) (i : Int) lost down armed keep fl qu = l36_1 kp k (g + m + 1) ((i + 1 : Nat) : Int) lost down armed keep fl1 qu ∧ (∀ f, gR fl1 f = (f, crS kp i qu[i] G f)) ∧ fl1.length ≤ fl.length + 1 := by
      obtain ⟨fl2, e1, e2, e3⟩ := m52_eq (p := qu[i]) (by omega) hG hb hp0 hp1 lost down armed keep qu
      refine ⟨if oddK kp i = true then fl2 else fl, ?_, fun f => ?_, by split <;> omega⟩
      · show s36_1 _ _ _ _ _ _ _ _ _ _ = _
        unfold s36_1
        rw [show (decide ((i : Int) < (qu.length : Int)) && decide ((kp.length : Int) > 0)) = true by simp; omega, cond_true]
        rw [show IntKind.i64.wrap ((i : Int) + 1) = ((i + 1 : Nat) : Int) by rw [wrapI (by omega) (by omega)]; rfl]
        refine (cont_eq (lost, down, armed, keep, if oddK kp i = true then fl2 else fl, qu) (fun k4 => ?_)).trans rfl
        rw [show ((kp.length : Int) != 0) = true from bne_ne (by omega), asrtT, hmod, idx_nat, gI_get hlt, Option.bind_some, and1, ← hodd]
        cases ho : oddK kp i with
        | false => rfl
        | true =>
          rw [cond_true, show (decide (0 ≤ (i : Int)) && decide ((i : Int) < (qu.length : Int))) = true by simp; omega, asrtT, Int.toNat_natCast, List.getElem?_eq_getElem hi, Option.bind_some, e1]
          rfl
      · rw [crS_surv]
        split
        · exact e2 f
        · exact hG f
    obtain ⟨fl', g1, g2, g3, g4⟩ := l36_1_eq (R := R) (k := k) hl hk0 hk hd lost down armed keep m (i + 1) g fl1 (crS kp i qu[i] G) (by omega) (by omega) h2 (fun f => ⟨by rw [crS_now]; exact (hb f).1, crS_last kp i qu[i] G hp0 hb f⟩)
    exact ⟨fl', h1.trans g1, g2, by omega, g4⟩

theorem crF_nil : ∀ (i : Nat) (q : List T69) (G : Int → T62), crF [] i q G = G
  | _, [], G => rfl
  | i, p :: q, G => by
    rw [crF_cons, show crS [] i p G = G by simp [crS, oddK]]
    exact crF_nil (i + 1) q G

/-- What is left of a file behind a crash. -/
def lastR (x : T64) : T64 := (x.1, x.2.2.1, x.2.2.1, ())
theorem l36_2_eq {R : Type} {k : List T64 → Option R} {fl : List T64} (hl : fl.length ≤ 1000000000) : ∀ (m i g : Nat) (o : List T64), i + m = fl.length → o.length = i →
    l36_2 fl k (g + m + 1) (i : Int) o = k (o ++ (fl.drop i).map lastR)
  | 0, i, g, o, hm, ho => by
    have hi : i = fl.length := by omega
    subst hi
    rw [List.drop_length]
    show s36_2 _ _ _ _ _ = _
    unfold s36_2
    rw [show decide (((fl.length : Nat) : Int) < (fl.length : Int)) = false by simp]
    simp
  | m + 1, i, g, o, hm, ho => by
    have hi : i < fl.length := by omega
    rw [List.drop_eq_getElem_cons hi, List.map_cons]
    show s36_2 _ _ _ _ _ = _
    unfold s36_2
    rw [show decide ((i : Int) < (fl.length : Int)) = true by simp; omega, cond_true]
    rw [show IntKind.i64.wrap ((i : Int) + 1) = ((i + 1 : Nat) : Int) by rw [wrapI (by omega) (by omega)]; rfl]
    simp only [show (decide (0 ≤ (i : Int)) && decide ((i : Int) < (fl.length : Int))) = true by simp; omega, asrtT, Int.toNat_natCast, List.getElem?_eq_getElem hi, Option.bind_some]
    rw [show decide (List.length (α := T64) o + List.length (α := T64) [(fl[i].1, fl[i].2.2.1, fl[i].2.2.1, ())] ≤ LIM) = true by unfold LIM; simp; omega, asrtT]
    refine (l36_2_eq hl m (i + 1) g _ (by omega) (by rw [List.length_append, ho]; rfl)).trans ?_
    rw [List.append_assoc]
    rfl

theorem gR_last {fl : List T64} {G : Int → T62} (hG : ∀ f, gR fl f = (f, G f)) (f : Int) : gR (fl.map lastR) f = (f, (G f).2.1, (G f).2.1, ()) := by
  have h := hG f
  unfold gR at h ⊢
  have e : (fl.map lastR).find? (fun x => x.1 == f) = (fl.find? fun x => x.1 == f).map lastR := by
    rw [List.find?_map]
    rfl
  rw [e]
  cases hc : fl.find? (fun x => x.1 == f) with
  | none =>
    rw [hc] at h
    have h : (f, ([] : List UInt8), ([] : List UInt8), ()) = (f, G f) := h
    have : G f = ([], [], ()) := (Prod.mk.inj h).2.symm
    rw [this]
    rfl
  | some x =>
    rw [hc] at h
    have h : x = (f, G f) := h
    rw [h]
    rfl

/-! ### Disk, plain: the reference's crash, whole; settle. -/
theorem l36_1_nil {R : Type} {k : Int → Bool → Int → List Int → List T64 → List T69 → Option R} (lost : Int) (down : Bool) (armed : Int) (keep : List Int) (fl : List T64) (qu : List T69) :
    l36_1 [] k FUEL 0 lost down armed keep fl qu = k lost down armed keep fl qu := by
  obtain ⟨g, hg⟩ := fuel_s 1 (by omega)
  rw [hg]
  show s36_1 _ _ _ _ _ _ _ _ _ _ = _
  unfold s36_1
  rw [show (decide ((0 : Int) < (qu.length : Int)) && decide ((([] : List Int).length : Int) > 0)) = false by simp, cond_false]

theorem m36_up {n : Nat} {a : A} {fl : List T64} {qu : List T69} (R : RelR n a fl qu) (hn : n ≤ 1000) (hd : a.down = false) {kp : List Int} (hk : kp.length ≤ 1000000000) (lost armed : Int) (kf : List Int) :
    ∃ fl', m36 kp lost false armed kf fl qu = some (((), ()), (((), (), lost, true, 0, kf, ()), (), (), fl', [], ())) ∧ RelR n (crashA kp a) fl' [] := by
  have hl : qu.length ≤ 1000000 := by have := R.len; rw [R.hqu]; omega
  have hfl := R.fln
  have hc : crashA kp a = { a with down := true, armed := 0, fs := fun f => ((crF kp 0 a.qu a.fs f).2.1, (crF kp 0 a.qu a.fs f).2.1, ()), qu := [] } := by unfold crashA; rw [hd]; rfl
  obtain ⟨g, hg⟩ := fuel_s (qu.length + 1) (by omega)
  obtain ⟨fl1, h1, h2, h3, h4⟩ : ∃ fl1, m36 kp lost false armed kf fl qu = l36_2 fl1 (fun y14 => some (((()), ()), (((), (), lost, true, 0, kf, ()), (), (), y14, [], ()))) FUEL 0 [] ∧ (∀ f, gR fl1 f = (f, crF kp 0 qu a.fs f)) ∧ fl1.length ≤ fl.length + qu.length ∧ (∀ f, (crF kp 0 qu a.fs f).2.1.length ≤ 16777216) := by
    by_cases hk0 : kp.length = 0
    · have : kp = [] := List.length_eq_zero_iff.1 hk0
      subst this
      refine ⟨fl, ?_, fun f => by rw [crF_nil]; exact R.hfs f, by omega, fun f => by rw [crF_nil]; exact R.last f⟩
      unfold m36
      rw [cond_false]
      exact l36_1_nil _ _ _ _ _ _
    · obtain ⟨fl', e1, e2, e3, e4⟩ := l36_1_eq (R := F36o.ty) (kp := kp) (k := fun y5 y6 y7 y8 y9 y10 =>
        l36_2 y9 (fun y14 => some (((()), ()), (((), (), y5, y6, y7, y8, ()), (), (), y14, [], ()))) FUEL 0 []) (qu := qu) hl (by omega) hk (fun p hp => R.dom p (by rw [← R.hqu]; exact hp)) lost true 0 kf qu.length 0 g fl a.fs (by omega) (by omega) R.hfs (fun f => ⟨R.now f, R.last f⟩)
      rw [List.drop_zero] at e2 e4
      refine ⟨fl', ?_, e2, e3, e4⟩
      unfold m36
      rw [cond_false, show FUEL = g + qu.length + 1 by omega]
      rw [show g + qu.length + 1 = FUEL by omega] at e1 ⊢
      exact e1
  obtain ⟨g2, hg2⟩ := fuel_s (fl1.length + 1) (by rw [R.hqu] at h3; omega)
  have h5 := l36_2_eq (R := F36o.ty) (k := fun y14 => some (((()), ()), (((), (), lost, true, 0, kf, ()), (), (), y14, [], ()))) (fl := fl1) (by rw [R.hqu] at h3; omega) fl1.length 0 g2 [] (by omega) rfl
  rw [show g2 + fl1.length + 1 = FUEL by omega] at h5
  refine ⟨fl1.map lastR, ?_, ?_⟩
  · rw [h1]
    refine h5.trans ?_
    rw [List.drop_zero, List.nil_append]
  · rw [hc]
    exact {
      hfs := fun f => by rw [gR_last h2, R.hqu]
      hqu := rfl
      len := Nat.zero_le _
      fln := by
        rw [R.hqu] at h3
        show (fl1.map lastR).length + 0 ≤ _
        rw [List.length_map]
        omega
      dom := fun p hp => by cases hp
      now := fun f => by rw [← R.hqu]; exact h4 f
      last := fun f => by rw [← R.hqu]; exact h4 f }

theorem m36_down (kp : List Int) (lost armed : Int) (kf : List Int) (fl : List T64) (qu : List T69) :
    m36 kp lost true armed kf fl qu = some (((), ()), (((), (), lost, true, armed, kf, ()), (), (), fl, qu, ())) := rfl

theorem m36_eq {n : Nat} {a : A} {fl : List T64} {qu : List T69} (R : RelR n a fl qu) (hn : n ≤ 1000) {kp : List Int} (hk : kp.length ≤ 1000000000) :
    ∃ fl' qu', m36 kp a.lost a.down a.armed a.keep fl qu = some (((), ()), (((), (), (crashA kp a).lost, (crashA kp a).down, (crashA kp a).armed, (crashA kp a).keep, ()), (), (), fl', qu', ())) ∧ RelR n (crashA kp a) fl' qu' := by
  cases hd : a.down with
  | true =>
    have : crashA kp a = a := by unfold crashA; rw [hd]; rfl
    rw [this, m36_down, hd]
    exact ⟨fl, qu, rfl, R⟩
  | false =>
    obtain ⟨fl', h1, h2⟩ := m36_up R hn hd hk a.lost a.armed a.keep
    obtain ⟨k1, k2, k3, k4⟩ := crashA_flags (kp := kp) hd
    rw [h1, k1, k2, k3, k4]
    exact ⟨fl', [], rfl, h2⟩

theorem l51_eq {R : Type} {f : Int} {k : List T69 → Option R} {qu : List T69} (hl : qu.length ≤ 1000000000) : ∀ (m i g : Nat) (o : List T69), i + m = qu.length → o.length ≤ i →
    l51_1 f qu k (g + m + 1) (i : Int) o = k (o ++ (qu.drop i).filter fun q => !(q.1 == f))
  | 0, i, g, o, hm, ho => by
    have hi : i = qu.length := by omega
    subst hi
    rw [List.drop_length]
    show s51_1 _ _ _ _ _ _ = _
    unfold s51_1
    rw [show decide (((qu.length : Nat) : Int) < (qu.length : Int)) = false by simp]
    simp
  | m + 1, i, g, o, hm, ho => by
    have hi : i < qu.length := by omega
    rw [List.drop_eq_getElem_cons hi, List.filter_cons]
    show s51_1 _ _ _ _ _ _ = _
    unfold s51_1
    rw [show decide ((i : Int) < (qu.length : Int)) = true by simp; omega, cond_true]
    rw [show IntKind.i64.wrap ((i : Int) + 1) = ((i + 1 : Nat) : Int) by rw [wrapI (by omega) (by omega)]; rfl]
    refine (cont_eq (if (!(qu[i].1 == f)) = true then o ++ [qu[i]] else o) (fun k4 => ?_)).trans ?_
    · simp only [show (decide (0 ≤ (i : Int)) && decide ((i : Int) < (qu.length : Int))) = true by simp; omega, asrtT, Int.toNat_natCast, List.getElem?_eq_getElem hi, Option.bind_some]
      show (bif !(qu[i].1 == f) then _ else _) = _
      cases h : !(qu[i].1 == f) with
      | true =>
        rw [cond_true, show decide (List.length (α := T69) o + List.length (α := T69) [qu[i]] ≤ LIM) = true by unfold LIM; simp; omega, asrtT]
        rfl
      | false => rfl
    · refine (l51_eq hl m (i + 1) g (if (!(qu[i].1 == f)) = true then o ++ [qu[i]] else o) (by omega) (by
        split
        · rw [List.length_append]; show o.length + 1 ≤ i + 1; omega
        · omega)).trans ?_
      split <;> simp

theorem m51_eq {n : Nat} {a : A} {fl : List T64} {qu : List T69} (R : RelR n a fl qu) (hn : n ≤ 1000) (f : Int) {s : List UInt8} (hs : s.length ≤ 16777216) (lost : Int) (down : Bool) (armed : Int) (keep : List Int) :
    ∃ fl' qu', m51 f s lost down armed keep fl qu = some (((), ()), (((), (), lost, down, armed, keep, ()), (), (), fl', qu', ())) ∧ RelR (n + 1) (settleA f s a) fl' qu' := by
  have hl : qu.length ≤ 1000000 := by have := R.len; rw [R.hqu]; omega
  have hfl := R.fln
  have h3 := List.length_filter_le (fun q : T69 => !(q.1 == f)) a.qu
  have h4 := setR_len fl (f, s, s, ())
  have h5 := R.len
  unfold m51
  rw [m60_eq (by omega), Option.bind_some]
  obtain ⟨g, hg⟩ := fuel_s (qu.length + 1) (by omega)
  refine ⟨setR fl (f, s, s, ()), qu.filter (fun q => !(q.1 == f)), ?_, {
    hfs := fun h => gR_setF R.hfs f _ h
    hqu := by rw [R.hqu]; rfl
    len := by
      show (a.qu.filter fun q => !(q.1 == f)).length ≤ _
      omega
    fln := by
      show (setR fl (f, s, s, ())).length + (a.qu.filter fun q => !(q.1 == f)).length ≤ _
      omega
    dom := fun p hp => R.dom p (List.mem_filter.1 hp).1
    now := fun h => by
      show (setF a.fs f (s, s, ()) h).1.length ≤ _
      unfold setF
      split
      · exact hs
      · exact R.now h
    last := fun h => by
      show (setF a.fs f (s, s, ()) h).2.1.length ≤ _
      unfold setF
      split
      · exact hs
      · exact R.last h }⟩
  have e := l51_eq (R := F51o.ty) (f := f) (k := fun y5 => some (((()), ()), (((), (), lost, down, armed, keep, ()), (), (), setR fl (f, s, s, ()), y5, ()))) (qu := qu) (by omega) qu.length 0 g [] (by omega) (Nat.le_refl _)
  rw [show g + qu.length + 1 = FUEL by omega] at e
  refine Eq.trans ?_ (e.trans ?_)
  · rfl
  · rw [List.drop_zero, List.nil_append]

theorem m46_eq (a : A) (fl : List T64) (qu : List T69) (lost armed : Int) (keep : List Int) (f : Int) : m46 (fl, qu, lost, a.down, armed, keep, ()) f = some (mayA a f) := by
  unfold m46 mayA
  cases a.down with
  | true => rfl
  | false =>
    by_cases hf : f < 0 ∨ 16 ≤ f
    · simp only [cond_false]
      rw [show (decide (f < 0) || decide (f > 15)) = true by simp; omega]
      simp [hf]
    · simp only [cond_false]
      rw [show (decide (f < 0) || decide (f > 15)) = false by simp; omega]
      simp [hf]

/-! ### Disk, plain: the reference's calls. -/
/-- A call is counted, and the scheduled crash, before which a Write is performed. -/
def comesA (f at_ : Int) (s : List UInt8) (a : A) : A := if endsA a = true then crashA (cntA a).keep (writeA f at_ s (cntA a)).2 else cntA a

theorem relR_cnt {n : Nat} {a : A} {fl : List T64} {qu : List T69} (R : RelR n a fl qu) : RelR n (cntA a) fl qu := by
  obtain ⟨_, _, _, h4, h5⟩ := cntA_flags a
  exact ⟨fun f => by rw [h4]; exact R.hfs f, by rw [h5]; exact R.hqu, by rw [h5]; exact R.len, by rw [h5]; exact R.fln, fun p hp => R.dom p (by rw [← h5]; exact hp), fun f => by rw [h4]; exact R.now f, fun f => by rw [h4]; exact R.last f⟩

theorem m53_eq {at_ : Int} {s : List UInt8} (hs : s.length ≤ 300) (ha : at_ ≤ 9223372036854775807) : m53 at_ s = some (decide (0 ≤ at_ ∧ at_ ≤ 16777216 ∧ at_ + s.length ≤ 16777216)) := by
  unfold m53
  congr 1
  by_cases h : 0 ≤ at_ ∧ at_ ≤ 16777216
  · rw [wrapI (by omega) (by omega)]
    simp [h]
  · rw [show (decide (at_ ≥ 0) && decide (at_ ≤ 16777216)) = false by simp; omega]
    simp
    omega

/-- A write that is possible. -/
theorem errW_ok {a : A} {f at_ : Int} {s : List UInt8} (hd : a.down = false) : errW f at_ s a = 0 ↔ (0 ≤ f ∧ f ≤ 15) ∧ 0 ≤ at_ ∧ at_ ≤ 16777216 ∧ at_ + s.length ≤ 16777216 := by
  unfold errW mayA
  rw [hd]
  by_cases h1 : f < 0 ∨ 16 ≤ f
  · simp [h1]; omega
  · by_cases h2 : at_ < 0
    · simp [h1, h2]; omega
    · by_cases h3 : 16777216 < at_ ∨ 16777216 - at_ < (s.length : Int)
      · simp [h1, h2, h3]; omega
      · simp [h1, h2, h3]; omega

theorem m50_eq {n : Nat} {a : A} {fl : List T64} {qu : List T69} (R : RelR n a fl qu) (N : Nice a) (hn : n ≤ 900) (f : Int) {at_ : Int} {s : List UInt8} (hs : s.length ≤ 300) (hN : at_ ≤ 9223372036854775807) :
    ∃ fl' qu', m50 f at_ s a.lost a.down a.armed a.keep fl qu = some (((), ()), (((), (), (comesA f at_ s a).lost, (comesA f at_ s a).down, (comesA f at_ s a).armed, (comesA f at_ s a).keep, ()), (), (), fl', qu', ())) ∧ RelR (n + 1) (comesA f at_ s a) fl' qu' := by
  obtain ⟨c1, c2, c3, c4, c5⟩ := cntA_flags a
  have hA := N.armed
  unfold m50
  by_cases h0 : a.down = true ∨ a.armed = 0
  · have hb : (a.down || (a.armed == 0)) = true := by simpa using h0
    have hc : cntA a = a := by unfold cntA; rw [if_pos h0]
    have he : endsA a = false := by
      unfold endsA
      rcases h0 with h | h
      · simp [h]
      · simp [h]
    have hp : comesA f at_ s a = a := by unfold comesA; rw [he, hc]; rfl
    rw [hb, cond_true, hp]
    exact ⟨fl, qu, rfl, R.more (by omega)⟩
  · have hd : a.down = false := by
      cases h : a.down with
      | false => rfl
      | true => exact absurd (.inl h) h0
    have ha0 : a.armed ≠ 0 := fun h => h0 (.inr h)
    have hb : (a.down || (a.armed == 0)) = false := by simp [hd, ha0]
    have hc : cntA a = { a with armed := a.armed - 1 } := by unfold cntA; rw [if_neg h0]
    rw [hb, cond_false, wrapI (x := a.armed - 1) (by omega) (by omega)]
    by_cases h3 : a.armed = 1
    · have he : endsA a = true := by unfold endsA; simp [hd, h3]
      have hp : comesA f at_ s a = crashA (cntA a).keep (writeA f at_ s (cntA a)).2 := by unfold comesA; rw [he]; rfl
      rw [show decide (a.armed - 1 > 0) = false by simp; omega, cond_false, hp]
      obtain ⟨w1, w2, w3, w4⟩ := writeA_flags f at_ s (cntA a)
      have hwd : (writeA f at_ s (cntA a)).2.down = false := by rw [w2, c2, hd]
      have hcd : (cntA a).down = false := by rw [c2, hd]
      obtain ⟨fl1, e1, R1⟩ : ∃ fl1, (∀ k3 : (Int × Bool × Int × (List Int) × (List T64) × (List T69)) → Option F50o.ty, ((bif (((decide (f ≥ 0)) && (decide (f ≤ 15))) == true) then (m53 at_ s) else some false).bind fun r1 =>
        bif (((decide (f ≥ 0)) && (decide (f ≤ 15))) && r1) then
          (m54 f at_ s a.lost a.down (a.armed - 1) a.keep fl qu).bind fun r2 =>
          k3 (r2.2.1.2.2.1, r2.2.1.2.2.2.1, r2.2.1.2.2.2.2.1, r2.2.1.2.2.2.2.2.1, r2.2.2.2.2.1, r2.2.2.2.2.2.1)
        else
          k3 (a.lost, a.down, (a.armed - 1), a.keep, fl, qu)) = k3 (a.lost, a.down, a.armed - 1, a.keep, fl1, (writeA f at_ s (cntA a)).2.qu)) ∧ RelR (n + 1) (writeA f at_ s (cntA a)).2 fl1 (writeA f at_ s (cntA a)).2.qu := by
        have herr := errW_ok (f := f) (at_ := at_) (s := s) hcd
        by_cases hf : 0 ≤ f ∧ f ≤ 15
        · rw [show ((decide (f ≥ 0)) && (decide (f ≤ 15))) = true by simp; omega]
          rw [show (true == true) = true from rfl, cond_true, m53_eq hs hN]
          by_cases hfit : 0 ≤ at_ ∧ at_ ≤ 16777216 ∧ at_ + s.length ≤ 16777216
          · have e0 := herr.2 ⟨hf, hfit⟩
            have hw : (writeA f at_ s (cntA a)).2 = addA f at_ s (cntA a) := by unfold writeA; simp only [e0, if_true]
            rw [hw]
            obtain ⟨fl', g1, g2⟩ := m54_eq (relR_cnt R) (by omega) f hfit.1 hfit.2.2 hs a.lost a.down (a.armed - 1) a.keep
            refine ⟨fl', fun k3 => ?_, g2⟩
            rw [Option.bind_some, show decide (0 ≤ at_ ∧ at_ ≤ 16777216 ∧ at_ + (s.length : Int) ≤ 16777216) = true by simpa using hfit]
            rw [show (true && true) = true from rfl, cond_true, g1]
            rfl
          · have e0 : ¬ errW f at_ s (cntA a) = 0 := fun h => hfit (herr.1 h).2
            have hw : (writeA f at_ s (cntA a)).2 = cntA a := by unfold writeA; simp only [e0, if_false]
            rw [hw]
            refine ⟨fl, fun k3 => ?_, ?_⟩
            · rw [Option.bind_some, show decide (0 ≤ at_ ∧ at_ ≤ 16777216 ∧ at_ + (s.length : Int) ≤ 16777216) = false by simpa using hfit, c5, ← R.hqu]
              rfl
            · rw [c5, ← R.hqu]
              exact (relR_cnt R).more (by omega)
        · have e0 : ¬ errW f at_ s (cntA a) = 0 := fun h => hf (herr.1 h).1
          have hw : (writeA f at_ s (cntA a)).2 = cntA a := by unfold writeA; simp only [e0, if_false]
          rw [hw]
          refine ⟨fl, fun k3 => ?_, ?_⟩
          · rw [show ((decide (f ≥ 0)) && (decide (f ≤ 15))) = false by simp; omega, c5, ← R.hqu]
            rfl
          · rw [c5, ← R.hqu]
            exact (relR_cnt R).more (by omega)
      obtain ⟨fl2, g1, g2⟩ := m36_up R1 (by omega) hwd (kp := (cntA a).keep) (by rw [c3]; exact N.keep) a.lost (a.armed - 1) a.keep
      obtain ⟨k1, k2, k3, k4⟩ := crashA_flags (kp := (cntA a).keep) hwd
      rw [k1, k2, k3, k4, w1, w4, c1, c3]
      rw [c3] at g1 g2
      refine ⟨fl2, [], ?_, g2⟩
      refine (cont_eq _ e1).trans ?_
      show (m36 a.keep a.lost a.down (a.armed - 1) a.keep fl1 _).bind _ = _
      rw [hd, g1]
      rfl
    · have he : endsA a = false := by unfold endsA; simp [hd, h3]
      have hp : comesA f at_ s a = cntA a := by unfold comesA; rw [he]; rfl
      rw [show decide (a.armed - 1 > 0) = true by simp; omega, cond_true, hp, c1, c2, c3]
      rw [show (cntA a).armed = a.armed - 1 by rw [hc]]
      exact ⟨fl, qu, rfl, (relR_cnt R).more (by omega)⟩

/-! ### Disk, plain: an act of the reference. -/
theorem comesA_pre (a : A) : comesA 0 0 [] a = preA a := by
  unfold comesA preA
  have : (writeA 0 0 [] (cntA a)).2 = cntA a := by
    unfold writeA addA
    simp
  rw [this]

theorem m32_eq {n : Nat} {a : A} {fl : List T64} {qu : List T69} (R : RelR n a fl qu) (N : Nice a) (hn : n ≤ 900) (f : Int) :
    ∃ fl' qu', m32 f a.lost a.down a.armed a.keep fl qu = some (((SyncA f a).1, ()), (((), (), (SyncA f a).2.lost, (SyncA f a).2.down, (SyncA f a).2.armed, (SyncA f a).2.keep, ()), (), (), fl', qu', ())) ∧ RelR (n + 2) (SyncA f a).2 fl' qu' := by
  obtain ⟨fl1, qu1, e1, R1⟩ := m50_eq R N hn 0 (at_ := 0) (s := []) (by simp) (by omega)
  rw [comesA_pre] at e1 R1
  have N1 := nice_pre N
  unfold m32
  rw [e1, Option.bind_some, SyncA_eq]
  simp only
  rw [m46_eq, Option.bind_some]
  revert R1 N1
  generalize preA a = b
  intro R1 N1
  unfold SyncB
  by_cases hm : mayA b f ≠ 0
  · rw [show (mayA b f != 0) = true from bne_iff_ne.2 hm, cond_true, if_pos hm]
    exact ⟨fl1, qu1, rfl, R1.more (by omega)⟩
  · have hm : mayA b f = 0 := by simpa using hm
    rw [show (mayA b f != 0) = false by simp [hm], cond_false, if_neg (by simp [hm])]
    have hL := N1.lost
    by_cases hl : 0 < b.lost
    · rw [show decide (b.lost > 0) = true by simpa using hl, cond_true, if_pos hl, wrapI (by omega) (by omega)]
      have R2 := R1.more (m := n + 2) (by omega)
      exact ⟨fl1, qu1, rfl, ⟨R2.hfs, R2.hqu, R2.len, R2.fln, R2.dom, R2.now, R2.last⟩⟩
    · rw [show decide (b.lost > 0) = false by simpa using hl, cond_false, if_neg hl]
      have hfl := R1.fln
      rw [m39_eq (by omega), Option.bind_some, R1.hfs]
      simp only
      obtain ⟨fl2, qu2, g1, g2⟩ := m51_eq R1 (by omega) f (R1.now f) b.lost b.down b.armed b.keep
      rw [g1]
      exact ⟨fl2, qu2, rfl, g2⟩

theorem m33_eq {n : Nat} {a : A} {fl : List T64} {qu : List T69} (R : RelR n a fl qu) (N : Nice a) (hn : n ≤ 900) (f size : Int) :
    ∃ fl' qu', m33 f size a.lost a.down a.armed a.keep fl qu = some (((TruncA f size a).1, ()), (((), (), (TruncA f size a).2.lost, (TruncA f size a).2.down, (TruncA f size a).2.armed, (TruncA f size a).2.keep, ()), (), (), fl', qu', ())) ∧ RelR (n + 2) (TruncA f size a).2 fl' qu' := by
  obtain ⟨fl1, qu1, e1, R1⟩ := m50_eq R N hn 0 (at_ := 0) (s := []) (by simp) (by omega)
  rw [comesA_pre] at e1 R1
  unfold m33
  rw [e1, Option.bind_some, TruncA_eq]
  simp only
  rw [m46_eq, Option.bind_some]
  revert R1
  generalize preA a = b
  intro R1
  unfold TruncB
  by_cases hm : mayA b f ≠ 0
  · rw [show (mayA b f != 0) = true from bne_iff_ne.2 hm, cond_true, if_pos hm]
    exact ⟨fl1, qu1, rfl, R1.more (by omega)⟩
  · have hm : mayA b f = 0 := by simpa using hm
    rw [show (mayA b f != 0) = false by simp [hm], cond_false, if_neg (by simp [hm])]
    have hfl := R1.fln
    rw [m39_eq (by omega), Option.bind_some, R1.hfs]
    simp only
    by_cases hs : size < 0 ∨ ((b.fs f).1.length : Int) < size
    · rw [show ((decide (size < 0)) || (decide (size > ((b.fs f).1.length : Int)))) = true by simp; omega, cond_true, if_pos hs]
      exact ⟨fl1, qu1, rfl, R1.more (by omega)⟩
    · rw [show ((decide (size < 0)) || (decide (size > ((b.fs f).1.length : Int)))) = false by simp; omega, cond_false, if_neg hs]
      rw [show bounds true (b.fs f).1.length 0 size = true by unfold bounds; simp; omega, asrtT]
      rw [show subl (b.fs f).1 0 size = (b.fs f).1.take size.toNat by simp [subl]]
      obtain ⟨fl2, qu2, g1, g2⟩ := m51_eq R1 (by omega) f (s := (b.fs f).1.take size.toNat) (by rw [List.length_take]; have := R1.now f; omega) b.lost b.down b.armed b.keep
      rw [g1]
      exact ⟨fl2, qu2, rfl, g2⟩

theorem m38_eq {n : Nat} {a : A} {fl : List T64} {qu : List T69} (R : RelR n a fl qu) (N : Nice a) (hn : n ≤ 900) (f : Int) {at_ : Int} {s : List UInt8} (hs : s.length ≤ 300) (hN : at_ ≤ 9223372036854775807) :
    ∃ fl' qu', m38 f at_ s a.lost a.down a.armed a.keep fl qu = some (((WriteA f at_ s a).1, ()), (((), (), (WriteA f at_ s a).2.lost, (WriteA f at_ s a).2.down, (WriteA f at_ s a).2.armed, (WriteA f at_ s a).2.keep, ()), (), (), fl', qu', ())) ∧ RelR (n + 2) (WriteA f at_ s a).2 fl' qu' := by
  obtain ⟨fl1, qu1, e1, R1⟩ := m50_eq R N hn f hs hN
  unfold m38
  rw [e1, Option.bind_some]
  simp only
  rw [m46_eq, Option.bind_some]
  by_cases he : endsA a = true
  · have hp : comesA f at_ s a = crashA (cntA a).keep (writeA f at_ s (cntA a)).2 := by unfold comesA; rw [he]; rfl
    have hW : WriteA f at_ s a = (8, comesA f at_ s a) := by unfold WriteA; rw [hp, he]; rfl
    have hd : a.down = false := by
      unfold endsA at he
      rw [Bool.and_eq_true] at he
      simpa using he.1
    have hwd : (writeA f at_ s (cntA a)).2.down = false := by
      rw [(writeA_flags f at_ s (cntA a)).2.1, (cntA_flags a).2.1, hd]
    have hcd : (comesA f at_ s a).down = true := by rw [hp]; exact (crashA_flags hwd).2.1
    have hm : mayA (comesA f at_ s a) f = 8 := by unfold mayA; rw [if_pos hcd]
    rw [hm, hW]
    exact ⟨fl1, qu1, rfl, R1.more (by omega)⟩
  · have he : endsA a = false := by simpa using he
    have hp : comesA f at_ s a = cntA a := by unfold comesA; rw [he]; rfl
    have hW : WriteA f at_ s a = writeA f at_ s (cntA a) := by unfold WriteA; rw [he]; rfl
    rw [hp] at R1 ⊢
    rw [hW]
    revert R1
    generalize cntA a = b
    intro R1
    have same : ∀ e : Int, errW f at_ s b = e → e ≠ 0 → ∃ fl' qu', (some ((e, ()), (((), (), b.lost, b.down, b.armed, b.keep, ()), (), (), fl1, qu1, ())) : Option F38o.ty) = some (((writeA f at_ s b).1, ()), (((), (), (writeA f at_ s b).2.lost, (writeA f at_ s b).2.down, (writeA f at_ s b).2.armed, (writeA f at_ s b).2.keep, ()), (), (), fl', qu', ())) ∧ RelR (n + 2) (writeA f at_ s b).2 fl' qu' := by
      intro e h1 h2
      have : writeA f at_ s b = (e, b) := by unfold writeA; rw [h1, if_neg h2]
      rw [this]
      exact ⟨fl1, qu1, rfl, R1.more (by omega)⟩
    by_cases hm : mayA b f ≠ 0
    · rw [show (mayA b f != 0) = true from bne_iff_ne.2 hm, cond_true]
      exact same (mayA b f) (by unfold errW; rw [if_pos hm]) hm
    · have hm : mayA b f = 0 := by simpa using hm
      rw [show (mayA b f != 0) = false by simp [hm], cond_false]
      by_cases h0 : at_ < 0
      · rw [show decide (at_ < 0) = true by simpa using h0, cond_true]
        exact same 1 (by simp [errW, hm, h0]) (by decide)
      · rw [show decide (at_ < 0) = false by simpa using h0, cond_false, m53_eq hs hN, Option.bind_some]
        by_cases h1 : 16777216 < at_ ∨ 16777216 - at_ < (s.length : Int)
        · rw [show decide (0 ≤ at_ ∧ at_ ≤ 16777216 ∧ at_ + (s.length : Int) ≤ 16777216) = false by simp; omega]
          exact same 6 (by simp [errW, hm, h0, h1]) (by decide)
        · rw [show decide (0 ≤ at_ ∧ at_ ≤ 16777216 ∧ at_ + (s.length : Int) ≤ 16777216) = true by simp; omega]
          have h2 : errW f at_ s b = 0 := by simp [errW, hm, h0, h1]
          have hw : writeA f at_ s b = (0, addA f at_ s b) := by unfold writeA; rw [h2]; rfl
          obtain ⟨fl2, g1, g2⟩ := m54_eq R1 (by omega) f (at_ := at_) (by omega) (by omega) hs b.lost b.down b.armed b.keep
          rw [hw, show (!true) = false from rfl, cond_false, g1]
          obtain ⟨w1, w2, w3, w4⟩ := writeA_flags f at_ s b
          rw [hw] at w1 w2 w3 w4
          exact ⟨fl2, _, by rw [w1, w2, w3, w4]; rfl, g2⟩

theorem m13_eq {n : Nat} {a : A} {fl : List T64} {qu : List T69} (R : RelR n a fl qu) (N : Nice a) (hn : n ≤ 900) (x : T32) (hs : x.2.2.2.1.length ≤ 300) (hk : x.2.2.2.2.1.length ≤ 60) (hN : x.2.2.1 ≤ 9223372036854775807) :
    ∃ fl' qu', m13 x a.lost a.down a.armed a.keep fl qu = some (((doA x a).1, ()), (((), (), (doA x a).2.lost, (doA x a).2.down, (doA x a).2.armed, (doA x a).2.keep, ()), (), (), fl', qu', ())) ∧ RelR (n + 2) (doA x a).2 fl' qu' := by
  unfold m13 doA
  simp only [and7, and3]
  have R2 := R.more (m := n + 2) (by omega)
  by_cases h2 : x.1 % 8 = 2
  · rw [show (x.1 % 8 == 2) = true by simp [h2], cond_true, if_pos h2]
    obtain ⟨fl', qu', e1, e2⟩ := m32_eq R N hn x.2.1
    rw [e1, Option.bind_some]
    exact ⟨fl', qu', rfl, e2⟩
  · rw [show (x.1 % 8 == 2) = false by simp [h2], cond_false, if_neg h2]
    by_cases h3 : x.1 % 8 = 3
    · rw [show (x.1 % 8 == 3) = true by simp [h3], cond_true, if_pos h3]
      obtain ⟨fl', qu', e1, e2⟩ := m33_eq R N hn x.2.1 x.2.2.1
      rw [e1, Option.bind_some]
      exact ⟨fl', qu', rfl, e2⟩
    · rw [show (x.1 % 8 == 3) = false by simp [h3], cond_false, if_neg h3]
      by_cases h4 : x.1 % 8 = 4
      · rw [show (x.1 % 8 == 4) = true by simp [h4], cond_true, if_pos h4]
        have e : (bif decide (0 > x.2.2.1 % 4) then 0 else x.2.2.1 % 4) = x.2.2.1 % 4 := by
          rw [show decide (0 > x.2.2.1 % 4) = false by simp; omega]; rfl
        rw [e]
        exact ⟨fl, qu, rfl, ⟨R2.hfs, R2.hqu, R2.len, R2.fln, R2.dom, R2.now, R2.last⟩⟩
      · rw [show (x.1 % 8 == 4) = false by simp [h4], cond_false, if_neg h4]
        by_cases h5 : x.1 % 8 = 5
        · rw [show (x.1 % 8 == 5) = true by simp [h5], cond_true, if_pos h5]
          rw [show decide (List.length (α := Int) x.2.2.2.2.1 ≤ LIM) = true by unfold LIM; simp; omega, asrtT]
          have e : (bif decide (0 > x.2.2.1) then 0 else x.2.2.1) = max x.2.2.1 0 := by
            rw [cond_if]
            split
            · rename_i h; have := of_decide_eq_true h; omega
            · rename_i h; have : ¬ 0 > x.2.2.1 := fun h' => h (decide_eq_true h'); omega
          rw [e]
          exact ⟨fl, qu, rfl, ⟨R2.hfs, R2.hqu, R2.len, R2.fln, R2.dom, R2.now, R2.last⟩⟩
        · rw [show (x.1 % 8 == 5) = false by simp [h5], cond_false, if_neg h5]
          by_cases h6 : x.1 % 8 = 6
          · rw [show (x.1 % 8 == 6) = true by simp [h6], cond_true, if_pos h6]
            obtain ⟨fl', qu', e1, e2⟩ := m36_eq R (by omega) (kp := x.2.2.2.2.1) (by omega)
            rw [e1, Option.bind_some]
            exact ⟨fl', qu', rfl, e2.more (by omega)⟩
          · rw [show (x.1 % 8 == 6) = false by simp [h6], cond_false, if_neg h6]
            by_cases h7 : x.1 % 8 = 7
            · rw [show (x.1 % 8 == 7) = true by simp [h7], cond_true, if_pos h7]
              exact ⟨fl, qu, rfl, ⟨R2.hfs, R2.hqu, R2.len, R2.fln, R2.dom, R2.now, R2.last⟩⟩
            · rw [show (x.1 % 8 == 7) = false by simp [h7], cond_false, if_neg h7]
              obtain ⟨fl', qu', e1, e2⟩ := m38_eq R N hn x.2.1 hs hN
              rw [e1, Option.bind_some]
              exact ⟨fl', qu', rfl, e2⟩

theorem m21_eq {n : Nat} {a : A} {fl : List T64} {qu : List T69} (R : RelR n a fl qu) (hn : n ≤ 1000) (f at_ size lost armed : Int) (keep : List Int) (hz : size ≤ 9223372036854775807) :
    m21 f at_ size lost a.down armed keep fl qu = some ((((ReadA f at_ size a).1, (ReadA f at_ size a).2, ()), ()), (((), (), lost, a.down, armed, keep, ()), fl, qu, ())) := by
  unfold m21 ReadA
  rw [m46_eq, Option.bind_some]
  by_cases hm : mayA a f ≠ 0
  · rw [show (mayA a f != 0) = true from bne_iff_ne.2 hm, cond_true, if_pos hm]
  · have hm : mayA a f = 0 := by simpa using hm
    rw [show (mayA a f != 0) = false by simp [hm], cond_false, if_neg (by simp [hm])]
    by_cases h0 : at_ < 0 ∨ size < 0
    · rw [show ((decide (at_ < 0)) || (decide (size < 0))) = true by simp; omega, cond_true, if_pos h0]
    · rw [show ((decide (at_ < 0)) || (decide (size < 0))) = false by simp; omega, cond_false, if_neg h0]
      have hfl := R.fln
      rw [m39_eq (by omega), Option.bind_some, R.hfs]
      have hnow := R.now f
      revert hnow
      simp only
      generalize (a.fs f).1 = s
      intro hnow
      by_cases h1 : (s.length : Int) ≤ at_
      · rw [show decide (at_ ≥ (s.length : Int)) = true by simpa using h1, cond_true]
        rw [List.drop_eq_nil_of_le (by omega), List.take_nil]
      · rw [show decide (at_ ≥ (s.length : Int)) = false by simpa using h1, cond_false]
        rw [wrapI (x := (s.length : Int) - at_) (by omega) (by omega)]
        have hmn : (bif decide ((s.length : Int) - at_ < size) then (s.length : Int) - at_ else size) = min size ((s.length : Int) - at_) := by
          rw [cond_if]
          split
          · rename_i h; have := of_decide_eq_true h; omega
          · rename_i h; have : ¬ (s.length : Int) - at_ < size := fun h' => h (decide_eq_true h'); omega
        rw [hmn, wrapI (by omega) (by omega)]
        rw [show bounds true s.length at_ (at_ + min size ((s.length : Int) - at_)) = true by unfold bounds; simp; omega, asrtT]
        have hsub : subl s at_ (at_ + min size ((s.length : Int) - at_)) = (s.drop at_.toNat).take size.toNat := by
          unfold subl
          rw [List.drop_take]
          apply List.ext_getElem?
          intro i
          rw [List.getElem?_take, List.getElem?_take, List.getElem?_drop]
          by_cases hi : at_.toNat + i < s.length
          · by_cases h2 : i < size.toNat
            · rw [if_pos (by omega), if_pos h2]
            · rw [if_neg (by omega), if_neg h2]
          · rw [List.getElem?_eq_none (by omega)]
            split <;> split <;> rfl
        rw [hsub]

/-! ### Disk, plain: New, Copy, few, the acts one after the other. -/
theorem bind_to {α β : Type} {x : Option α} {y : α} {k : α → Option β} {z : Option β} (h : x = some y) (h2 : k y = z) : x.bind k = z := by
  rw [h]; exact h2

def A0 : A := ⟨fun _ => ([], [], ()), [], 0, false, 0, []⟩
theorem rel0 : Rel 0 A0 [] [] [] where
  hfs := fun f => rfl
  hqu := rfl
  hst := fun p => by simp [inS, mapAt, A0]
  nf := rfl
  ns := rfl
  len := Nat.le_refl _
  dom := fun p hp => by cases hp
  now := fun f => Nat.zero_le _
  last := fun f => Nat.zero_le _
theorem relR0 : RelR 0 A0 [] [] where
  hfs := fun f => rfl
  hqu := rfl
  len := Nat.le_refl _
  fln := Nat.le_refl _
  dom := fun p hp => by cases hp
  now := fun f => Nat.zero_le _
  last := fun f => Nat.zero_le _
theorem nice0 : Nice A0 := ⟨⟨by decide, by decide⟩, ⟨by decide, by decide⟩, by decide⟩

theorem m18_eq {n : Nat} {a : A} {fs : List (Int × T62)} {qu : List T69} {st : List (T69 × Bool)} (R : Rel n a fs qu st) (hn : n ≤ 1000) (lost : Int) (down : Bool) (armed : Int) (keep : List Int) :
    m18 lost down armed keep fs qu st = some (((), ()), (((), (), (), lost, down, armed, keep, ()), fs, qu, st, ((), (), (), lost, down, armed, keep, ()), fs, qu, st, ())) := by
  unfold m18
  rw [cloneM_eq (by have := R.len; rw [R.hqu]; omega)]
  rfl

/-- The bounds of few, of one act. -/
def fewX (x : T32) : Bool := decide (x.2.2.2.1.length ≤ 300 ∧ x.2.2.2.2.1.length ≤ 60 ∧ (x.2.2.1 ≤ 3000 ∨ 16776916 ≤ x.2.2.1))
def fewB (l : List T32) : Bool := l.all fewX && decide (l.length ≤ 40)

theorem l9_eq {l : List T32} (hl : l.length ≤ 9223372036854775807) (k1 k2 : Option Bool) : ∀ (m i g : Nat), i + m = l.length →
    l9_1 l k1 k2 (g + m + 1) (i : Int) = if (l.drop i).all fewX = true then k1 else k2
  | 0, i, g, hm => by
    have hi : i = l.length := by omega
    subst hi
    rw [List.drop_length]
    show s9_1 _ _ _ _ _ = _
    unfold s9_1
    rw [show decide (((l.length : Nat) : Int) < (l.length : Int)) = false by simp]
    rfl
  | m + 1, i, g, hm => by
    have hi : i < l.length := by omega
    rw [List.drop_eq_getElem_cons hi, List.all_cons]
    show s9_1 _ _ _ _ _ = _
    unfold s9_1
    rw [show decide ((i : Int) < (l.length : Int)) = true by simp; omega, cond_true]
    rw [show IntKind.i64.wrap ((i : Int) + 1) = ((i + 1 : Nat) : Int) by rw [wrapI (by omega) (by omega)]; rfl]
    have e1 : idx l (i : Int) = some l[i] := by rw [idx_nat, List.getElem?_eq_getElem hi]
    rw [e1, Option.bind_some]
    have ih : l9_1 l k1 k2 (g + (m + 1)) ((i + 1 : Nat) : Int) = _ := l9_eq hl k1 k2 m (i + 1) g (by omega)
    generalize l[i] = x at *
    by_cases h1 : x.2.2.2.1.length ≤ 300
    · rw [show decide ((x.2.2.2.1.length : Int) > 300) = false by simp; omega]
      rw [show ((false == false) : Bool) = true from rfl]
      unfold idxG
      rw [cond_true, e1, Option.bind_some, Bool.false_or]
      by_cases h2 : x.2.2.2.2.1.length ≤ 60
      · rw [show decide ((x.2.2.2.2.1.length : Int) > 60) = false by simp; omega]
        rw [show ((false == false) : Bool) = true from rfl, cond_true, Option.bind_some, Bool.true_and]
        by_cases h3 : x.2.2.1 ≤ 3000
        · rw [show decide (x.2.2.1 > 3000) = false by simp; omega]
          rw [show ((false == true) : Bool) = false from rfl, cond_false, Option.bind_some, Bool.false_and, Bool.false_or, cond_false, ih]
          rw [show fewX x = true by unfold fewX; simp; omega, Bool.true_and]
        · rw [show decide (x.2.2.1 > 3000) = true by simp; omega]
          rw [show ((true == true) : Bool) = true from rfl, cond_true, Option.bind_some, Bool.true_and, Bool.false_or]
          by_cases h4 : 16776916 ≤ x.2.2.1
          · rw [show decide (x.2.2.1 < 16776916) = false by simp; omega, cond_false, ih]
            rw [show fewX x = true by unfold fewX; simp; omega, Bool.true_and]
          · rw [show decide (x.2.2.1 < 16776916) = true by simp; omega, cond_true]
            rw [show fewX x = false by unfold fewX; simp; omega]
            rfl
      · rw [show decide ((x.2.2.2.2.1.length : Int) > 60) = true by simp; omega]
        rw [show fewX x = false by unfold fewX; simp; omega]
        rfl
    · rw [show decide ((x.2.2.2.1.length : Int) > 300) = true by simp; omega]
      rw [show fewX x = false by unfold fewX; simp; omega]
      rfl

theorem m9_eq {l : List T32} (hl : l.length ≤ 9223372036854775807) : m9 l = some (fewB l) := by
  unfold m9
  obtain ⟨g, hg⟩ := fuel_s (l.length + 1) (by omega)
  rw [show FUEL = g + l.length + 1 by omega]
  rw [show (0 : Int) = ((0 : Nat) : Int) from rfl, l9_eq hl _ _ l.length 0 g (by omega), List.drop_zero]
  unfold fewB
  cases h : l.all fewX with
  | true =>
    rw [if_pos rfl, Bool.true_and]
    congr 1
    exact decide_eq_decide.2 (by omega)
  | false => rfl

/-- What few gives of an act. -/
theorem fewB_get {l : List T32} (h : fewB l = true) : l.length ≤ 40 ∧ ∀ x ∈ l, x.2.2.2.1.length ≤ 300 ∧ x.2.2.2.2.1.length ≤ 60 ∧ (x.2.2.1 ≤ 3000 ∨ 16776916 ≤ x.2.2.1) := by
  unfold fewB at h
  rw [Bool.and_eq_true] at h
  refine ⟨of_decide_eq_true h.2, fun x hx => ?_⟩
  have := List.all_eq_true.1 h.1 x hx
  exact of_decide_eq_true this

/-- Acts one after the other. -/
def playA : List T32 → A → A
  | [], a => a
  | x :: l, a => playA l (doA x a).2

/-- Acts within the bounds, and the numbers of a machine. -/
structure Ok (l : List T32) : Prop where
  len : l.length ≤ 40
  str : ∀ x ∈ l, x.2.2.2.1.length ≤ 300
  kp : ∀ x ∈ l, x.2.2.2.2.1.length ≤ 60
  num : ∀ x ∈ l, x.2.2.1 ≤ 9223372036854775807

theorem ok_of {l : List T32} (h : fewB l = true) (hw : ∀ x ∈ l, x.2.2.1 ≤ 9223372036854775807) : Ok l :=
  ⟨(fewB_get h).1, fun x hx => ((fewB_get h).2 x hx).1, fun x hx => ((fewB_get h).2 x hx).2.1, hw⟩

theorem l22_eq {R : Type} {l : List T32} (O : Ok l) {k : Int → Bool → Int → List Int → List (Int × T62) → List T69 → List (T69 × Bool) → Option R} :
    ∀ (m i g : Nat) (a : A) (fs : List (Int × T62)) (qu : List T69) (st : List (T69 × Bool)), i + m = l.length → Rel i a fs qu st → Nice a →
    ∃ fs' qu' st', l22_1 l k (g + m + 1) (i : Int) a.lost a.down a.armed a.keep fs qu st = k (playA (l.drop i) a).lost (playA (l.drop i) a).down (playA (l.drop i) a).armed (playA (l.drop i) a).keep fs' qu' st' ∧ Rel l.length (playA (l.drop i) a) fs' qu' st' ∧ Nice (playA (l.drop i) a)
  | 0, i, g, a, fs, qu, st, hm, hR, hN => by
    have hi : i = l.length := by omega
    subst hi
    rw [List.drop_length]
    refine ⟨fs, qu, st, ?_, hR, hN⟩
    show s22_1 _ _ _ _ _ _ _ _ _ _ _ = _
    unfold s22_1
    rw [show decide (((l.length : Nat) : Int) < (l.length : Int)) = false by simp]
    rfl
  | m + 1, i, g, a, fs, qu, st, hm, hR, hN => by
    have hi : i < l.length := by omega
    have hO := O.len
    rw [List.drop_eq_getElem_cons hi]
    have hx := List.getElem_mem hi
    obtain ⟨fs1, qu1, st1, e1, R1, N1⟩ := m12_eq hR hN (by omega) l[i] (O.str _ hx) (O.kp _ hx) (O.num _ hx)
    obtain ⟨fs2, qu2, st2, e2, R2, N2⟩ := l22_eq O (k := k) m (i + 1) g (doA l[i] a).2 fs1 qu1 st1 (by omega) R1 N1
    refine ⟨fs2, qu2, st2, ?_, R2, N2⟩
    show s22_1 _ _ _ _ _ _ _ _ _ _ _ = _
    unfold s22_1
    rw [show decide ((i : Int) < (l.length : Int)) = true by simp; omega]
    rw [show (bif true then true else false) = true from rfl, cond_true]
    rw [idx_nat, List.getElem?_eq_getElem hi, Option.bind_some, e1, Option.bind_some]
    rw [show IntKind.i64.wrap ((i : Int) + 1) = ((i + 1 : Nat) : Int) by rw [wrapI (by omega) (by omega)]; rfl]
    exact e2

theorem m22_eq {l : List T32} (O : Ok l) : ∃ fs qu st, m22 l = some (((), ()), (((), (), (), (playA l A0).lost, (playA l A0).down, (playA l A0).armed, (playA l A0).keep, ()), fs, qu, st, ())) ∧ Rel 40 (playA l A0) fs qu st ∧ Nice (playA l A0) := by
  have hO := O.len
  obtain ⟨g, hg⟩ := fuel_s (l.length + 1) (by omega)
  obtain ⟨fs, qu, st, h1, h2, h3⟩ := l22_eq (R := F22o.ty) O (k := fun y4 y5 y6 y7 y8 y9 y10 =>
      some (((), ()), (((), (), (), y4, y5, y6, y7, ()), y8, y9, y10, ()))) l.length 0 g A0 [] [] [] (by omega) rel0 nice0
  rw [List.drop_zero] at h1 h2 h3
  rw [show g + l.length + 1 = FUEL by omega] at h1
  refine ⟨fs, qu, st, ?_, h2.more hO, h3⟩
  unfold m22
  exact bind_to rfl h1

/-! ### Disk, plain: the examples. -/
/-- The machine is up again. -/
def upA (a : A) : A := { a with down := false }
theorem rel_up {n : Nat} {a : A} {fs : List (Int × T62)} {qu : List T69} {st : List (T69 × Bool)} (R : Rel n a fs qu st) : Rel n (upA a) fs qu st :=
  ⟨R.hfs, R.hqu, R.hst, R.nf, R.ns, R.len, R.dom, R.now, R.last⟩
theorem nice_up {a : A} (N : Nice a) : Nice (upA a) := ⟨N.armed, N.lost, N.keep⟩

def e1A : A := (WriteA 0 0 [97, 98, 99] A0).2
def e2A : A := (SyncA 0 e1A).2
def e3A : A := (WriteA 0 1 [88, 89] e2A).2
def e4A : A := upA (crashA [1] e3A)
def f1A : A := upA (crashA [0] e3A)
def f2A : A := (WriteA 1 62 [97, 98, 99, 100] f1A).2
def f3A : A := upA (crashA [0, 1] f2A)
def f4A : A := (WriteA 16 0 [] f3A).2

theorem v1 : (WriteA 0 0 [97, 98, 99] A0).1 = 0 := by decide +kernel
theorem v2 : (SyncA 0 e1A).1 = 0 := by decide +kernel
theorem v3 : (crashA [1] e3A).down = true := by decide +kernel
theorem v4 : ReadA 0 0 9 (crashA [1] e3A) = ([], 8) := by decide +kernel
theorem v5 : ReadA 0 0 9 e4A = ([97, 88, 89], 0) := by decide +kernel
theorem v6 : ReadA 0 1 9 f1A = ([98, 99], 0) := by decide +kernel
theorem v7 : (WriteA 1 62 [97, 98, 99, 100] f1A).1 = 0 := by decide +kernel
theorem v8 : ReadA 1 60 100 f3A = ([0, 0, 0, 0, 99, 100], 0) := by decide +kernel
theorem v9 : (f3A.fs 1).1.length = 66 := by decide +kernel
theorem v10 : (WriteA 16 0 [] f3A).1 = 1 := by decide +kernel
theorem v11 : (WriteA 1 16777216 [97] f4A).1 = 6 := by decide +kernel

theorem bif_t {α : Type} {b : Bool} {x y z : α} (h : b = true) (h2 : x = z) : (bif b then x else y) = z := by
  rw [h]; exact h2
theorem bif_f {α : Type} {b : Bool} {x y z : α} (h : b = false) (h2 : y = z) : (bif b then x else y) = z := by
  rw [h]; exact h2
theorem bt_eq {b : Bool} (h : b = true) : (b == true) = true := by rw [h]; rfl
theorem bt_and {b c : Bool} (h : b = true) (h2 : c = true) : (b && c) = true := by rw [h, h2]; rfl
theorem bt_int {x y : Int} (h : x = y) : (x == y) = true := by simp [h]

theorem m8_true : m8 = some true := by
  obtain ⟨fs1, qu1, st1, h1, R1⟩ := m29_eq rel0 nice0 (by omega) 0 0 (s := [97, 98, 99]) (by decide)
  have N1 := nice_Write nice0 0 0 [97, 98, 99]
  obtain ⟨fs2, qu2, st2, h2, R2⟩ := m19_eq R1 N1 (by omega) 0
  have N2 := nice_Sync N1 0
  obtain ⟨fs3, qu3, st3, h3, R3⟩ := m29_eq R2 N2 (by omega) 0 1 (s := [88, 89]) (by decide)
  have N3 := nice_Write N2 0 1 [88, 89]
  have h4 := m18_eq R3 (by omega) e3A.lost e3A.down e3A.armed e3A.keep
  obtain ⟨fs5, qu5, st5, h5, R5⟩ := crash_eq R3 (by omega) (kp := [1]) (by decide)
  have h6 := m20_eq R5 0 0 9 (crashA [1] e3A).lost (crashA [1] e3A).armed (crashA [1] e3A).keep
  have h7 := m20_eq (rel_up R5) 0 0 9 (crashA [1] e3A).lost (crashA [1] e3A).armed (crashA [1] e3A).keep
  obtain ⟨fs8, qu8, st8, h8, R8⟩ := crash_eq R3 (by omega) (kp := [0]) (by decide)
  have N8 := nice_up (nice_crash N3 [0])
  have h9 := m20_eq (rel_up R8) 0 1 9 f1A.lost f1A.armed f1A.keep
  obtain ⟨fs10, qu10, st10, h10, R10⟩ := m29_eq (rel_up R8) N8 (by omega) 1 62 (s := [97, 98, 99, 100]) (by decide)
  have N10 := nice_Write N8 1 62 [97, 98, 99, 100]
  obtain ⟨fs11, qu11, st11, h11, R11⟩ := crash_eq R10 (by omega) (kp := [0, 1]) (by decide)
  have N11 := nice_up (nice_crash N10 [0, 1])
  have h12 := m20_eq (rel_up R11) 1 60 100 f3A.lost f3A.armed f3A.keep
  obtain ⟨fs13, qu13, st13, h13, R13⟩ := m29_eq (rel_up R11) N11 (by omega) 16 0 (s := []) (by decide)
  have N13 := nice_Write N11 16 0 []
  obtain ⟨fs14, qu14, st14, h14, R14⟩ := m29_eq R13 N13 (by omega) 1 16777216 (s := [97]) (by decide)
  unfold m8
  refine bind_to rfl (bind_to h1 (bind_to h2 (bind_to h3 (bind_to h4 (bind_to h5 (bind_to h6 (bind_to h7 (bind_to h8 (bind_to h9 (bind_to h10 (bind_to h11 (bind_to h12 ?_))))))))))))
  have g9 : Option.getD (mapAt (.int .i64) G62 1 fs11) (([] : (List UInt8)), ([] : (List UInt8)), ()) = f3A.fs 1 := (rel_up R11).hfs 1
  have w1 : (WriteA 0 0 [97, 98, 99] A0).1 = 0 := v1
  have w2 : (SyncA 0 (WriteA 0 0 [97, 98, 99] A0).2).1 = 0 := v2
  simp only [g9]
  have hh : ∀ (b1 b2 b4 b6 b8 b9 b11 : Int) (b3 : Bool) (s5 s7 s10 : List UInt8) (n12 : Nat), b1 = 0 → b2 = 0 → b3 = true → b4 = 8 → s5 = [97, 88, 89] → b6 = 0 → s7 = [98, 99] → b8 = 0 → b9 = 0 → s10 = [0, 0, 0, 0, 99, 100] → b11 = 0 → n12 = 66 →
      ((((((((((((b1 == 0) && (b2 == 0)) && b3) && (b4 == 8)) && (s5 == ([97, 88, 89] : List UInt8))) && (b6 == 0)) && (s7 == ([98, 99] : List UInt8))) && (b8 == 0)) && (b9 == 0)) && (s10 == ([0, 0, 0, 0, 99, 100] : List UInt8))) && (b11 == 0)) = true) ∧ (((n12 : Int) == 66) = true) := by
    rintro b1 b2 b4 b6 b8 b9 b11 b3 s5 s7 s10 n12 rfl rfl rfl rfl rfl rfl rfl rfl rfl rfl rfl rfl
    decide
  obtain ⟨k1, k2⟩ := hh _ _ _ _ _ _ _ _ _ _ _ _ v1 v2 v3 (congrArg Prod.snd v4) (congrArg Prod.fst v5) (congrArg Prod.snd v5) (congrArg Prod.fst v6) (congrArg Prod.snd v6) v7 (congrArg Prod.fst v8) (congrArg Prod.snd v8) v9
  have k3 := bt_and k1 k2
  refine bif_t (bt_eq k1) (bif_t (bt_eq k3) (bind_to h13 ?_))
  have k4 := bt_and k3 (bt_int v10)
  refine bif_t (bt_eq k4) (bind_to h14 ?_)
  exact congrArg some (bt_and k4 (bt_int v11))

/-! ### Disk, plain: DiskTells. -/
theorem bif_bind {α β : Type} {b : Bool} {x y : Option α} {v : α} {k : α → Option β} {z : Option β} (h : b = true) (h1 : x = some v) (h2 : k v = z) : (bif b then x else y).bind k = z := by
  rw [h]; exact bind_to h1 h2

theorem l3_eq {R : Type} {l : List T32} (O : Ok l) (f : Int) {k1 : Int → Bool → Int → List Int → Int → Bool → Int → List Int → List (Int × T62) → List T69 → List (T69 × Bool) → List T64 → List T69 → Option R} {k2 : Option R} :
    ∀ (m i g : Nat) (a : A) (fs : List (Int × T62)) (qu : List T69) (st : List (T69 × Bool)) (fl : List T64) (qr : List T69), i + m = l.length → Rel i a fs qu st → RelR (2 * i) a fl qr → Nice a →
    ∃ a' fs' qu' st' fl' qr', l3_1 l f k1 k2 (g + m + 1) (i : Int) a.lost a.down a.armed a.keep a.lost a.down a.armed a.keep fs qu st fl qr = k1 a'.lost a'.down a'.armed a'.keep a'.lost a'.down a'.armed a'.keep fs' qu' st' fl' qr' ∧ Rel l.length a' fs' qu' st' ∧ RelR (2 * l.length) a' fl' qr'
  | 0, i, g, a, fs, qu, st, fl, qr, hm, hR, hQ, hN => by
    have hi : i = l.length := by omega
    subst hi
    refine ⟨a, fs, qu, st, fl, qr, ?_, hR, hQ⟩
    show s3_1 _ _ _ _ _ _ _ _ _ _ _ _ _ _ _ _ _ _ _ = _
    unfold s3_1
    rw [show decide (((l.length : Nat) : Int) < (l.length : Int)) = false by simp]
    rfl
  | m + 1, i, g, a, fs, qu, st, fl, qr, hm, hR, hQ, hN => by
    have hi : i < l.length := by omega
    have hO := O.len
    have hx := List.getElem_mem hi
    have hx0 := List.getElem_mem (show 0 < l.length by omega)
    obtain ⟨fs1, qu1, st1, e1, R1, N1⟩ := m12_eq hR hN (by omega) l[i] (O.str _ hx) (O.kp _ hx) (O.num _ hx)
    obtain ⟨fl1, qr1, e2, Q1⟩ := m13_eq hQ hN (by omega) l[i] (O.str _ hx) (O.kp _ hx) (O.num _ hx)
    obtain ⟨a', fs2, qu2, st2, fl2, qr2, e3, R2, Q2⟩ := l3_eq O f (k1 := k1) (k2 := k2) m (i + 1) g (doA l[i] a).2 fs1 qu1 st1 fl1 qr1 (by omega) R1 Q1 N1
    refine ⟨a', fs2, qu2, st2, fl2, qr2, ?_, R2, Q2⟩
    show s3_1 _ _ _ _ _ _ _ _ _ _ _ _ _ _ _ _ _ _ _ = _
    unfold s3_1
    rw [show decide ((i : Int) < (l.length : Int)) = true by simp; omega, cond_true]
    rw [show IntKind.i64.wrap ((i : Int) + 1) = ((i + 1 : Nat) : Int) by rw [wrapI (by omega) (by omega)]; rfl]
    have ei : idx l (i : Int) = some l[i] := by rw [idx_nat, List.getElem?_eq_getElem hi]
    have ei0 : idx l 0 = some l[0] := by rw [show (0 : Int) = ((0 : Nat) : Int) from rfl, idx_nat, List.getElem?_eq_getElem (by omega)]
    refine (cont_eq ((doA l[i] a).2.lost, (doA l[i] a).2.down, (doA l[i] a).2.armed, (doA l[i] a).2.keep, (doA l[i] a).2.lost, (doA l[i] a).2.down, (doA l[i] a).2.armed, (doA l[i] a).2.keep, fs1, qu1, st1, fl1, qr1) (fun k47 => ?_)).trans e3
    have hfl := Q1.fln
    have e4 := m39_eq (fl := fl1) (by omega) f (doA l[i] a).2.lost (doA l[i] a).2.down (doA l[i] a).2.armed (doA l[i] a).2.keep qr1
    rw [Q1.hfs] at e4
    have hG : Option.getD (mapAt (.int .i64) G62 f fs1) (([] : (List UInt8)), ([] : (List UInt8)), ()) = (doA l[i] a).2.fs f := R1.hfs f
    have hn : ∀ x : Int, (x != x) = false := fun x => by simp
    have hd : ∀ x : Bool, (!(x == x)) = false := fun x => by simp
    have c1 : (((doA l[i] a).1 != (doA l[i] a).1) == false) = true := by rw [hn]; rfl
    have c2 : ((((doA l[i] a).1 != (doA l[i] a).1) || (!((doA l[i] a).2.down == (doA l[i] a).2.down))) == false) = true := by rw [hn, hd]; rfl
    have c3 : ((((doA l[i] a).1 != (doA l[i] a).1) || (!((doA l[i] a).2.down == (doA l[i] a).2.down))) || ((List.length ((doA l[i] a).2.fs f).1 : Int) != (List.length ((doA l[i] a).2.fs f).1 : Int))) = false := by rw [hn, hd, hn]; rfl
    refine bind_to ei (bind_to e1 (bind_to ei (bind_to e2 (bif_t c1 (bif_bind c1 rfl (bif_t c2 (bif_t c2 (bind_to e4 ?_))))))))
    simp only [hG]
    refine bif_f c3 ?_
    cases hc : ((i : Int) == IntKind.i64.wrap (Int.tdiv (l.length : Int) 2)) with
    | false => rfl
    | true =>
      obtain ⟨fs4, qu4, st4, g1, R4, N4⟩ := m12_eq R1 N1 (by omega) l[0] (O.str _ hx0) (O.kp _ hx0) (O.num _ hx0)
      obtain ⟨fs5, qu5, st5, g2, R5⟩ := m19_eq R4 N4 (by omega) f
      exact bind_to (m18_eq R1 (by omega) _ _ _ _) (bind_to ei0 (bind_to g1 (bind_to g2 rfl)))

theorem diskTells (l : List T32) (f at_ size : Int) (hl : l.length ≤ 9223372036854775807) (hw : ∀ x ∈ l, x.2.2.1 ≤ 9223372036854775807) (hz : size ≤ 9223372036854775807) : m3 l f at_ size = some true := by
  unfold m3
  refine bind_to m8_true (bind_to (m9_eq hl) ?_)
  cases hf : fewB l with
  | false => rfl
  | true =>
    have O := ok_of hf hw
    have hO := O.len
    obtain ⟨g, hg⟩ := fuel_s (l.length + 1) (by omega)
    obtain ⟨a', fs', qu', st', fl', qr', e1, R1, Q1⟩ := l3_eq (R := Bool) O f (k1 := fun y48 y49 y50 y51 y52 y53 y54 y55 y56 y57 y58 y59 y60 =>
        (m20 f at_ size y48 y49 y50 y51 y56 y57 y58).bind fun r61 =>
        (m21 f at_ size y52 y53 y54 y55 y59 y60).bind fun r62 =>
        some ((true && (r61.1.1.1 == r62.1.1.1)) && (r61.1.1.2.1 == r62.1.1.2.1))) (k2 := some false) l.length 0 g A0 [] [] [] [] [] (by omega) rel0 relR0 nice0
    rw [show g + l.length + 1 = FUEL by omega] at e1
    refine bind_to rfl (bind_to rfl (e1.trans ?_))
    have h1 := m20_eq R1 f at_ size a'.lost a'.armed a'.keep
    have h2 := m21_eq Q1 (by omega) f at_ size a'.lost a'.armed a'.keep hz
    refine bind_to h1 (bind_to h2 ?_)
    simp

/-- What a machine's data gives. -/
theorem wf_acts {l : List T32} (h : Wf (.sl G32) l) : l.length ≤ 9223372036854775807 ∧ ∀ x ∈ l, x.2.2.1 ≤ 9223372036854775807 := by
  have h : List.length l ≤ maxLen ∧ ∀ y ∈ l, Wf G32 y := h
  refine ⟨by have := h.1; unfold maxLen at this; omega, fun x hx => ?_⟩
  have hx : Wf (.int .i64) x.1 ∧ Wf (.int .i64) x.2.1 ∧ Wf (.int .i64) x.2.2.1 ∧ _ := h.2 x hx
  exact (wf_i64 hx.2.2.1).2

end Go.Proofs.Ytondjihmmjjinaa
