/- Disk, plain: DiskSurvives. -/
import Derived.Test.YtondjihmmjjinaaT30
namespace Go.Proofs.Ytondjihmmjjinaa
open Go Go.Eng
set_option linter.unusedVariables false
set_option linter.unusedSimpArgs false

/-- A whole file is read. -/
theorem read_all {a : A} {f : Int} (hd : a.down = false) (hf : 0 ≤ f ∧ f ≤ 15) (hl : (a.fs f).1.length ≤ 16777216) : ReadA f 0 16777216 a = ((a.fs f).1, 0) := by
  unfold ReadA
  have hmay : mayA a f = 0 := by
    unfold mayA
    rw [hd]
    rw [if_neg (by simp), if_neg (by omega)]
  rw [if_neg (by rw [hmay]; simp), if_neg (by omega)]
  simp only [Int.toNat_zero, List.drop_zero]
  rw [List.take_of_length_le (by omega)]

theorem m23_eq {n : Nat} {a : A} {fs : List (Int × T62)} {qu : List T69} {st : List (T69 × Bool)} (R : Rel n a fs qu st) (hn : n ≤ 1000) (hd : a.down = false) {f : Int} (hf : 0 ≤ f ∧ f ≤ 15) {kp : List Int} (hk : kp.length ≤ 1000000000) :
    m23 f kp a.lost a.down a.armed a.keep fs qu st = some ((((crF kp 0 a.qu a.fs f).2.1, true, ()), ()), (((), (), (), a.lost, a.down, a.armed, a.keep, ()), fs, qu, st, ())) := by
  unfold m23
  obtain ⟨fs2, qu2, st2, h1, R2⟩ := crash_eq R hn hk
  have h2 := m20_eq (rel_up R2) f 0 16777216 (crashA kp a).lost (crashA kp a).armed (crashA kp a).keep
  have hc : crashA kp a = { a with down := true, armed := 0, fs := fun f => ((crF kp 0 a.qu a.fs f).2.1, (crF kp 0 a.qu a.fs f).2.1, ()), qu := [] } := by unfold crashA; rw [hd]; rfl
  have h3 : ReadA f 0 16777216 (upA (crashA kp a)) = ((crF kp 0 a.qu a.fs f).2.1, 0) := by
    rw [read_all (a := upA (crashA kp a)) rfl hf ((rel_up R2).now f), hc]
    rfl
  rw [h3] at h2
  refine bind_to (m18_eq R hn _ _ _ _) (bind_to h1 (bind_to h2 ?_))
  rfl

theorem m24_eq (s : List UInt8) (j : Nat) : m24 s (j : Int) = some ((byteD s j).toNat : Int) := by
  unfold m24
  by_cases h : j < s.length
  · rw [show ((decide ((j : Int) < 0)) || (decide ((j : Int) ≥ (s.length : Int)))) = false by simp; omega, cond_false, idx_nat, byteD_get h]
    rfl
  · rw [show ((decide ((j : Int) < 0)) || (decide ((j : Int) ≥ (s.length : Int)))) = true by simp; omega, cond_true, byteD_end (by omega)]
    rfl

theorem byte_eq {a b : UInt8} : (((a.toNat : Int) == (b.toNat : Int)) = true) ↔ a = b := by
  rw [beq_iff_eq]
  constructor
  · intro h
    have h : a.toNat = b.toNat := by omega
    exact UInt8.toNat.inj h
  · intro h; rw [h]

theorem l4_1_eq {R : Type} {now last out : List UInt8} {n : Nat} {k : Bool → Bool → Option R} (hl : out.length ≤ now.length) (ho : out.length ≤ 16777216) (hn : 64 * n ≤ out.length) : ∀ (m j g : Nat) (x y : Bool), 64 * n ≤ j → m = min (64 * n + 64) out.length - j →
    ∃ x' y', l4_1 now last out (n : Int) k (g + m + 1) x y (j : Int) = k x' y' ∧ (x = true → (∀ i, j ≤ i → i < 64 * n + 64 → byteD out i = byteD now i) → x' = true) ∧ (y = true → (∀ i, j ≤ i → i < 64 * n + 64 → byteD out i = byteD last i) → y' = true)
  | 0, j, g, x, y, hj, hm => by
    refine ⟨x, y, ?_, fun h _ => h, fun h _ => h⟩
    show s4_1 _ _ _ _ _ _ _ _ _ = _
    unfold s4_1
    rw [wrapI (x := 64 * (n : Int)) (by omega) (by omega), wrapI (by omega) (by omega)]
    rw [show ((decide ((j : Int) < 64 * (n : Int) + 64)) && (decide ((j : Int) < (out.length : Int)))) = false by simp; omega]
    rfl
  | m + 1, j, g, x, y, hj, hm => by
    have hjo : j < out.length := by omega
    have hjn : j < now.length := by omega
    obtain ⟨x', y', h1, h2, h3⟩ := l4_1_eq (last := last) (k := k) hl ho hn m (j + 1) g (x && ((((byteD out j).toNat : Int)) == (((byteD now j).toNat : Int)))) (y && ((((byteD out j).toNat : Int)) == (((byteD last j).toNat : Int)))) (by omega) (by omega)
    refine ⟨x', y', ?_, ?_, ?_⟩
    · show s4_1 _ _ _ _ _ _ _ _ _ = _
      unfold s4_1
      rw [wrapI (x := 64 * (n : Int)) (by omega) (by omega), wrapI (x := 64 * (n : Int) + 64) (by omega) (by omega)]
      rw [show ((decide ((j : Int) < 64 * (n : Int) + 64)) && (decide ((j : Int) < (out.length : Int)))) = true by simp; omega, cond_true]
      rw [show IntKind.i64.wrap ((j : Int) + 1) = ((j + 1 : Nat) : Int) by rw [wrapI (by omega) (by omega)]; rfl]
      refine Eq.trans ?_ h1
      cases x with
      | true =>
        have e1 : idxG (true == true) (0 : UInt8) out (j : Int) = some (byteD out j) := by
          unfold idxG
          rw [show (true == true) = true from rfl, cond_true, idx_nat, byteD_get hjo]
        have e2 : idxG (true == true) (0 : UInt8) now (j : Int) = some (byteD now j) := by
          unfold idxG
          rw [show (true == true) = true from rfl, cond_true, idx_nat, byteD_get hjn]
        rw [e1, Option.bind_some, e2, Option.bind_some]
        cases y with
        | true =>
          rw [e1, Option.bind_some, m24_eq]
          rfl
        | false => rfl
      | false =>
        refine bind_to (y := (0 : UInt8)) rfl (bind_to (y := (0 : UInt8)) rfl ?_)
        cases y with
        | true =>
          have e1 : idxG (true == true) (0 : UInt8) out (j : Int) = some (byteD out j) := by
            unfold idxG
            rw [show (true == true) = true from rfl, cond_true, idx_nat, byteD_get hjo]
          rw [e1, Option.bind_some, m24_eq]
          rfl
        | false => rfl
    · intro hx hb
      refine h2 ?_ (fun i hi => hb i (by omega))
      rw [hx, Bool.true_and]
      exact byte_eq.2 (hb j (Nat.le_refl _) (by omega))
    · intro hy hb
      refine h3 ?_ (fun i hi => hb i (by omega))
      rw [hy, Bool.true_and]
      exact byte_eq.2 (hb j (Nat.le_refl _) (by omega))

theorem l4_2_eq {R : Type} {now last out : List UInt8} {q : List T69} {f : Int} {S : Nat → Prop} (h : Surv now last out q f S) (ho : now.length ≤ 16777216) {k1 k2 : Option R} : ∀ (m n g : Nat), m = (out.length + 63) / 64 - n → n ≤ 300000 →
    l4_2 now last out k1 k2 (g + m + 1) (n : Int) = k1
  | 0, n, g, hm, hn => by
    show s4_2 _ _ _ _ _ _ _ = _
    unfold s4_2
    have hle := h.le
    rw [wrapI (x := 64 * (n : Int)) (by omega) (by omega)]
    rw [show decide (64 * (n : Int) < (out.length : Int)) = false by simp; omega]
    rfl
  | m + 1, n, g, hm, hn => by
    have hle := h.le
    have hlt : 64 * n < out.length := by omega
    show s4_2 _ _ _ _ _ _ _ = _
    unfold s4_2
    rw [wrapI (x := 64 * (n : Int)) (by omega) (by omega)]
    rw [show decide (64 * (n : Int) < (out.length : Int)) = true by simp; omega, cond_true]
    obtain ⟨g2, hg2⟩ := fuel_s (min (64 * n + 64) out.length - 64 * n + 1) (by omega)
    obtain ⟨x', y', e1, e2, e3⟩ := l4_1_eq (R := R) (last := last) (n := n) (k := fun y12 y13 =>
        bif ((!y12) && (!y13)) then
          k2
        else
          l4_2 now last out k1 k2 (g + m + 1) (IntKind.i64.wrap ((n : Int) + 1))) h.le (by omega) (by omega) (min (64 * n + 64) out.length - 64 * n) (64 * n) g2 true true (by omega) rfl
    rw [show g2 + (min (64 * n + 64) out.length - 64 * n) + 1 = FUEL by omega, show ((64 * n : Nat) : Int) = 64 * (n : Int) by omega] at e1
    refine e1.trans ?_
    have hxy : ((!x') && (!y')) = false := by
      by_cases hs : S n
      · rw [e2 rfl (fun i hi hi2 => h.new i (by rw [show i / 64 = n by omega]; exact hs))]; rfl
      · rw [e3 rfl (fun i hi hi2 => h.old i (by rw [show i / 64 = n by omega]; exact hs))]; simp
    rw [show IntKind.i64.wrap ((n : Int) + 1) = ((n + 1 : Nat) : Int) by rw [wrapI (by omega) (by omega)]; rfl]
    simp only [hxy, cond_false]
    exact l4_2_eq h ho m (n + 1) g (by omega) (by omega)

theorem odd1 (i : Nat) : oddK [1] i = true := by
  unfold oddK
  rw [show i % ([1] : List Int).length = 0 from Nat.mod_one i]
  rfl

theorem diskSurvives (l : List T32) (f : Int) (keep : List Int) (hl : l.length ≤ 9223372036854775807) (hw : ∀ x ∈ l, x.2.2.1 ≤ 9223372036854775807) : m4 l f keep = some true := by
  unfold m4
  refine bind_to m8_true (bind_to (m9_eq hl) ?_)
  by_cases hf : fewB l = true ∧ keep.length ≤ 60
  · obtain ⟨hf, hk⟩ := hf
    have O := ok_of hf hw
    obtain ⟨fs, qu, st, e1, R, N⟩ := m22_eq O
    have I := inv_play l
    rw [hf, show decide ((keep.length : Int) > 60) = false by simp; omega]
    rw [show ((!true) || false) = false from rfl, cond_false]
    refine bind_to e1 ?_
    revert R N I
    generalize playA l A0 = a
    intro R N I
    have hG : Option.getD (mapAt (.int .i64) G62 f fs) (([] : (List UInt8)), ([] : (List UInt8)), ()) = a.fs f := R.hfs f
    by_cases hup : a.down = false ∧ 0 ≤ f ∧ f ≤ 15
    · obtain ⟨hd, hf0⟩ := hup
      have hb : ((a.down || (decide (f < 0))) || (decide (f > 15))) = false := by rw [hd]; simp; omega
      refine bif_t (by show (((a.down || (decide (f < 0))) || (decide (f > 15))) == false) = true; rw [hb]; rfl) ?_
      by_cases hs : (a.fs f).1.length ≤ 100000
      · refine bif_f (by
          show (((a.down || (decide (f < 0))) || (decide (f > 15))) || decide (((Option.getD (mapAt (.int .i64) G62 f fs) (([] : (List UInt8)), ([] : (List UInt8)), ())).1.length : Int) > 100000)) = false
          rw [hb, hG]
          simp
          omega) ?_
        have h4 := m20_eq R f 0 16777216 a.lost a.armed a.keep
        rw [read_all hd hf0 (R.now f)] at h4
        have h5 := m23_eq R (by omega) hd hf0 (kp := []) (by simp)
        rw [crF_nil] at h5
        have h6 := m23_eq R (by omega) hd hf0 (kp := [1]) (by simp)
        have h7 := m23_eq R (by omega) hd hf0 (kp := keep) (by omega)
        obtain ⟨S1, s1, s2⟩ := crF_surv [1] f a.qu 0 a.fs (fun p hp => (R.dom p hp).1) (I.le f)
        have hall := surv_all s1 (s2 odd1) (I.top f) (I.eq f)
        rw [hall] at h6
        obtain ⟨S2, s3, s4⟩ := crF_surv keep f a.qu 0 a.fs (fun p hp => (R.dom p hp).1) (I.le f)
        refine bind_to h4 (bind_to h5 (bind_to h6 (bind_to h7 ?_)))
        refine bif_f ?_ ?_
        · have h8 := s3.ge
          have h9 := s3.le
          simp
          omega
        · obtain ⟨g, hg⟩ := fuel_s (((crF keep 0 a.qu a.fs f).2.1.length + 63) / 64 + 1) (by have := s3.le; omega)
          have e := l4_2_eq (R := Bool) s3 (R.now f) (k1 := some true) (k2 := some false) (((crF keep 0 a.qu a.fs f).2.1.length + 63) / 64) 0 g rfl (by omega)
          rw [show g + ((crF keep 0 a.qu a.fs f).2.1.length + 63) / 64 + 1 = FUEL by omega] at e
          exact e
      · refine bif_t (by
          show (((a.down || (decide (f < 0))) || (decide (f > 15))) || decide (((Option.getD (mapAt (.int .i64) G62 f fs) (([] : (List UInt8)), ([] : (List UInt8)), ())).1.length : Int) > 100000)) = true
          rw [hb, hG]
          simp
          omega) rfl
    · have hb : ((a.down || (decide (f < 0))) || (decide (f > 15))) = true := by
        cases hd : a.down with
        | true => rfl
        | false =>
          have : ¬ (0 ≤ f ∧ f ≤ 15) := fun h => hup ⟨hd, h⟩
          simp
          omega
      refine bif_f (by show (((a.down || (decide (f < 0))) || (decide (f > 15))) == false) = false; rw [hb]; rfl) ?_
      refine bif_t (by show (bif ((a.down || (decide (f < 0))) || (decide (f > 15))) then true else false) = true; rw [hb]; rfl) rfl
  · refine bif_t ?_ rfl
    cases hc : fewB l with
    | false => rfl
    | true =>
      have : ¬ keep.length ≤ 60 := fun h => hf ⟨hc, h⟩
      simp
      omega

end Go.Proofs.Ytondjihmmjjinaa
