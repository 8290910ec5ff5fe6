/- Disk, plain: what is pending, and what is not. -/
import Derived.Test.YtondjihmmjjinaaT16
namespace Go.Proofs.Ytondjihmmjjinaa
open Go Go.Eng
set_option linter.unusedVariables false
set_option linter.unusedSimpArgs false

/-- What holds of files and queue, and is kept by what an act is made of, holds behind it. -/
theorem doA_keeps {P : A → Prop} {x : T32} (hflag : ∀ a b : A, a.fs = b.fs → a.qu = b.qu → P a → P b)
    (hadd : ∀ (a : A) (at_ : Int) (s : List UInt8), 0 ≤ at_ → s ≠ [] → P a → P (addA x.2.1 at_ s a))
    (hset : ∀ (a : A) (s : List UInt8), P a → P (settleA x.2.1 s a))
    (hcr : ∀ (a : A) (kp : List Int), P a → P (crashA kp a)) {a : A} (h : P a) : P (doA x a).2 := by
  have hcnt : ∀ a : A, P a → P (cntA a) := fun a h => hflag a _ (cntA_flags a).2.2.2.1.symm (cntA_flags a).2.2.2.2.symm h
  have hpre : ∀ a : A, P a → P (preA a) := by
    intro a h
    unfold preA
    split
    · exact hcr _ _ (hcnt a h)
    · exact hcnt a h
  have hw : ∀ (a : A) (at_ : Int) (s : List UInt8), P a → P (writeA x.2.1 at_ s a).2 := by
    intro a at_ s h
    unfold writeA
    show P (if errW x.2.1 at_ s a = 0 then addA x.2.1 at_ s a else a)
    split
    · rename_i he
      by_cases hs : s = []
      · subst hs
        rw [show addA x.2.1 at_ [] a = a by simp [addA]]
        exact h
      · refine hadd a at_ s ?_ hs h
        unfold errW at he
        split at he
        · rename_i h1; exact absurd he h1
        · split at he
          · cases he
          · omega
    · exact h
  unfold doA
  split
  · unfold SyncA
    have := hpre a h
    split
    · exact this
    · split
      · exact hflag (preA a) _ rfl rfl this
      · exact hset _ _ this
  · split
    · unfold TruncA
      have := hpre a h
      split
      · exact this
      · split
        · exact this
        · exact hset _ _ this
    · split
      · exact hflag a _ rfl rfl h
      · split
        · exact hflag a _ rfl rfl h
        · split
          · exact hcr _ _ h
          · split
            · exact hflag a _ rfl rfl h
            · unfold WriteA
              split
              · exact hcr _ _ (hw _ _ _ (hcnt a h))
              · exact hw _ _ _ (hcnt a h)

theorem playA_keeps {P : A → Prop} : ∀ (l : List T32) (a : A), (∀ x ∈ l, ∀ a : A, P a → P (doA x a).2) → P a → P (playA l a)
  | [], a, _, h => h
  | x :: l, a, hx, h => playA_keeps l _ (fun y hy => hx y (List.mem_cons_of_mem _ hy)) (hx x List.mem_cons_self a h)

theorem addQ_old (f : Int) {p : T69} : ∀ (m : Nat) (n : Int) (q : List T69), p ∈ q → p ∈ addQ f m n q
  | 0, _, q, h => h
  | m + 1, n, q, h => by
    simp only [addQ]
    refine addQ_old f m (n + 1) _ ?_
    split
    · exact h
    · exact List.mem_append_left _ h
theorem addQ_new (f : Int) : ∀ (m : Nat) (n k : Int) (q : List T69), n ≤ k → k < n + m → (f, k, ()) ∈ addQ f m n q
  | 0, n, k, q, h1, h2 => by omega
  | m + 1, n, k, q, h1, h2 => by
    simp only [addQ]
    by_cases e : k = n
    · subst e
      refine addQ_old f m (k + 1) _ ?_
      split
      · rename_i h; exact h
      · exact List.mem_append_right _ (List.mem_singleton.2 rfl)
    · exact addQ_new f m (n + 1) k _ (by omega) (by omega)

/-- What is not pending is durable. -/
structure Inv (a : A) : Prop where
  le : ∀ f, (a.fs f).2.1.length ≤ (a.fs f).1.length
  top : ∀ f, (a.fs f).2.1.length < (a.fs f).1.length → (f, ((((a.fs f).1.length - 1) / 64 : Nat) : Int), ()) ∈ a.qu
  eq : ∀ (f : Int) (i : Nat), (f, ((i / 64 : Nat) : Int), ()) ∉ a.qu → byteD (a.fs f).1 i = byteD (a.fs f).2.1 i

theorem inv0 : Inv A0 := ⟨fun f => Nat.le_refl _, fun f h => absurd h (Nat.lt_irrefl _), fun f i h => rfl⟩

theorem inv_crash {a : A} (h : Inv a) (kp : List Int) : Inv (crashA kp a) := by
  unfold crashA
  split
  · exact h
  · exact ⟨fun f => Nat.le_refl _, fun f h => absurd h (Nat.lt_irrefl _), fun f i h => rfl⟩

theorem inv_settle {a : A} (h : Inv a) (f : Int) (s : List UInt8) : Inv (settleA f s a) where
  le := fun g => by
    show (setF a.fs f (s, s, ()) g).2.1.length ≤ (setF a.fs f (s, s, ()) g).1.length
    unfold setF
    split
    · exact Nat.le_refl _
    · exact h.le g
  top := fun g => by
    show (setF a.fs f (s, s, ()) g).2.1.length < (setF a.fs f (s, s, ()) g).1.length → (g, ((((setF a.fs f (s, s, ()) g).1.length - 1) / 64 : Nat) : Int), ()) ∈ a.qu.filter fun p => !(p.1 == f)
    unfold setF
    split
    · intro h; exact absurd h (Nat.lt_irrefl _)
    · rename_i hne
      intro hlt
      exact List.mem_filter.2 ⟨h.top g hlt, by simpa using hne⟩
  eq := fun g i => by
    show (g, ((i / 64 : Nat) : Int), ()) ∉ a.qu.filter (fun p => !(p.1 == f)) → byteD (setF a.fs f (s, s, ()) g).1 i = byteD (setF a.fs f (s, s, ()) g).2.1 i
    unfold setF
    split
    · intro _; rfl
    · rename_i hne
      intro hn
      exact h.eq g i (fun hm => hn (List.mem_filter.2 ⟨hm, by simpa using hne⟩))

theorem inv_add {a : A} (h : Inv a) (f : Int) {at_ : Int} {s : List UInt8} (h0 : 0 ≤ at_) (hs : s ≠ []) : Inv (addA f at_ s a) := by
  have ha2 : addA f at_ s a = { a with fs := setF a.fs f (putS (a.fs f).1 at_.toNat s, (a.fs f).2.1, ()), qu := addQ f (cntQ at_ s.length) (at_ / 64) a.qu } := by simp [addA, hs]
  have hpos : 0 < s.length := List.length_pos_iff.2 hs
  have hcn : ((cntQ at_ s.length : Nat) : Int) = (at_ + s.length - 1) / 64 - at_ / 64 + 1 := by unfold cntQ; omega
  obtain ⟨n, rfl⟩ := Int.eq_ofNat_of_zero_le h0
  rw [Int.toNat_natCast] at ha2
  rw [ha2]
  exact {
    le := fun g => by
      show (setF a.fs f (putS (a.fs f).1 n s, (a.fs f).2.1, ()) g).2.1.length ≤ (setF a.fs f (putS (a.fs f).1 n s, (a.fs f).2.1, ()) g).1.length
      unfold setF
      split
      · show (a.fs f).2.1.length ≤ (putS (a.fs f).1 n s).length
        rw [putS_len hs]
        have := h.le f
        omega
      · exact h.le g
    top := fun g => by
      show (setF a.fs f (putS (a.fs f).1 n s, (a.fs f).2.1, ()) g).2.1.length < (setF a.fs f (putS (a.fs f).1 n s, (a.fs f).2.1, ()) g).1.length → (g, ((((setF a.fs f (putS (a.fs f).1 n s, (a.fs f).2.1, ()) g).1.length - 1) / 64 : Nat) : Int), ()) ∈ addQ f (cntQ n s.length) ((n : Int) / 64) a.qu
      unfold setF
      split
      · rename_i hg
        show (a.fs f).2.1.length < (putS (a.fs f).1 n s).length → (g, ((((putS (a.fs f).1 n s).length - 1) / 64 : Nat) : Int), ()) ∈ _
        rw [putS_len hs, hg]
        intro hlt
        by_cases hm : (a.fs f).1.length ≤ n + s.length
        · rw [Nat.max_eq_right hm]
          exact addQ_new f _ _ _ _ (by omega) (by omega)
        · rw [Nat.max_eq_left (by omega)] at hlt ⊢
          exact addQ_old f _ _ _ (h.top f hlt)
      · intro hlt
        exact addQ_old f _ _ _ (h.top g hlt)
    eq := fun g i => by
      show (g, ((i / 64 : Nat) : Int), ()) ∉ addQ f (cntQ n s.length) ((n : Int) / 64) a.qu → byteD (setF a.fs f (putS (a.fs f).1 n s, (a.fs f).2.1, ()) g).1 i = byteD (setF a.fs f (putS (a.fs f).1 n s, (a.fs f).2.1, ()) g).2.1 i
      unfold setF
      split
      · rename_i hg
        rw [hg]
        intro hn
        show byteD (putS (a.fs f).1 n s) i = byteD (a.fs f).2.1 i
        rw [byteD_put hs]
        split
        · rename_i hin
          exact absurd (addQ_new f (cntQ n s.length) ((n : Int) / 64) ((i / 64 : Nat) : Int) a.qu (by omega) (by omega)) hn
        · exact h.eq f i (fun hm => hn (addQ_old f _ _ _ hm))
      · intro hn
        exact h.eq g i (fun hm => hn (addQ_old f _ _ _ hm)) }

theorem inv_do {a : A} (h : Inv a) (x : T32) : Inv (doA x a).2 :=
  doA_keeps (P := Inv) (fun a b h1 h2 h => ⟨fun f => by rw [← h1]; exact h.le f, fun f => by rw [← h1, ← h2]; exact h.top f, fun f i => by rw [← h1, ← h2]; exact h.eq f i⟩)
    (fun a at_ s h0 hs h => inv_add h _ h0 hs) (fun a s h => inv_settle h _ s) (fun a kp h => inv_crash h kp) h
theorem inv_play (l : List T32) : Inv (playA l A0) := playA_keeps l A0 (fun x _ a h => inv_do h x) inv0

/-! ### What survives of a file -/
theorem cutS_len2 {s : List UInt8} {n : Nat} : (cutS s (n : Int)).length = min 64 (s.length - 64 * n) := by
  unfold cutS
  rw [List.length_take, List.length_drop]
  omega
theorem cutS_byte {s : List UInt8} {n i : Nat} (hi : i < 64) : byteD (cutS s (n : Int)) i = byteD s (64 * n + i) := by
  unfold cutS byteD
  rw [List.getD_eq_getElem?_getD, List.getD_eq_getElem?_getD, List.getElem?_take, if_pos hi, List.getElem?_drop]
  rw [show (64 * (n : Int)).toNat + i = 64 * n + i by omega]

/-- One sector survives: a file. -/
theorem sect_byte {now last : List UInt8} (hl : last.length ≤ now.length) {n : Nat} (hn : 64 * n < now.length) (j : Nat) :
    byteD (putS last (64 * n) (cutS now (n : Int))) j = if j / 64 = n then byteD now j else byteD last j := by
  have hc : cutS now (n : Int) ≠ [] := by
    intro h
    have := cutS_len2 (s := now) (n := n)
    rw [h, List.length_nil] at this
    omega
  rw [byteD_put hc, cutS_len2]
  by_cases hj : j / 64 = n
  · rw [if_pos hj]
    by_cases h2 : 64 * n ≤ j ∧ j < 64 * n + min 64 (now.length - 64 * n)
    · rw [if_pos h2, cutS_byte (by omega), show 64 * n + (j - 64 * n) = j by omega]
    · rw [if_neg h2, byteD_end (s := last) (by omega), byteD_end (s := now) (by omega)]
  · rw [if_neg (by omega), if_neg hj]
theorem sect_len {now last : List UInt8} {n : Nat} (hn : 64 * n < now.length) : (putS last (64 * n) (cutS now (n : Int))).length = max last.length (min (64 * n + 64) now.length) := by
  have hc : cutS now (n : Int) ≠ [] := by
    intro h
    have := cutS_len2 (s := now) (n := n)
    rw [h, List.length_nil] at this
    omega
  rw [putS_len hc, cutS_len2]
  omega

/-- The sectors S of a file survive. -/
structure Surv (now last out : List UInt8) (q : List T69) (f : Int) (S : Nat → Prop) : Prop where
  mem : ∀ n, S n → (f, (n : Int), ()) ∈ q ∧ 64 * n < now.length
  new : ∀ j, S (j / 64) → byteD out j = byteD now j
  old : ∀ j, ¬ S (j / 64) → byteD out j = byteD last j
  ge : last.length ≤ out.length
  le : out.length ≤ now.length
  top : ∀ n, S n → min (64 * n + 64) now.length ≤ out.length

theorem crF_surv (keep : List Int) (f : Int) : ∀ (q : List T69) (i : Nat) (G : Int → T62), (∀ p ∈ q, 0 ≤ p.2.1) → (G f).2.1.length ≤ (G f).1.length →
    ∃ S : Nat → Prop, Surv (G f).1 (G f).2.1 (crF keep i q G f).2.1 q f S ∧ ((∀ i, oddK keep i = true) → ∀ n : Nat, (f, (n : Int), ()) ∈ q → 64 * n < (G f).1.length → S n)
  | [], i, G, hq, hl => ⟨fun _ => False, ⟨fun n h => h.elim, fun j h => h.elim, fun j _ => rfl, Nat.le_refl _, hl, fun n h => h.elim⟩, fun _ n h => by cases h⟩
  | p :: q, i, G, hq, hl => by
    have hp := hq p List.mem_cons_self
    rw [crF_cons]
    by_cases hc : (oddK keep i = true ∧ 64 * p.2.1 < ((G p.1).1.length : Int)) ∧ p.1 = f
    · obtain ⟨⟨ho, hc⟩, hpf⟩ := hc
      obtain ⟨a, b, ⟨⟩⟩ := p
      have hpf : a = f := hpf
      subst hpf
      obtain ⟨n, rfl⟩ := Int.eq_ofNat_of_zero_le (show 0 ≤ b from hp)
      have hn : 64 * n < (G a).1.length := by
        have : 64 * (n : Int) < ((G a).1.length : Int) := hc
        omega
      have hG : crS keep i (a, (n : Int), ()) G a = ((G a).1, putS (G a).2.1 (64 * n) (cutS (G a).1 (n : Int)), ()) := by
        unfold crS
        rw [if_pos ⟨ho, hc⟩]
        unfold setF
        rw [if_pos rfl]
        show ((G a).1, putS (G a).2.1 (64 * (n : Int)).toNat (cutS (G a).1 (n : Int)), ()) = _
        rw [show (64 * (n : Int)).toNat = 64 * n by omega]
      have hlen := sect_len (last := (G a).2.1) hn
      have hby := sect_byte hl hn
      obtain ⟨S, h1, h2⟩ := crF_surv keep a q (i + 1) (crS keep i (a, (n : Int), ()) G) (fun p hp => hq p (List.mem_cons_of_mem _ hp)) (by
        rw [hG]
        show (putS (G a).2.1 (64 * n) (cutS (G a).1 (n : Int))).length ≤ (G a).1.length
        omega)
      rw [hG] at h1 h2
      have h1 : Surv (G a).1 (putS (G a).2.1 (64 * n) (cutS (G a).1 (n : Int))) _ q a S := h1
      refine ⟨fun m => S m ∨ m = n, ⟨?_, ?_, ?_, ?_, h1.le, ?_⟩, ?_⟩
      · rintro m (hm | rfl)
        · exact ⟨List.mem_cons_of_mem _ (h1.mem m hm).1, (h1.mem m hm).2⟩
        · exact ⟨List.mem_cons_self, hn⟩
      · intro j hj
        by_cases hS : S (j / 64)
        · exact h1.new j hS
        · rw [h1.old j hS, hby, if_pos (hj.resolve_left hS)]
      · intro j hj
        rw [h1.old j (fun h => hj (.inl h)), hby, if_neg (fun h => hj (.inr h))]
      · exact Nat.le_trans (by rw [hlen]; omega) h1.ge
      · rintro m (hm | rfl)
        · exact h1.top m hm
        · exact Nat.le_trans (by rw [hlen]; omega) h1.ge
      · intro hodd m hm hml
        rcases List.mem_cons.1 hm with hm | hm
        · right
          have : (m : Int) = (n : Int) := congrArg (fun p : T69 => p.2.1) hm
          omega
        · exact .inl (h2 hodd m hm hml)
    · have hG : crS keep i p G f = G f := by
        unfold crS
        split
        · rename_i hc2
          unfold setF
          rw [if_neg (fun h => hc ⟨hc2, h.symm⟩)]
        · rfl
      obtain ⟨S, h1, h2⟩ := crF_surv keep f q (i + 1) (crS keep i p G) (fun p hp => hq p (List.mem_cons_of_mem _ hp)) (by rw [hG]; exact hl)
      rw [hG] at h1 h2
      refine ⟨S, ⟨fun n hn => ⟨List.mem_cons_of_mem _ (h1.mem n hn).1, (h1.mem n hn).2⟩, h1.new, h1.old, h1.ge, h1.le, h1.top⟩, ?_⟩
      intro hodd m hm hml
      rcases List.mem_cons.1 hm with hm | hm
      · subst hm
        exact absurd ⟨⟨hodd i, by show 64 * (m : Int) < ((G f).1.length : Int); omega⟩, rfl⟩ hc
      · exact h2 hodd m hm hml

/-- If everything survives, the file is what it was. -/
theorem surv_all {now last out : List UInt8} {q : List T69} {f : Int} {S : Nat → Prop} (h : Surv now last out q f S) (hS : ∀ n : Nat, (f, (n : Int), ()) ∈ q → 64 * n < now.length → S n)
    (htop : last.length < now.length → (f, (((now.length - 1) / 64 : Nat) : Int), ()) ∈ q) (heq : ∀ i : Nat, (f, ((i / 64 : Nat) : Int), ()) ∉ q → byteD now i = byteD last i) : out = now := by
  have hlen : out.length = now.length := by
    have h1 := h.le
    by_cases hlt : last.length < now.length
    · have := h.top _ (hS _ (htop hlt) (by omega))
      omega
    · have := h.ge
      omega
  refine ext_byteD hlen (fun i hi => ?_)
  by_cases hs : S (i / 64)
  · exact h.new i hs
  · rw [h.old i hs]
    refine (heq i (fun hm => hs (hS _ hm (by omega)))).symm

/-! ### Disk, plain: DiskSurvives. -/
/-- A whole file is read. -/
theorem read_all {a : A} {f : Int} (hd : a.down = false) (hf : 0 ≤ f ∧ f ≤ 15) (hl : (a.fs f).1.length ≤ 16777216) : ReadA f 0 16777216 a = ((a.fs f).1, 0) := by
  unfold ReadA
  have hmay : mayA a f = 0 := by
    unfold mayA
    rw [hd]
    rw [if_neg (by simp), if_neg (by omega)]
  rw [if_neg (by rw [hmay]; simp), if_neg (by omega)]
  simp only [Int.toNat_zero, List.drop_zero]
  rw [List.take_of_length_le (by omega)]

theorem m23_eq {n : Nat} {a : A} {fs : List (Int × T62)} {qu : List T69} {st : List (T69 × Bool)} (R : Rel n a fs qu st) (hn : n ≤ 1000) (hd : a.down = false) {f : Int} (hf : 0 ≤ f ∧ f ≤ 15) {kp : List Int} (hk : kp.length ≤ 1000000000) :
    m23 f kp a.lost a.down a.armed a.keep fs qu st = some ((((crF kp 0 a.qu a.fs f).2.1, true, ()), ()), (((), (), (), a.lost, a.down, a.armed, a.keep, ()), fs, qu, st, ())) := by
  unfold m23
  obtain ⟨fs2, qu2, st2, h1, R2⟩ := crash_eq R hn hk
  have h2 := m20_eq (rel_up R2) f 0 16777216 (crashA kp a).lost (crashA kp a).armed (crashA kp a).keep
  have hc : crashA kp a = { a with down := true, armed := 0, fs := fun f => ((crF kp 0 a.qu a.fs f).2.1, (crF kp 0 a.qu a.fs f).2.1, ()), qu := [] } := by unfold crashA; rw [hd]; rfl
  have h3 : ReadA f 0 16777216 (upA (crashA kp a)) = ((crF kp 0 a.qu a.fs f).2.1, 0) := by
    rw [read_all (a := upA (crashA kp a)) rfl hf ((rel_up R2).now f), hc]
    rfl
  rw [h3] at h2
  refine bind_to (m18_eq R hn _ _ _ _) (bind_to h1 (bind_to h2 ?_))
  rfl

theorem m24_eq (s : List UInt8) (j : Nat) : m24 s (j : Int) = some ((byteD s j).toNat : Int) := by
  unfold m24
  by_cases h : j < s.length
  · rw [show ((decide ((j : Int) < 0)) || (decide ((j : Int) ≥ (s.length : Int)))) = false by simp; omega, cond_false, idx_nat, byteD_get h]
    rfl
  · rw [show ((decide ((j : Int) < 0)) || (decide ((j : Int) ≥ (s.length : Int)))) = true by simp; omega, cond_true, byteD_end (by omega)]
    rfl

theorem byte_eq {a b : UInt8} : (((a.toNat : Int) == (b.toNat : Int)) = true) ↔ a = b := by
  rw [beq_iff_eq]
  constructor
  · intro h
    have h : a.toNat = b.toNat := by omega
    exact UInt8.toNat.inj h
  · intro h; rw [h]

theorem l4_1_eq {R : Type} {now last out : List UInt8} {n : Nat} {k : Bool → Bool → Option R} (hl : out.length ≤ now.length) (ho : out.length ≤ 16777216) (hn : 64 * n ≤ out.length) : ∀ (m j g : Nat) (x y : Bool), 64 * n ≤ j → m = min (64 * n + 64) out.length - j →
    ∃ x' y', l4_1 now last out (n : Int) k (g + m + 1) x y (j : Int) = k x' y' ∧ (x = true → (∀ i, j ≤ i → i < 64 * n + 64 → byteD out i = byteD now i) → x' = true) ∧ (y = true → (∀ i, j ≤ i → i < 64 * n + 64 → byteD out i = byteD last i) → y' = true)
  | 0, j, g, x, y, hj, hm => by
    refine ⟨x, y, ?_, fun h _ => h, fun h _ => h⟩
    show s4_1 _ _ _ _ _ _ _ _ _ = _
    unfold s4_1
    rw [wrapI (x := 64 * (n : Int)) (by omega) (by omega), wrapI (by omega) (by omega)]
    rw [show ((decide ((j : Int) < 64 * (n : Int) + 64)) && (decide ((j : Int) < (out.length : Int)))) = false by simp; omega]
    rfl
  | m + 1, j, g, x, y, hj, hm => by
    have hjo : j < out.length := by omega
    have hjn : j < now.length := by omega
    obtain ⟨x', y', h1, h2, h3⟩ := l4_1_eq (last := last) (k := k) hl ho hn m (j + 1) g (x && ((((byteD out j).toNat : Int)) == (((byteD now j).toNat : Int)))) (y && ((((byteD out j).toNat : Int)) == (((byteD last j).toNat : Int)))) (by omega) (by omega)
    refine ⟨x', y', ?_, ?_, ?_⟩
    · show s4_1 _ _ _ _ _ _ _ _ _ = _
      unfold s4_1
      rw [wrapI (x := 64 * (n : Int)) (by omega) (by omega), wrapI (x := 64 * (n : Int) + 64) (by omega) (by omega)]
      rw [show ((decide ((j : Int) < 64 * (n : Int) + 64)) && (decide ((j : Int) < (out.length : Int)))) = true by simp; omega, cond_true]
      rw [show IntKind.i64.wrap ((j : Int) + 1) = ((j + 1 : Nat) : Int) by rw [wrapI (by omega) (by omega)]; rfl]
      refine Eq.trans ?_ h1
      cases x with
      | true =>
        have e1 : idxG (true == true) (0 : UInt8) out (j : Int) = some (byteD out j) := by
          unfold idxG
          rw [show (true == true) = true from rfl, cond_true, idx_nat, byteD_get hjo]
        have e2 : idxG (true == true) (0 : UInt8) now (j : Int) = some (byteD now j) := by
          unfold idxG
          rw [show (true == true) = true from rfl, cond_true, idx_nat, byteD_get hjn]
        rw [e1, Option.bind_some, e2, Option.bind_some]
        cases y with
        | true =>
          rw [e1, Option.bind_some, m24_eq]
          rfl
        | false => rfl
      | false =>
        refine bind_to (y := (0 : UInt8)) rfl (bind_to (y := (0 : UInt8)) rfl ?_)
        cases y with
        | true =>
          have e1 : idxG (true == true) (0 : UInt8) out (j : Int) = some (byteD out j) := by
            unfold idxG
            rw [show (true == true) = true from rfl, cond_true, idx_nat, byteD_get hjo]
          rw [e1, Option.bind_some, m24_eq]
          rfl
        | false => rfl
    · intro hx hb
      refine h2 ?_ (fun i hi => hb i (by omega))
      rw [hx, Bool.true_and]
      exact byte_eq.2 (hb j (Nat.le_refl _) (by omega))
    · intro hy hb
      refine h3 ?_ (fun i hi => hb i (by omega))
      rw [hy, Bool.true_and]
      exact byte_eq.2 (hb j (Nat.le_refl _) (by omega))

theorem l4_2_eq {R : Type} {now last out : List UInt8} {q : List T69} {f : Int} {S : Nat → Prop} (h : Surv now last out q f S) (ho : now.length ≤ 16777216) {k1 k2 : Option R} : ∀ (m n g : Nat), m = (out.length + 63) / 64 - n → n ≤ 300000 →
    l4_2 now last out k1 k2 (g + m + 1) (n : Int) = k1
  | 0, n, g, hm, hn => by
    show s4_2 _ _ _ _ _ _ _ = _
    unfold s4_2
    have hle := h.le
    rw [wrapI (x := 64 * (n : Int)) (by omega) (by omega)]
    rw [show decide (64 * (n : Int) < (out.length : Int)) = false by simp; omega]
    rfl
  | m + 1, n, g, hm, hn => by
    have hle := h.le
    have hlt : 64 * n < out.length := by omega
    show s4_2 _ _ _ _ _ _ _ = _
    unfold s4_2
    rw [wrapI (x := 64 * (n : Int)) (by omega) (by omega)]
    rw [show decide (64 * (n : Int) < (out.length : Int)) = true by simp; omega, cond_true]
    obtain ⟨g2, hg2⟩ := fuel_s (min (64 * n + 64) out.length - 64 * n + 1) (by omega)
    obtain ⟨x', y', e1, e2, e3⟩ := l4_1_eq (R := R) (last := last) (n := n) (k := fun y12 y13 =>
        bif ((!y12) && (!y13)) then
          k2
        else
          l4_2 now last out k1 k2 (g + m + 1) (IntKind.i64.wrap ((n : Int) + 1))) h.le (by omega) (by omega) (min (64 * n + 64) out.length - 64 * n) (64 * n) g2 true true (by omega) rfl
    rw [show g2 + (min (64 * n + 64) out.length - 64 * n) + 1 = FUEL by omega, show ((64 * n : Nat) : Int) = 64 * (n : Int) by omega] at e1
    refine e1.trans ?_
    have hxy : ((!x') && (!y')) = false := by
      by_cases hs : S n
      · rw [e2 rfl (fun i hi hi2 => h.new i (by rw [show i / 64 = n by omega]; exact hs))]; rfl
      · rw [e3 rfl (fun i hi hi2 => h.old i (by rw [show i / 64 = n by omega]; exact hs))]; simp
    rw [show IntKind.i64.wrap ((n : Int) + 1) = ((n + 1 : Nat) : Int) by rw [wrapI (by omega) (by omega)]; rfl]
    simp only [hxy, cond_false]
    exact l4_2_eq h ho m (n + 1) g (by omega) (by omega)

theorem odd1 (i : Nat) : oddK [1] i = true := by
  unfold oddK
  rw [show i % ([1] : List Int).length = 0 from Nat.mod_one i]
  rfl

theorem diskSurvives (l : List T32) (f : Int) (keep : List Int) (hl : l.length ≤ 9223372036854775807) (hw : ∀ x ∈ l, x.2.2.1 ≤ 9223372036854775807) : m4 l f keep = some true := by
  unfold m4
  refine bind_to m8_true (bind_to (m9_eq hl) ?_)
  by_cases hf : fewB l = true ∧ keep.length ≤ 60
  · obtain ⟨hf, hk⟩ := hf
    have O := ok_of hf hw
    obtain ⟨fs, qu, st, e1, R, N⟩ := m22_eq O
    have I := inv_play l
    rw [hf, show decide ((keep.length : Int) > 60) = false by simp; omega]
    rw [show ((!true) || false) = false from rfl, cond_false]
    refine bind_to e1 ?_
    revert R N I
    generalize playA l A0 = a
    intro R N I
    have hG : Option.getD (mapAt (.int .i64) G62 f fs) (([] : (List UInt8)), ([] : (List UInt8)), ()) = a.fs f := R.hfs f
    by_cases hup : a.down = false ∧ 0 ≤ f ∧ f ≤ 15
    · obtain ⟨hd, hf0⟩ := hup
      have hb : ((a.down || (decide (f < 0))) || (decide (f > 15))) = false := by rw [hd]; simp; omega
      refine bif_t (by show (((a.down || (decide (f < 0))) || (decide (f > 15))) == false) = true; rw [hb]; rfl) ?_
      by_cases hs : (a.fs f).1.length ≤ 100000
      · refine bif_f (by
          show (((a.down || (decide (f < 0))) || (decide (f > 15))) || decide (((Option.getD (mapAt (.int .i64) G62 f fs) (([] : (List UInt8)), ([] : (List UInt8)), ())).1.length : Int) > 100000)) = false
          rw [hb, hG]
          simp
          omega) ?_
        have h4 := m20_eq R f 0 16777216 a.lost a.armed a.keep
        rw [read_all hd hf0 (R.now f)] at h4
        have h5 := m23_eq R (by omega) hd hf0 (kp := []) (by simp)
        rw [crF_nil] at h5
        have h6 := m23_eq R (by omega) hd hf0 (kp := [1]) (by simp)
        have h7 := m23_eq R (by omega) hd hf0 (kp := keep) (by omega)
        obtain ⟨S1, s1, s2⟩ := crF_surv [1] f a.qu 0 a.fs (fun p hp => (R.dom p hp).1) (I.le f)
        have hall := surv_all s1 (s2 odd1) (I.top f) (I.eq f)
        rw [hall] at h6
        obtain ⟨S2, s3, s4⟩ := crF_surv keep f a.qu 0 a.fs (fun p hp => (R.dom p hp).1) (I.le f)
        refine bind_to h4 (bind_to h5 (bind_to h6 (bind_to h7 ?_)))
        refine bif_f ?_ ?_
        · have h8 := s3.ge
          have h9 := s3.le
          simp
          omega
        · obtain ⟨g, hg⟩ := fuel_s (((crF keep 0 a.qu a.fs f).2.1.length + 63) / 64 + 1) (by have := s3.le; omega)
          have e := l4_2_eq (R := Bool) s3 (R.now f) (k1 := some true) (k2 := some false) (((crF keep 0 a.qu a.fs f).2.1.length + 63) / 64) 0 g rfl (by omega)
          rw [show g + ((crF keep 0 a.qu a.fs f).2.1.length + 63) / 64 + 1 = FUEL by omega] at e
          exact e
      · refine bif_t (by
          show (((a.down || (decide (f < 0))) || (decide (f > 15))) || decide (((Option.getD (mapAt (.int .i64) G62 f fs) (([] : (List UInt8)), ([] : (List UInt8)), ())).1.length : Int) > 100000)) = true
          rw [hb, hG]
          simp
          omega) rfl
    · have hb : ((a.down || (decide (f < 0))) || (decide (f > 15))) = true := by
        cases hd : a.down with
        | true => rfl
        | false =>
          have : ¬ (0 ≤ f ∧ f ≤ 15) := fun h => hup ⟨hd, h⟩
          simp
          omega
      refine bif_f (by show (((a.down || (decide (f < 0))) || (decide (f > 15))) == false) = false; rw [hb]; rfl) ?_
      refine bif_t (by show (bif ((a.down || (decide (f < 0))) || (decide (f > 15))) then true else false) = true; rw [hb]; rfl) rfl
  · refine bif_t ?_ rfl
    cases hc : fewB l with
    | false => rfl
    | true =>
      have : ¬ keep.length ≤ 60 := fun h => hf ⟨hc, h⟩
      simp
      omega

/-! ### Disk, plain: DiskSynced. -/
/-- A file is durable. -/
def Dur (f : Int) (s : List UInt8) (a : A) : Prop := a.fs f = (s, s, ()) ∧ ∀ p ∈ a.qu, p.1 ≠ f

theorem crF_off (keep : List Int) (f : Int) : ∀ (q : List T69) (i : Nat) (G : Int → T62), (∀ p ∈ q, p.1 ≠ f) → crF keep i q G f = G f
  | [], i, G, h => rfl
  | p :: q, i, G, h => by
    rw [crF_cons, crF_off keep f q (i + 1) _ (fun p hp => h p (List.mem_cons_of_mem _ hp))]
    unfold crS
    split
    · unfold setF
      rw [if_neg (fun e => h p List.mem_cons_self e.symm)]
    · rfl

theorem dur_crash {f : Int} {s : List UInt8} {a : A} (h : Dur f s a) (kp : List Int) : Dur f s (crashA kp a) := by
  unfold crashA
  split
  · exact h
  · refine ⟨?_, fun p hp => by cases hp⟩
    show ((crF kp 0 a.qu a.fs f).2.1, (crF kp 0 a.qu a.fs f).2.1, ()) = _
    rw [crF_off kp f _ _ _ h.2, h.1]
theorem dur_add {f : Int} {s : List UInt8} {a : A} (h : Dur f s a) {g at_ : Int} (hg : g ≠ f) (t : List UInt8) : Dur f s (addA g at_ t a) := by
  unfold addA
  split
  · exact h
  · refine ⟨?_, fun p hp => ?_⟩
    · show setF a.fs g _ f = _
      unfold setF
      rw [if_neg (Ne.symm hg)]
      exact h.1
    · rcases addQ_dom g _ _ _ hp with hp | ⟨h1, _⟩
      · exact h.2 p hp
      · rw [h1]; exact hg
theorem dur_settle {f : Int} {s : List UInt8} {a : A} (h : Dur f s a) {g : Int} (hg : g ≠ f) (t : List UInt8) : Dur f s (settleA g t a) := by
  refine ⟨?_, fun p hp => h.2 p (List.mem_filter.1 hp).1⟩
  show setF a.fs g _ f = _
  unfold setF
  rw [if_neg (Ne.symm hg)]
  exact h.1

theorem dur_do {f : Int} {s : List UInt8} {a : A} (h : Dur f s a) {x : T32} (hx : x.2.1 ≠ f) : Dur f s (doA x a).2 :=
  doA_keeps (P := Dur f s) (fun a b h1 h2 h => ⟨by rw [← h1]; exact h.1, fun p hp => h.2 p (by rw [h2]; exact hp)⟩)
    (fun a at_ t h0 hs h => dur_add h hx t) (fun a t h => dur_settle h hx t) (fun a kp h => dur_crash h kp) h

theorem dur_lose {f : Int} {s : List UInt8} {a : A} (h : Dur f s a) {x : T32} (hx : x.1 % 8 = 4) : Dur f s (doA x a).2 := by
  unfold doA
  rw [if_neg (by omega), if_neg (by omega), if_pos hx]
  exact ⟨h.1, h.2⟩

theorem l5_eq {R : Type} {l : List T32} (O : Ok l) {f : Int} {s : List UInt8} {k : Int → Bool → Int → List Int → List (Int × T62) → List T69 → List (T69 × Bool) → Option R} :
    ∀ (m i g : Nat) (a : A) (fs : List (Int × T62)) (qu : List T69) (st : List (T69 × Bool)), i + m = l.length → Rel (i + 50) a fs qu st → Nice a → Dur f s a →
    ∃ a' fs' qu' st', l5_1 f l k (g + m + 1) (i : Int) a.lost a.down a.armed a.keep fs qu st = k a'.lost a'.down a'.armed a'.keep fs' qu' st' ∧ Rel (l.length + 50) a' fs' qu' st' ∧ Nice a' ∧ Dur f s a'
  | 0, i, g, a, fs, qu, st, hm, hR, hN, hD => by
    have hi : i = l.length := by omega
    subst hi
    refine ⟨a, fs, qu, st, ?_, hR, hN, hD⟩
    show s5_1 _ _ _ _ _ _ _ _ _ _ _ _ = _
    unfold s5_1
    rw [show decide (((l.length : Nat) : Int) < (l.length : Int)) = false by simp]
    rfl
  | m + 1, i, g, a, fs, qu, st, hm, hR, hN, hD => by
    have hi : i < l.length := by omega
    have hO := O.len
    have hx := List.getElem_mem hi
    have ei : idx l (i : Int) = some l[i] := by rw [idx_nat, List.getElem?_eq_getElem hi]
    by_cases hc : (l[i].1 % 8 < 4 ∧ l[i].2.1 ≠ f) ∨ l[i].1 % 8 = 4
    · obtain ⟨fs1, qu1, st1, e1, R1, N1⟩ := m12_eq hR hN (by omega) l[i] (O.str _ hx) (O.kp _ hx) (O.num _ hx)
      have D1 : Dur f s (doA l[i] a).2 := by
        rcases hc with hc | hc
        · exact dur_do hD hc.2
        · exact dur_lose hD hc
      obtain ⟨a', fs2, qu2, st2, e2, R2, N2, D2⟩ := l5_eq O (k := k) m (i + 1) g (doA l[i] a).2 fs1 qu1 st1 (by omega) (R1.more (by omega)) N1 D1
      refine ⟨a', fs2, qu2, st2, ?_, R2, N2, D2⟩
      show s5_1 _ _ _ _ _ _ _ _ _ _ _ _ = _
      unfold s5_1
      rw [show decide ((i : Int) < (l.length : Int)) = true by simp; omega, cond_true]
      rw [show IntKind.i64.wrap ((i : Int) + 1) = ((i + 1 : Nat) : Int) by rw [wrapI (by omega) (by omega)]; rfl]
      refine (cont_eq ((doA l[i] a).2.lost, (doA l[i] a).2.down, (doA l[i] a).2.armed, (doA l[i] a).2.keep, fs1, qu1, st1) (fun k12 => ?_)).trans e2
      refine bind_to ei ?_
      simp only [and7]
      by_cases h4 : l[i].1 % 8 < 4
      · refine bind_to (y := l[i]) (by unfold idxG; rw [show (decide (l[i].1 % 8 < 4) == true) = true by simp [h4], cond_true]; exact ei) ?_
        refine bif_t (by simp; omega) (bind_to ei (bind_to e1 rfl))
      · refine bind_to (y := (0, 0, 0, [], [], ())) (by unfold idxG; rw [show (decide (l[i].1 % 8 < 4) == true) = false by simp; omega, cond_false]) ?_
        refine bif_t (by simp; omega) (bind_to ei (bind_to e1 rfl))
    · obtain ⟨a', fs2, qu2, st2, e2, R2, N2, D2⟩ := l5_eq O (k := k) m (i + 1) g a fs qu st (by omega) (hR.more (by omega)) hN hD
      refine ⟨a', fs2, qu2, st2, ?_, R2, N2, D2⟩
      show s5_1 _ _ _ _ _ _ _ _ _ _ _ _ = _
      unfold s5_1
      rw [show decide ((i : Int) < (l.length : Int)) = true by simp; omega, cond_true]
      rw [show IntKind.i64.wrap ((i : Int) + 1) = ((i + 1 : Nat) : Int) by rw [wrapI (by omega) (by omega)]; rfl]
      refine (cont_eq (a.lost, a.down, a.armed, a.keep, fs, qu, st) (fun k12 => ?_)).trans e2
      refine bind_to ei ?_
      simp only [and7]
      by_cases h4 : l[i].1 % 8 < 4
      · refine bind_to (y := l[i]) (by unfold idxG; rw [show (decide (l[i].1 % 8 < 4) == true) = true by simp [h4], cond_true]; exact ei) ?_
        have h5 : l[i].2.1 = f := by
          by_cases h : l[i].2.1 = f
          · exact h
          · exact absurd (.inl ⟨h4, h⟩) hc
        refine bif_f (by rw [h5]; simp; omega) rfl
      · refine bind_to (y := (0, 0, 0, [], [], ())) (by unfold idxG; rw [show (decide (l[i].1 % 8 < 4) == true) = false by simp; omega, cond_false]) ?_
        refine bif_f (by simp; omega) rfl

theorem mayA_ok {a : A} {f : Int} (h : mayA a f = 0) : a.down = false ∧ 0 ≤ f ∧ f ≤ 15 := by
  unfold mayA at h
  split at h
  · cases h
  · rename_i hd
    split at h
    · cases h
    · exact ⟨by simpa using hd, by omega, by omega⟩

/-- A Sync that succeeds. -/
theorem sync_ok {a : A} {f : Int} (h : (SyncA f a).1 = 0) : (a.down = false ∧ 0 ≤ f ∧ f ≤ 15) ∧ (SyncA f a).2 = settleA f (a.fs f).1 (cntA a) := by
  unfold SyncA at h ⊢
  by_cases hm : mayA (preA a) f ≠ 0
  · rw [if_pos hm] at h
    exact absurd h hm
  · rw [if_neg hm] at h ⊢
    have hm : mayA (preA a) f = 0 := by simpa using hm
    obtain ⟨hd, hf⟩ := mayA_ok hm
    by_cases hl : 0 < (preA a).lost
    · rw [if_pos hl] at h; cases h
    · rw [if_neg hl]
      have he : endsA a = false := by
        cases he : endsA a with
        | false => rfl
        | true =>
          have hp : preA a = crashA (cntA a).keep (cntA a) := by unfold preA; rw [he]; rfl
          have hd2 : (cntA a).down = false := by
            rw [(cntA_flags a).2.1]
            unfold endsA at he
            rw [Bool.and_eq_true] at he
            simpa using he.1
          rw [hp, (crashA_flags hd2).2.1] at hd
          cases hd
      have hp : preA a = cntA a := by unfold preA; rw [he]; rfl
      rw [hp] at hd ⊢
      rw [(cntA_flags a).2.1] at hd
      rw [(cntA_flags a).2.2.2.1]
      exact ⟨⟨hd, hf⟩, rfl⟩

theorem diskSynced (l : List T32) (f : Int) (more : List T32) (keep : List Int) (hl : l.length ≤ 9223372036854775807) (hw : ∀ x ∈ l, x.2.2.1 ≤ 9223372036854775807) (hl2 : more.length ≤ 9223372036854775807) (hw2 : ∀ x ∈ more, x.2.2.1 ≤ 9223372036854775807) : m5 l f more keep = some true := by
  unfold m5
  refine bind_to m8_true (bind_to (m9_eq hl) ?_)
  cases hf : fewB l with
  | false => exact bind_to (y := false) rfl rfl
  | true =>
    refine bind_to (y := fewB more) (m9_eq hl2) ?_
    by_cases hg : fewB more = true ∧ keep.length ≤ 60
    · obtain ⟨hg, hk⟩ := hg
      have O := ok_of hf hw
      have O2 := ok_of hg hw2
      have hO2 := O2.len
      obtain ⟨fs, qu, st, e1, R, N⟩ := m22_eq O
      refine bif_f (by rw [hg]; simp; omega) (bind_to e1 ?_)
      revert R N
      generalize playA l A0 = a
      intro R N
      have h5 := m20_eq R f 0 16777216 a.lost a.armed a.keep
      obtain ⟨fs6, qu6, st6, h6, R6⟩ := m19_eq R N (by omega) f
      have N6 := nice_Sync N f
      refine bind_to h5 (bind_to h6 ?_)
      by_cases hs : (SyncA f a).1 = 0
      · obtain ⟨⟨hd, hf0⟩, hst⟩ := sync_ok hs
        have hd6 : (SyncA f a).2.down = false := by
          rw [hst]
          show (cntA a).down = false
          rw [(cntA_flags a).2.1]
          exact hd
        have hfs6 : (SyncA f a).2.fs f = ((a.fs f).1, (a.fs f).1, ()) := by
          rw [hst]
          show setF _ f _ f = _
          unfold setF
          rw [if_pos rfl]
        have D6 : Dur f (a.fs f).1 (SyncA f a).2 := by
          refine ⟨hfs6, fun p hp => ?_⟩
          rw [hst] at hp
          have := (List.mem_filter.1 hp).2
          simpa using this
        have h7 := m20_eq R6 f 0 16777216 (SyncA f a).2.lost (SyncA f a).2.armed (SyncA f a).2.keep
        refine bif_f (by show ((SyncA f a).1 != 0) = false; rw [hs]; rfl) (bind_to h7 ?_)
        obtain ⟨g, hgf⟩ := fuel_s (more.length + 1) (by omega)
        have R6' := R6.more (m := 0 + 50) (by omega)
        obtain ⟨a', fs', qu', st', e8, R8, N8, D8⟩ := l5_eq (R := Bool) O2 (f := f) (s := (a.fs f).1) (k := fun y13 y14 y15 y16 y17 y18 y19 =>
          (m25 keep y13 y14 y15 y16 y17 y18 y19).bind fun r20 =>
          (m20 f 0 16777216 r20.2.1.2.2.2.1 false r20.2.1.2.2.2.2.2.1 r20.2.1.2.2.2.2.2.2.1 r20.2.2.1 r20.2.2.2.2.2.1 r20.2.2.2.2.2.2.1).bind fun r21 =>
          some ((((true && ((ReadA f 0 16777216 (SyncA f a).2).2 == 0)) && (r21.1.1.2.1 == 0)) && ((ReadA f 0 16777216 a).1 == (ReadA f 0 16777216 (SyncA f a).2).1)) && (r21.1.1.1 == (ReadA f 0 16777216 (SyncA f a).2).1))) more.length 0 g (SyncA f a).2 fs6 qu6 st6 (by omega) R6' N6 D6
        rw [show g + more.length + 1 = FUEL by omega] at e8
        refine Eq.trans e8 ?_
        obtain ⟨fs9, qu9, st9, h9, R9⟩ := crash_eq R8 (by omega) (kp := keep) (by omega)
        have D9 := dur_crash D8 keep
        have h10 := m20_eq (rel_up R9) f 0 16777216 (crashA keep a').lost (crashA keep a').armed (crashA keep a').keep
        refine bind_to h9 (bind_to h10 ?_)
        have v1 : ReadA f 0 16777216 a = ((a.fs f).1, 0) := read_all hd hf0 (R.now f)
        have v2 : ReadA f 0 16777216 (SyncA f a).2 = ((a.fs f).1, 0) := by rw [read_all hd6 hf0 (R6.now f), hfs6]
        have v3 : ReadA f 0 16777216 (upA (crashA keep a')) = ((a.fs f).1, 0) := by
          rw [read_all rfl hf0 ((rel_up R9).now f)]
          show (((crashA keep a').fs f).1, (0 : Int)) = _
          rw [D9.1]
        rw [v1, v2, v3]
        simp
      · refine bif_t (by show ((SyncA f a).1 != 0) = true; exact bne_iff_ne.2 hs) rfl
    · refine bif_t ?_ rfl
      cases hc : fewB more with
      | false => rfl
      | true =>
        have : ¬ keep.length ≤ 60 := fun h => hg ⟨hc, h⟩
        simp
        omega

/-! ### Disk, plain: DiskReads. -/
/-- No crash is scheduled. -/
def offA (a : A) : A := { a with armed := 0, keep := [] }
theorem rel_off {n : Nat} {a : A} {fs : List (Int × T62)} {qu : List T69} {st : List (T69 × Bool)} (R : Rel n a fs qu st) : Rel n (offA a) fs qu st :=
  ⟨R.hfs, R.hqu, R.hst, R.nf, R.ns, R.len, R.dom, R.now, R.last⟩
theorem nice_off {a : A} (N : Nice a) : Nice (offA a) := ⟨⟨by show (0 : Int) ≤ 0; omega, by show (0 : Int) ≤ _; omega⟩, N.lost, by show 0 ≤ _; omega⟩

theorem ends0 {a : A} (h : a.armed = 0) : endsA a = false := by
  unfold endsA
  rw [h]
  cases a.down <;> rfl
theorem cnt0 {a : A} (h : a.armed = 0) : cntA a = a := by
  unfold cntA
  rw [if_pos (.inr h)]
theorem write0 {a : A} (h : a.armed = 0) (f at_ : Int) (s : List UInt8) : WriteA f at_ s a = writeA f at_ s a := by
  unfold WriteA
  rw [ends0 h, cnt0 h]
  rfl
theorem pre0 {a : A} (h : a.armed = 0) : preA a = a := by
  unfold preA
  rw [ends0 h, cnt0 h]
  rfl

theorem mayA_zero {a : A} {f : Int} (hd : a.down = false) (hf : 0 ≤ f ∧ f ≤ 15) : mayA a f = 0 := by
  unfold mayA
  rw [hd]
  rw [if_neg (by simp), if_neg (by omega)]

/-- What was written is read again. -/
theorem putS_read (s t : List UInt8) (n : Nat) : ((putS s n t).drop n).take t.length = t := by
  by_cases ht : t = []
  · subst ht; simp
  · apply List.ext_getElem?
    intro i
    rw [List.getElem?_take]
    by_cases hi : i < t.length
    · rw [if_pos hi, List.getElem?_drop, putS_at ht (by omega), if_pos (by omega), byteD_get hi, show n + i - n = i by omega]
    · rw [if_neg hi, List.getElem?_eq_none (by omega)]

theorem min_nat (m : Nat) {x : Int} (h0 : 0 ≤ x) : (bif decide ((m : Int) < x) then (m : Int) else x) = ((min m x.toNat : Nat) : Int) := by
  rw [cond_if]
  split
  · rename_i h; have := of_decide_eq_true h; omega
  · rename_i h; have : ¬ (m : Int) < x := fun h' => h (decide_eq_true h'); omega

theorem diskReads (l : List T32) (f at_ : Int) (s : List UInt8) (size : Int) (hl : l.length ≤ 9223372036854775807) (hw : ∀ x ∈ l, x.2.2.1 ≤ 9223372036854775807) (hz : size ≤ 9223372036854775807) : m7 l f at_ s size = some true := by
  unfold m7
  refine bind_to m8_true (bind_to (m9_eq hl) ?_)
  by_cases hc : fewB l = true ∧ s.length ≤ 300 ∧ 0 ≤ at_ ∧ at_ ≤ 3000 ∧ 0 ≤ size
  · obtain ⟨hf, hs, h0, h1, h2⟩ := hc
    have O := ok_of hf hw
    obtain ⟨fs, qu, st, e1, R, N⟩ := m22_eq O
    refine bif_f (by rw [hf]; simp; omega) (bind_to e1 (bind_to (y := ([] : List Int)) (cloneM_eq (by simp)) ?_))
    revert R N
    generalize playA l A0 = a
    intro R N
    have RB := rel_off R
    have NB := nice_off N
    have hB : (offA a).armed = 0 := rfl
    obtain ⟨fs6, qu6, st6, h6, R6⟩ := m29_eq RB NB (by omega) f at_ hs
    rw [write0 hB] at h6 R6
    by_cases hup : a.down = false ∧ 0 ≤ f ∧ f ≤ 15
    · obtain ⟨hd, hf0⟩ := hup
      have hdB : (offA a).down = false := hd
      have herr : errW f at_ s (offA a) = 0 := (errW_ok hdB).2 ⟨hf0, by omega, by omega, by omega⟩
      have hwr : writeA f at_ s (offA a) = (0, addA f at_ s (offA a)) := by unfold writeA; rw [herr]; rfl
      obtain ⟨g1, g2, g3, g4⟩ := writeA_flags f at_ s (offA a)
      rw [hwr] at h6 R6 g1 g2 g3 g4
      have hfile : ((addA f at_ s (offA a)).fs f).1 = putS (a.fs f).1 at_.toNat s := by
        unfold addA
        split
        · rename_i hse
          rw [hse, putS_nil]
          rfl
        · show (setF a.fs f _ f).1 = _
          unfold setF
          rw [if_pos rfl]
          rfl
      simp only at h6 R6 g1 g2 g3 g4
      revert h6 R6 g1 g2 g3 g4 hfile
      generalize addA f at_ s (offA a) = c
      intro h6 R6 g1 g2 g3 g4 hfile
      have hcd : c.down = false := g2.trans hdB
      have hca : c.armed = 0 := g3.trans hB
      have hcN : Nice c := ⟨by rw [g3]; exact NB.armed, by rw [g1]; exact NB.lost, by rw [g4]; exact NB.keep⟩
      have hmay : mayA c f = 0 := mayA_zero hcd hf0
      have hnow := R6.now f
      have hG : Option.getD (mapAt (.int .i64) G62 f fs6) (([] : (List UInt8)), ([] : (List UInt8)), ()) = c.fs f := R6.hfs f
      have hread : ∀ a1 a2 : Int, 0 ≤ a1 → 0 ≤ a2 → ReadA f a1 a2 c = (((c.fs f).1.drop a1.toNat).take a2.toNat, 0) := by
        intro a1 a2 h1 h2
        unfold ReadA
        rw [if_neg (by rw [hmay]; simp), if_neg (by omega)]
      have h7 := m20_eq R6 f at_ (s.length : Int) c.lost c.armed c.keep
      rw [hread _ _ h0 (by omega)] at h7
      rw [hfile, Int.toNat_natCast, putS_read] at h7
      have h8 := m20_eq R6 f 0 ((c.fs f).1.length : Int) c.lost c.armed c.keep
      rw [hread _ _ (by omega) (by omega)] at h8
      rw [Int.toNat_natCast, Int.toNat_zero, List.drop_zero, List.take_length] at h8
      have h9 := m20_eq R6 f at_ size c.lost c.armed c.keep
      rw [hread _ _ h0 h2] at h9
      refine bif_f (by show ((a.down || (decide (f < 0))) || (decide (f > 15))) = false; rw [hd]; simp; omega) ?_
      refine bind_to h6 (bind_to h7 ?_)
      simp only [hG]
      refine bind_to h8 (bind_to h9 ?_)
      simp only [hG]
      generalize hS : (c.fs f).1 = S at *
      have hbs : (!(s == s)) = false := by simp
      refine bif_t (by rw [hbs]; rfl) (bif_f (by rw [hbs]; simp) ?_)
      rw [min_nat S.length h0]
      have hmn : IntKind.i64.wrap ((S.length : Int) - ((min S.length at_.toNat : Nat) : Int)) = ((S.length - at_.toNat : Nat) : Int) := by rw [wrapI (by omega) (by omega)]; omega
      rw [hmn, min_nat (S.length - at_.toNat) h2]
      have hmn2 : IntKind.i64.wrap (((min S.length at_.toNat : Nat) : Int) + ((min (S.length - at_.toNat) size.toNat : Nat) : Int)) = ((min S.length at_.toNat + min (S.length - at_.toNat) size.toNat : Nat) : Int) := by rw [wrapI (by omega) (by omega)]; omega
      rw [hmn2]
      rw [show bounds true S.length ((min S.length at_.toNat : Nat) : Int) ((min S.length at_.toNat + min (S.length - at_.toNat) size.toNat : Nat) : Int) = true by unfold bounds; simp; omega, asrtT]
      have hsub : subl S ((min S.length at_.toNat : Nat) : Int) ((min S.length at_.toNat + min (S.length - at_.toNat) size.toNat : Nat) : Int) = (S.drop at_.toNat).take size.toNat := by
        unfold subl
        rw [Int.toNat_natCast, Int.toNat_natCast]
        apply List.ext_getElem?
        intro i
        rw [List.getElem?_take, List.getElem?_drop, List.getElem?_drop, List.getElem?_take]
        by_cases hi : at_.toNat + i < S.length
        · rw [show min S.length at_.toNat + i = at_.toNat + i by omega]
          by_cases h2 : i < size.toNat
          · rw [if_pos (by omega), if_pos h2]
          · rw [if_neg (by omega), if_neg h2]
        · rw [List.getElem?_eq_none (show S.length ≤ at_.toNat + i by omega)]
          split
          · rw [List.getElem?_eq_none (by omega)]; split <;> rfl
          · split <;> rfl
      rw [hsub]
      refine bif_f (by simp) ?_
      obtain ⟨fs10, qu10, st10, h10, R10⟩ := m30_eq R6 hcN (by omega) f ((min S.length at_.toNat : Nat) : Int)
      have htr : TruncA f ((min S.length at_.toNat : Nat) : Int) c = (0, settleA f (S.take (min S.length at_.toNat)) c) := by
        rw [TruncA_eq, pre0 hca]
        unfold TruncB
        rw [if_neg (by rw [hmay]; simp), if_neg (by rw [hS]; omega), hS, Int.toNat_natCast]
      rw [htr] at h10 R10
      obtain ⟨fs11, qu11, st11, h11, R11⟩ := crash_eq R10 (by omega) (kp := []) (by simp)
      have h12 := m20_eq (rel_up R11) f 0 16777216 (crashA [] (settleA f (S.take (min S.length at_.toNat)) c)).lost (crashA [] (settleA f (S.take (min S.length at_.toNat)) c)).armed (crashA [] (settleA f (S.take (min S.length at_.toNat)) c)).keep
      have hcr : ((crashA [] (settleA f (S.take (min S.length at_.toNat)) c)).fs f).1 = S.take (min S.length at_.toNat) := by
        unfold crashA
        rw [if_neg (by show ¬ c.down = true; rw [hcd]; simp)]
        show (crF [] 0 _ (setF c.fs f _) f).2.1 = _
        rw [crF_nil]
        unfold setF
        rw [if_pos rfl]
      have v3 : ReadA f 0 16777216 (upA (crashA [] (settleA f (S.take (min S.length at_.toNat)) c))) = (S.take (min S.length at_.toNat), 0) := by
        rw [read_all rfl hf0 ((rel_up R11).now f)]
        show (((crashA [] _).fs f).1, (0 : Int)) = _
        rw [hcr]
      rw [v3] at h12
      refine bind_to h10 (bind_to h11 (bind_to h12 ?_))
      rw [show bounds true S.length 0 ((min S.length at_.toNat : Nat) : Int) = true by unfold bounds; simp; omega]
      rw [show subl S 0 ((min S.length at_.toNat : Nat) : Int) = S.take (min S.length at_.toNat) by simp [subl]]
      show asrt _ true (some (true && (S.take (min S.length at_.toNat) == S.take (min S.length at_.toNat)))) = some true
      rw [asrtT]
      simp
    · have hb : ((a.down || (decide (f < 0))) || (decide (f > 15))) = true := by
        cases hd : a.down with
        | true => rfl
        | false =>
          have : ¬ (0 ≤ f ∧ f ≤ 15) := fun h => hup ⟨hd, h⟩
          simp
          omega
      refine bif_t hb (bif_t rfl (bind_to h6 ?_))
      have hm : mayA (offA a) f ≠ 0 := fun h => by
        obtain ⟨h1, h2⟩ := mayA_ok h
        exact hup ⟨h1, h2⟩
      have he : (writeA f at_ s (offA a)).1 = mayA (offA a) f := by
        unfold writeA errW
        rw [if_pos hm]
      show some (true && ((writeA f at_ s (offA a)).1 != 0)) = some true
      rw [he, bne_iff_ne.2 hm]
      rfl
  · refine bif_t ?_ rfl
    cases hf : fewB l with
    | false => rfl
    | true =>
      have : ¬ (s.length ≤ 300 ∧ 0 ≤ at_ ∧ at_ ≤ 3000 ∧ 0 ≤ size) := fun h => hc ⟨hf, h⟩
      simp
      omega

/-! ### Disk, plain: same; what a scheduled crash changes. -/
theorem read_same {a b : A} (hd : a.down = b.down) (hf : a.fs = b.fs) (f x y : Int) : ReadA f x y b = ReadA f x y a := by
  unfold ReadA mayA
  rw [hd, hf]

theorem l28_eq {R : Type} {l : List T32} (hl : l.length ≤ 1000000000) {a b : A} {n1 n2 : Nat} {fs1 fs2 : List (Int × T62)} {qu1 qu2 : List T69} {st1 st2 : List (T69 × Bool)} (R1 : Rel n1 a fs1 qu1 st1) (R2 : Rel n2 b fs2 qu2 st2) (hd : a.down = b.down) (hf : a.fs = b.fs)
    (lost1 armed1 : Int) (keep1 : List Int) (lost2 armed2 : Int) (keep2 : List Int) {k1 k2 : Int → Bool → Int → List Int → Int → Bool → Int → List Int → List (Int × T62) → List T69 → List (T69 × Bool) → List (Int × T62) → List T69 → List (T69 × Bool) → Option R} :
    ∀ (m i g : Nat), i + m = l.length → l28_1 l k1 k2 (g + m + 1) (i : Int) lost1 a.down armed1 keep1 lost2 b.down armed2 keep2 fs1 qu1 st1 fs2 qu2 st2 = k1 lost1 a.down armed1 keep1 lost2 b.down armed2 keep2 fs1 qu1 st1 fs2 qu2 st2
  | 0, i, g, hm => by
    have hi : i = l.length := by omega
    subst hi
    show s28_1 _ _ _ _ _ _ _ _ _ _ _ _ _ _ _ _ _ _ _ = _
    unfold s28_1
    rw [show decide (((l.length : Nat) : Int) < (l.length : Int)) = false by simp]
    rfl
  | m + 1, i, g, hm => by
    have hi : i < l.length := by omega
    have ei : idx l (i : Int) = some l[i] := by rw [idx_nat, List.getElem?_eq_getElem hi]
    have e1 := m20_eq R1 l[i].2.1 0 16777216 lost1 armed1 keep1
    have e2 := m20_eq R2 l[i].2.1 0 16777216 lost2 armed2 keep2
    rw [read_same hd hf] at e2
    have hG1 : Option.getD (mapAt (.int .i64) G62 l[i].2.1 fs1) (([] : (List UInt8)), ([] : (List UInt8)), ()) = a.fs l[i].2.1 := R1.hfs _
    have hG2 : Option.getD (mapAt (.int .i64) G62 l[i].2.1 fs2) (([] : (List UInt8)), ([] : (List UInt8)), ()) = a.fs l[i].2.1 := by rw [hf]; exact R2.hfs _
    have hc : ∀ (s : List UInt8) (e : Int), (((!(s == s)) || (e != e)) == false) = true := fun s e => by simp
    have hg : ∀ b : Bool, b = true → idxG b (0, 0, 0, ([] : (List UInt8)), ([] : (List Int)), ()) l (i : Int) = some l[i] := by
      intro b h
      unfold idxG
      rw [h, cond_true, ei]
    show s28_1 _ _ _ _ _ _ _ _ _ _ _ _ _ _ _ _ _ _ _ = _
    unfold s28_1
    rw [show decide ((i : Int) < (l.length : Int)) = true by simp; omega, cond_true]
    rw [show IntKind.i64.wrap ((i : Int) + 1) = ((i + 1 : Nat) : Int) by rw [wrapI (by omega) (by omega)]; rfl]
    refine bind_to ei (bind_to e1 (bind_to ei (bind_to e2 (bind_to (hg _ (hc _ _)) (bif_t (hc _ _) (bind_to (hg _ (hc _ _)) (bif_t (hc _ _) (bif_f ?_ ?_))))))))
    · simp only [hG1, hG2]
      simp
    · exact l28_eq hl R1 R2 hd hf lost1 armed1 keep1 lost2 armed2 keep2 m (i + 1) g (by omega)

theorem m28_eq {l : List T32} (hl : l.length ≤ 1000000000) {a b : A} {n1 n2 : Nat} {fs1 fs2 : List (Int × T62)} {qu1 qu2 : List T69} {st1 st2 : List (T69 × Bool)} (R1 : Rel n1 a fs1 qu1 st1) (R2 : Rel n2 b fs2 qu2 st2) (hd : a.down = b.down) (hf : a.fs = b.fs)
    (lost1 armed1 : Int) (keep1 : List Int) (lost2 armed2 : Int) (keep2 : List Int) :
    m28 l lost1 a.down armed1 keep1 lost2 b.down armed2 keep2 fs1 qu1 st1 fs2 qu2 st2 = some ((true, ()), (((), (), (), lost1, a.down, armed1, keep1, ()), ((), (), (), lost2, b.down, armed2, keep2, ()), fs1, qu1, st1, fs2, qu2, st2, ())) := by
  unfold m28
  obtain ⟨g, hg⟩ := fuel_s (l.length + 1) (by omega)
  rw [show (!(a.down == b.down)) = false by rw [hd]; simp, cond_false]
  have e := l28_eq (R := F28o.ty) hl R1 R2 hd hf lost1 armed1 keep1 lost2 armed2 keep2 (k1 := fun y8 y9 y10 y11 y12 y13 y14 y15 y16 y17 y18 y19 y20 y21 =>
        some ((true, ()), (((), (), (), y8, y9, y10, y11, ()), ((), (), (), y12, y13, y14, y15, ()), y16, y17, y18, y19, y20, y21, ()))) (k2 := fun y22 y23 y24 y25 y26 y27 y28 y29 y30 y31 y32 y33 y34 y35 =>
        some ((false, ()), (((), (), (), y22, y23, y24, y25, ()), ((), (), (), y26, y27, y28, y29, ()), y30, y31, y32, y33, y34, y35, ()))) l.length 0 g (by omega)
  rw [show g + l.length + 1 = FUEL by omega] at e
  exact e

/-- A crash is scheduled. -/
def armA (r : Int) (keep : List Int) (c : A) : A := { c with armed := r, keep := keep }

theorem cnt_arm {r : Int} {keep : List Int} {c : A} (hd : c.down = false) (hr : r ≠ 0) : cntA (armA r keep c) = armA (r - 1) keep c := by
  unfold cntA
  rw [if_neg (by
    rintro (h | h)
    · have : c.down = true := h
      rw [hd] at this; cases this
    · exact hr h)]
  rfl
theorem ends_arm {r : Int} {keep : List Int} {c : A} (hd : c.down = false) : endsA (armA r keep c) = (r == 1) := by
  unfold endsA
  show (!c.down && (r == 1)) = _
  rw [hd]; rfl
theorem err_arm (f at_ : Int) (s : List UInt8) (r : Int) (keep : List Int) (c : A) : errW f at_ s (armA r keep c) = errW f at_ s c := rfl
theorem add_arm (f at_ : Int) (s : List UInt8) (r : Int) (keep : List Int) (c : A) : addA f at_ s (armA r keep c) = armA r keep (addA f at_ s c) := by
  unfold addA
  split <;> rfl
theorem write_arm (f at_ : Int) (s : List UInt8) (r : Int) (keep : List Int) (c : A) : writeA f at_ s (armA r keep c) = ((writeA f at_ s c).1, armA r keep (writeA f at_ s c).2) := by
  unfold writeA
  rw [err_arm, add_arm]
  split <;> rfl
theorem syncB_arm (f : Int) (r : Int) (keep : List Int) (c : A) : SyncB f (armA r keep c) = ((SyncB f c).1, armA r keep (SyncB f c).2) := by
  unfold SyncB
  show (if mayA c f ≠ 0 then _ else if 0 < c.lost then _ else _) = _
  split
  · rfl
  · split <;> rfl
theorem truncB_arm (f size : Int) (r : Int) (keep : List Int) (c : A) : TruncB f size (armA r keep c) = ((TruncB f size c).1, armA r keep (TruncB f size c).2) := by
  unfold TruncB
  show (if mayA c f ≠ 0 then _ else if size < 0 ∨ ((c.fs f).1.length : Int) < size then _ else _) = _
  split
  · rfl
  · split <;> rfl

theorem writeA_state {c : A} (f at_ : Int) (s : List UInt8) : (writeA f at_ s c).2.armed = c.armed ∧ (writeA f at_ s c).2.down = c.down := ⟨(writeA_flags f at_ s c).2.2.1, (writeA_flags f at_ s c).2.1⟩
theorem syncB_state {c : A} (f : Int) : (SyncB f c).2.armed = c.armed ∧ (SyncB f c).2.down = c.down := by
  unfold SyncB
  split
  · exact ⟨rfl, rfl⟩
  · split <;> exact ⟨rfl, rfl⟩
theorem truncB_state {c : A} (f size : Int) : (TruncB f size c).2.armed = c.armed ∧ (TruncB f size c).2.down = c.down := by
  unfold TruncB
  split
  · exact ⟨rfl, rfl⟩
  · split <;> exact ⟨rfl, rfl⟩

/-- Before the crash. -/
theorem do_arm {x : T32} {r : Int} {keep : List Int} {c : A} (hd : c.down = false) (ha : c.armed = 0) (hx : x.1 % 8 ≤ 4) (hr : 2 ≤ r ∨ x.1 % 8 = 4) :
    doA x (armA r keep c) = ((doA x c).1, armA (if x.1 % 8 < 4 then r - 1 else r) keep (doA x c).2) ∧ (doA x c).2.down = false ∧ (doA x c).2.armed = 0 := by
  unfold doA
  by_cases h2 : x.1 % 8 = 2
  · rw [if_pos h2, if_pos h2, if_pos (by omega), SyncA_eq, SyncA_eq, pre0 ha]
    have hp : preA (armA r keep c) = armA (r - 1) keep c := by
      unfold preA
      rw [ends_arm hd, show (r == 1) = false by rw [beq_eq_false_iff_ne]; omega, cnt_arm hd (by omega)]
      rfl
    rw [hp, syncB_arm]
    exact ⟨rfl, (syncB_state x.2.1).2.trans hd, (syncB_state x.2.1).1.trans ha⟩
  · rw [if_neg h2, if_neg h2]
    by_cases h3 : x.1 % 8 = 3
    · rw [if_pos h3, if_pos h3, if_pos (by omega), TruncA_eq, TruncA_eq, pre0 ha]
      have hp : preA (armA r keep c) = armA (r - 1) keep c := by
        unfold preA
        rw [ends_arm hd, show (r == 1) = false by rw [beq_eq_false_iff_ne]; omega, cnt_arm hd (by omega)]
        rfl
      rw [hp, truncB_arm]
      exact ⟨rfl, (truncB_state x.2.1 x.2.2.1).2.trans hd, (truncB_state x.2.1 x.2.2.1).1.trans ha⟩
    · rw [if_neg h3, if_neg h3]
      by_cases h4 : x.1 % 8 = 4
      · rw [if_pos h4, if_pos h4, if_neg (by omega)]
        exact ⟨rfl, hd, ha⟩
      · rw [if_neg h4, if_neg h4, if_neg (by omega), if_neg (by omega), if_neg (by omega), if_neg (by omega), if_neg (by omega), if_neg (by omega), if_pos (by omega), write0 ha]
        have hw : WriteA x.2.1 x.2.2.1 x.2.2.2.1 (armA r keep c) = writeA x.2.1 x.2.2.1 x.2.2.2.1 (armA (r - 1) keep c) := by
          unfold WriteA
          rw [ends_arm hd, show (r == 1) = false by rw [beq_eq_false_iff_ne]; omega, cnt_arm hd (by omega)]
          rfl
        rw [hw, write_arm]
        exact ⟨rfl, (writeA_state _ _ _).2.trans hd, (writeA_state _ _ _).1.trans ha⟩

/-- The crash. -/
theorem do_crash {x : T32} {keep : List Int} {c : A} (hd : c.down = false) (ha : c.armed = 0) (hx : x.1 % 8 < 4) :
    (doA x (armA 1 keep c)).1 = 8 ∧ (doA x (armA 1 keep c)).2.down = true ∧ (doA x (armA 1 keep c)).2.fs = (crashA keep (if x.1 % 8 < 2 then (doA x c).2 else c)).fs := by
  have hcr : ∀ (r : Int) (b : A), b.down = false → (crashA keep (armA r keep b)).fs = (crashA keep b).fs ∧ (crashA keep (armA r keep b)).down = true := by
    intro r b hb
    have h1 : crashA keep b = { b with down := true, armed := 0, fs := fun f => ((crF keep 0 b.qu b.fs f).2.1, (crF keep 0 b.qu b.fs f).2.1, ()), qu := [] } := by unfold crashA; rw [hb]; rfl
    have h2 : crashA keep (armA r keep b) = { armA r keep b with down := true, armed := 0, fs := fun f => ((crF keep 0 b.qu b.fs f).2.1, (crF keep 0 b.qu b.fs f).2.1, ()), qu := [] } := by
      unfold crashA
      rw [if_neg (by show ¬ b.down = true; rw [hb]; simp)]
      rfl
    rw [h1, h2]
    exact ⟨rfl, rfl⟩
  have hp : preA (armA 1 keep c) = crashA keep (armA 0 keep c) := by
    unfold preA
    rw [ends_arm hd, cnt_arm hd (by omega)]
    rfl
  have hpd := (hcr 0 c hd)
  unfold doA
  by_cases h2 : x.1 % 8 = 2
  · rw [if_pos h2, if_neg (by omega), SyncA_eq, hp]
    have hm : mayA (crashA keep (armA 0 keep c)) x.2.1 = 8 := by unfold mayA; rw [if_pos hpd.2]
    unfold SyncB
    rw [if_pos (by rw [hm]; decide), hm]
    exact ⟨rfl, hpd.2, hpd.1⟩
  · rw [if_neg h2]
    by_cases h3 : x.1 % 8 = 3
    · rw [if_pos h3, if_neg (by omega), TruncA_eq, hp]
      have hm : mayA (crashA keep (armA 0 keep c)) x.2.1 = 8 := by unfold mayA; rw [if_pos hpd.2]
      unfold TruncB
      rw [if_pos (by rw [hm]; decide), hm]
      exact ⟨rfl, hpd.2, hpd.1⟩
    · rw [if_neg h3, if_neg (by omega), if_neg (by omega), if_neg (by omega), if_neg (by omega), if_pos (by omega), if_neg h2, if_neg h3, if_neg (by omega), if_neg (by omega), if_neg (by omega), if_neg (by omega), write0 ha]
      have hw : WriteA x.2.1 x.2.2.1 x.2.2.2.1 (armA 1 keep c) = (8, crashA keep (armA 0 keep (writeA x.2.1 x.2.2.1 x.2.2.2.1 c).2)) := by
        unfold WriteA
        rw [ends_arm hd, cnt_arm hd (by omega), write_arm]
        rfl
      rw [hw]
      have := hcr 0 (writeA x.2.1 x.2.2.1 x.2.2.2.1 c).2 ((writeA_state _ _ _).2.trans hd)
      exact ⟨rfl, this.2, this.1⟩

/-- Behind the crash. -/
theorem do_down {x : T32} {d : A} (hd : d.down = true) (hx : x.1 % 8 ≤ 4) : (x.1 % 8 < 4 → (doA x d).1 = 8) ∧ (doA x d).2.down = true ∧ (doA x d).2.fs = d.fs := by
  have hc : cntA d = d := by unfold cntA; rw [if_pos (.inl hd)]
  have he : endsA d = false := by unfold endsA; rw [hd]; rfl
  have hp : preA d = d := by unfold preA; rw [he, hc]; rfl
  have hm : ∀ f, mayA d f = 8 := fun f => by unfold mayA; rw [if_pos hd]
  unfold doA
  by_cases h2 : x.1 % 8 = 2
  · rw [if_pos h2, SyncA_eq, hp]
    unfold SyncB
    rw [if_pos (by rw [hm]; decide), hm]
    exact ⟨fun _ => rfl, hd, rfl⟩
  · rw [if_neg h2]
    by_cases h3 : x.1 % 8 = 3
    · rw [if_pos h3, TruncA_eq, hp]
      unfold TruncB
      rw [if_pos (by rw [hm]; decide), hm]
      exact ⟨fun _ => rfl, hd, rfl⟩
    · rw [if_neg h3]
      by_cases h4 : x.1 % 8 = 4
      · rw [if_pos h4]
        exact ⟨fun h => by omega, hd, rfl⟩
      · rw [if_neg h4, if_neg (by omega), if_neg (by omega), if_neg (by omega)]
        have hw : WriteA x.2.1 x.2.2.1 x.2.2.2.1 d = (8, d) := by
          unfold WriteA
          rw [he, hc]
          show writeA x.2.1 x.2.2.1 x.2.2.2.1 d = _
          have : errW x.2.1 x.2.2.1 x.2.2.2.1 d = 8 := by
            unfold errW
            rw [if_pos (by rw [hm]; decide), hm]
          unfold writeA
          rw [this]
          rfl
        rw [hw]
        exact ⟨fun _ => rfl, hd, rfl⟩

end Go.Proofs.Ytondjihmmjjinaa
