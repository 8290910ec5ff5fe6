/- Disk, plain: what is pending, and what is not. -/
import Derived.Test.YtondjihmmjjinaaT16
namespace Go.Proofs.Ytondjihmmjjinaa
open Go Go.Eng
set_option linter.unusedVariables false
set_option linter.unusedSimpArgs false

/-- What holds of files and queue, and is kept by what an act is made of, holds behind it. -/
theorem doA_keeps {P : A → Prop} {x : T32} (hflag : ∀ a b : A, a.fs = b.fs → a.qu = b.qu → P a → P b)
    (hadd : ∀ (a : A) (at_ : Int) (s : List UInt8), 0 ≤ at_ → s ≠ [] → P a → P (addA x.2.1 at_ s a))
    (hset : ∀ (a : A) (s : List UInt8), P a → P (settleA x.2.1 s a))
    (hcr : ∀ (a : A) (kp : List Int), P a → P (crashA kp a)) {a : A} (h : P a) : P (doA x a).2 := by
  have hcnt : ∀ a : A, P a → P (cntA a) := fun a h => hflag a _ (cntA_flags a).2.2.2.1.symm (cntA_flags a).2.2.2.2.symm h
  have hpre : ∀ a : A, P a → P (preA a) := by
    intro a h
    unfold preA
    split
    · exact hcr _ _ (hcnt a h)
    · exact hcnt a h
  have hw : ∀ (a : A) (at_ : Int) (s : List UInt8), P a → P (writeA x.2.1 at_ s a).2 := by
    intro a at_ s h
    unfold writeA
    show P (if errW x.2.1 at_ s a = 0 then addA x.2.1 at_ s a else a)
    split
    · rename_i he
      by_cases hs : s = []
      · subst hs
        rw [show addA x.2.1 at_ [] a = a by simp [addA]]
        exact h
      · refine hadd a at_ s ?_ hs h
        unfold errW at he
        split at he
        · rename_i h1; exact absurd he h1
        · split at he
          · cases he
          · omega
    · exact h
  unfold doA
  split
  · unfold SyncA
    have := hpre a h
    split
    · exact this
    · split
      · exact hflag (preA a) _ rfl rfl this
      · exact hset _ _ this
  · split
    · unfold TruncA
      have := hpre a h
      split
      · exact this
      · split
        · exact this
        · exact hset _ _ this
    · split
      · exact hflag a _ rfl rfl h
      · split
        · exact hflag a _ rfl rfl h
        · split
          · exact hcr _ _ h
          · split
            · exact hflag a _ rfl rfl h
            · unfold WriteA
              split
              · exact hcr _ _ (hw _ _ _ (hcnt a h))
              · exact hw _ _ _ (hcnt a h)

theorem playA_keeps {P : A → Prop} : ∀ (l : List T32) (a : A), (∀ x ∈ l, ∀ a : A, P a → P (doA x a).2) → P a → P (playA l a)
  | [], a, _, h => h
  | x :: l, a, hx, h => playA_keeps l _ (fun y hy => hx y (List.mem_cons_of_mem _ hy)) (hx x List.mem_cons_self a h)

theorem addQ_old (f : Int) {p : T69} : ∀ (m : Nat) (n : Int) (q : List T69), p ∈ q → p ∈ addQ f m n q
  | 0, _, q, h => h
  | m + 1, n, q, h => by
    simp only [addQ]
    refine addQ_old f m (n + 1) _ ?_
    split
    · exact h
    · exact List.mem_append_left _ h
theorem addQ_new (f : Int) : ∀ (m : Nat) (n k : Int) (q : List T69), n ≤ k → k < n + m → (f, k, ()) ∈ addQ f m n q
  | 0, n, k, q, h1, h2 => by omega
  | m + 1, n, k, q, h1, h2 => by
    simp only [addQ]
    by_cases e : k = n
    · subst e
      refine addQ_old f m (k + 1) _ ?_
      split
      · rename_i h; exact h
      · exact List.mem_append_right _ (List.mem_singleton.2 rfl)
    · exact addQ_new f m (n + 1) k _ (by omega) (by omega)

/-- What is not pending is durable. -/
structure Inv (a : A) : Prop where
  le : ∀ f, (a.fs f).2.1.length ≤ (a.fs f).1.length
  top : ∀ f, (a.fs f).2.1.length < (a.fs f).1.length → (f, ((((a.fs f).1.length - 1) / 64 : Nat) : Int), ()) ∈ a.qu
  eq : ∀ (f : Int) (i : Nat), (f, ((i / 64 : Nat) : Int), ()) ∉ a.qu → byteD (a.fs f).1 i = byteD (a.fs f).2.1 i

theorem inv0 : Inv A0 := ⟨fun f => Nat.le_refl _, fun f h => absurd h (Nat.lt_irrefl _), fun f i h => rfl⟩

theorem inv_crash {a : A} (h : Inv a) (kp : List Int) : Inv (crashA kp a) := by
  unfold crashA
  split
  · exact h
  · exact ⟨fun f => Nat.le_refl _, fun f h => absurd h (Nat.lt_irrefl _), fun f i h => rfl⟩

theorem inv_settle {a : A} (h : Inv a) (f : Int) (s : List UInt8) : Inv (settleA f s a) where
  le := fun g => by
    show (setF a.fs f (s, s, ()) g).2.1.length ≤ (setF a.fs f (s, s, ()) g).1.length
    unfold setF
    split
    · exact Nat.le_refl _
    · exact h.le g
  top := fun g => by
    show (setF a.fs f (s, s, ()) g).2.1.length < (setF a.fs f (s, s, ()) g).1.length → (g, ((((setF a.fs f (s, s, ()) g).1.length - 1) / 64 : Nat) : Int), ()) ∈ a.qu.filter fun p => !(p.1 == f)
    unfold setF
    split
    · intro h; exact absurd h (Nat.lt_irrefl _)
    · rename_i hne
      intro hlt
      exact List.mem_filter.2 ⟨h.top g hlt, by simpa using hne⟩
  eq := fun g i => by
    show (g, ((i / 64 : Nat) : Int), ()) ∉ a.qu.filter (fun p => !(p.1 == f)) → byteD (setF a.fs f (s, s, ()) g).1 i = byteD (setF a.fs f (s, s, ()) g).2.1 i
    unfold setF
    split
    · intro _; rfl
    · rename_i hne
      intro hn
      exact h.eq g i (fun hm => hn (List.mem_filter.2 ⟨hm, by simpa using hne⟩))

theorem inv_add {a : A} (h : Inv a) (f : Int) {at_ : Int} {s : List UInt8} (h0 : 0 ≤ at_) (hs : s ≠ []) : Inv (addA f at_ s a) := by
  have ha2 : addA f at_ s a = { a with fs := setF a.fs f (putS (a.fs f).1 at_.toNat s, (a.fs f).2.1, ()), qu := addQ f (cntQ at_ s.length) (at_ / 64) a.qu } := by simp [addA, hs]
  have hpos : 0 < s.length := List.length_pos_iff.2 hs
  have hcn : ((cntQ at_ s.length : Nat) : Int) = (at_ + s.length - 1) / 64 - at_ / 64 + 1 := by unfold cntQ; omega
  obtain ⟨n, rfl⟩ := Int.eq_ofNat_of_zero_le h0
  rw [Int.toNat_natCast] at ha2
  rw [ha2]
  exact {
    le := fun g => by
      show (setF a.fs f (putS (a.fs f).1 n s, (a.fs f).2.1, ()) g).2.1.length ≤ (setF a.fs f (putS (a.fs f).1 n s, (a.fs f).2.1, ()) g).1.length
      unfold setF
      split
      · show (a.fs f).2.1.length ≤ (putS (a.fs f).1 n s).length
        rw [putS_len hs]
        have := h.le f
        omega
      · exact h.le g
    top := fun g => by
      show (setF a.fs f (putS (a.fs f).1 n s, (a.fs f).2.1, ()) g).2.1.length < (setF a.fs f (putS (a.fs f).1 n s, (a.fs f).2.1, ()) g).1.length → (g, ((((setF a.fs f (putS (a.fs f).1 n s, (a.fs f).2.1, ()) g).1.length - 1) / 64 : Nat) : Int), ()) ∈ addQ f (cntQ n s.length) ((n : Int) / 64) a.qu
      unfold setF
      split
      · rename_i hg
        show (a.fs f).2.1.length < (putS (a.fs f).1 n s).length → (g, ((((putS (a.fs f).1 n s).length - 1) / 64 : Nat) : Int), ()) ∈ _
        rw [putS_len hs, hg]
        intro hlt
        by_cases hm : (a.fs f).1.length ≤ n + s.length
        · rw [Nat.max_eq_right hm]
          exact addQ_new f _ _ _ _ (by omega) (by omega)
        · rw [Nat.max_eq_left (by omega)] at hlt ⊢
          exact addQ_old f _ _ _ (h.top f hlt)
      · intro hlt
        exact addQ_old f _ _ _ (h.top g hlt)
    eq := fun g i => by
      show (g, ((i / 64 : Nat) : Int), ()) ∉ addQ f (cntQ n s.length) ((n : Int) / 64) a.qu → byteD (setF a.fs f (putS (a.fs f).1 n s, (a.fs f).2.1, ()) g).1 i = byteD (setF a.fs f (putS (a.fs f).1 n s, (a.fs f).2.1, ()) g).2.1 i
      unfold setF
      split
      · rename_i hg
        rw [hg]
        intro hn
        show byteD (putS (a.fs f).1 n s) i = byteD (a.fs f).2.1 i
        rw [byteD_put hs]
        split
        · rename_i hin
          exact absurd (addQ_new f (cntQ n s.length) ((n : Int) / 64) ((i / 64 : Nat) : Int) a.qu (by omega) (by omega)) hn
        · exact h.eq f i (fun hm => hn (addQ_old f _ _ _ hm))
      · intro hn
        exact h.eq g i (fun hm => hn (addQ_old f _ _ _ hm)) }

theorem inv_do {a : A} (h : Inv a) (x : T32) : Inv (doA x a).2 :=
  doA_keeps (P := Inv) (fun a b h1 h2 h => ⟨fun f => by rw [← h1]; exact h.le f, fun f => by rw [← h1, ← h2]; exact h.top f, fun f i => by rw [← h1, ← h2]; exact h.eq f i⟩)
    (fun a at_ s h0 hs h => inv_add h _ h0 hs) (fun a s h => inv_settle h _ s) (fun a kp h => inv_crash h kp) h
theorem inv_play (l : List T32) : Inv (playA l A0) := playA_keeps l A0 (fun x _ a h => inv_do h x) inv0

/-! ### What survives of a file -/
theorem cutS_len2 {s : List UInt8} {n : Nat} : (cutS s (n : Int)).length = min 64 (s.length - 64 * n) := by
  unfold cutS
  rw [List.length_take, List.length_drop]
  omega
theorem cutS_byte {s : List UInt8} {n i : Nat} (hi : i < 64) : byteD (cutS s (n : Int)) i = byteD s (64 * n + i) := by
  unfold cutS byteD
  rw [List.getD_eq_getElem?_getD, List.getD_eq_getElem?_getD, List.getElem?_take, if_pos hi, List.getElem?_drop]
  rw [show (64 * (n : Int)).toNat + i = 64 * n + i by omega]

/-- One sector survives: a file. -/
theorem sect_byte {now last : List UInt8} (hl : last.length ≤ now.length) {n : Nat} (hn : 64 * n < now.length) (j : Nat) :
    byteD (putS last (64 * n) (cutS now (n : Int))) j = if j / 64 = n then byteD now j else byteD last j := by
  have hc : cutS now (n : Int) ≠ [] := by
    intro h
    have := cutS_len2 (s := now) (n := n)
    rw [h, List.length_nil] at this
    omega
  rw [byteD_put hc, cutS_len2]
  by_cases hj : j / 64 = n
  · rw [if_pos hj]
    by_cases h2 : 64 * n ≤ j ∧ j < 64 * n + min 64 (now.length - 64 * n)
    · rw [if_pos h2, cutS_byte (by omega), show 64 * n + (j - 64 * n) = j by omega]
    · rw [if_neg h2, byteD_end (s := last) (by omega), byteD_end (s := now) (by omega)]
  · rw [if_neg (by omega), if_neg hj]
theorem sect_len {now last : List UInt8} {n : Nat} (hn : 64 * n < now.length) : (putS last (64 * n) (cutS now (n : Int))).length = max last.length (min (64 * n + 64) now.length) := by
  have hc : cutS now (n : Int) ≠ [] := by
    intro h
    have := cutS_len2 (s := now) (n := n)
    rw [h, List.length_nil] at this
    omega
  rw [putS_len hc, cutS_len2]
  omega

/-- The sectors S of a file survive. -/
structure Surv (now last out : List UInt8) (q : List T69) (f : Int) (S : Nat → Prop) : Prop where
  mem : ∀ n, S n → (f, (n : Int), ()) ∈ q ∧ 64 * n < now.length
  new : ∀ j, S (j / 64) → byteD out j = byteD now j
  old : ∀ j, ¬ S (j / 64) → byteD out j = byteD last j
  ge : last.length ≤ out.length
  le : out.length ≤ now.length
  top : ∀ n, S n → min (64 * n + 64) now.length ≤ out.length

theorem crF_surv (keep : List Int) (f : Int) : ∀ (q : List T69) (i : Nat) (G : Int → T62), (∀ p ∈ q, 0 ≤ p.2.1) → (G f).2.1.length ≤ (G f).1.length →
    ∃ S : Nat → Prop, Surv (G f).1 (G f).2.1 (crF keep i q G f).2.1 q f S ∧ ((∀ i, oddK keep i = true) → ∀ n : Nat, (f, (n : Int), ()) ∈ q → 64 * n < (G f).1.length → S n)
  | [], i, G, hq, hl => ⟨fun _ => False, ⟨fun n h => h.elim, fun j h => h.elim, fun j _ => rfl, Nat.le_refl _, hl, fun n h => h.elim⟩, fun _ n h => by cases h⟩
  | p :: q, i, G, hq, hl => by
    have hp := hq p List.mem_cons_self
    rw [crF_cons]
    by_cases hc : (oddK keep i = true ∧ 64 * p.2.1 < ((G p.1).1.length : Int)) ∧ p.1 = f
    · obtain ⟨⟨ho, hc⟩, hpf⟩ := hc
      obtain ⟨a, b, ⟨⟩⟩ := p
      have hpf : a = f := hpf
      subst hpf
      obtain ⟨n, rfl⟩ := Int.eq_ofNat_of_zero_le (show 0 ≤ b from hp)
      have hn : 64 * n < (G a).1.length := by
        have : 64 * (n : Int) < ((G a).1.length : Int) := hc
        omega
      have hG : crS keep i (a, (n : Int), ()) G a = ((G a).1, putS (G a).2.1 (64 * n) (cutS (G a).1 (n : Int)), ()) := by
        unfold crS
        rw [if_pos ⟨ho, hc⟩]
        unfold setF
        rw [if_pos rfl]
        show ((G a).1, putS (G a).2.1 (64 * (n : Int)).toNat (cutS (G a).1 (n : Int)), ()) = _
        rw [show (64 * (n : Int)).toNat = 64 * n by omega]
      have hlen := sect_len (last := (G a).2.1) hn
      have hby := sect_byte hl hn
      obtain ⟨S, h1, h2⟩ := crF_surv keep a q (i + 1) (crS keep i (a, (n : Int), ()) G) (fun p hp => hq p (List.mem_cons_of_mem _ hp)) (by
        rw [hG]
        show (putS (G a).2.1 (64 * n) (cutS (G a).1 (n : Int))).length ≤ (G a).1.length
        omega)
      rw [hG] at h1 h2
      have h1 : Surv (G a).1 (putS (G a).2.1 (64 * n) (cutS (G a).1 (n : Int))) _ q a S := h1
      refine ⟨fun m => S m ∨ m = n, ⟨?_, ?_, ?_, ?_, h1.le, ?_⟩, ?_⟩
      · rintro m (hm | rfl)
        · exact ⟨List.mem_cons_of_mem _ (h1.mem m hm).1, (h1.mem m hm).2⟩
        · exact ⟨List.mem_cons_self, hn⟩
      · intro j hj
        by_cases hS : S (j / 64)
        · exact h1.new j hS
        · rw [h1.old j hS, hby, if_pos (hj.resolve_left hS)]
      · intro j hj
        rw [h1.old j (fun h => hj (.inl h)), hby, if_neg (fun h => hj (.inr h))]
      · exact Nat.le_trans (by rw [hlen]; omega) h1.ge
      · rintro m (hm | rfl)
        · exact h1.top m hm
        · exact Nat.le_trans (by rw [hlen]; omega) h1.ge
      · intro hodd m hm hml
        rcases List.mem_cons.1 hm with hm | hm
        · right
          have : (m : Int) = (n : Int) := congrArg (fun p : T69 => p.2.1) hm
          omega
        · exact .inl (h2 hodd m hm hml)
    · have hG : crS keep i p G f = G f := by
        unfold crS
        split
        · rename_i hc2
          unfold setF
          rw [if_neg (fun h => hc ⟨hc2, h.symm⟩)]
        · rfl
      obtain ⟨S, h1, h2⟩ := crF_surv keep f q (i + 1) (crS keep i p G) (fun p hp => hq p (List.mem_cons_of_mem _ hp)) (by rw [hG]; exact hl)
      rw [hG] at h1 h2
      refine ⟨S, ⟨fun n hn => ⟨List.mem_cons_of_mem _ (h1.mem n hn).1, (h1.mem n hn).2⟩, h1.new, h1.old, h1.ge, h1.le, h1.top⟩, ?_⟩
      intro hodd m hm hml
      rcases List.mem_cons.1 hm with hm | hm
      · subst hm
        exact absurd ⟨⟨hodd i, by show 64 * (m : Int) < ((G f).1.length : Int); omega⟩, rfl⟩ hc
      · exact h2 hodd m hm hml

/-- If everything survives, the file is what it was. -/
theorem surv_all {now last out : List UInt8} {q : List T69} {f : Int} {S : Nat → Prop} (h : Surv now last out q f S) (hS : ∀ n : Nat, (f, (n : Int), ()) ∈ q → 64 * n < now.length → S n)
    (htop : last.length < now.length → (f, (((now.length - 1) / 64 : Nat) : Int), ()) ∈ q) (heq : ∀ i : Nat, (f, ((i / 64 : Nat) : Int), ()) ∉ q → byteD now i = byteD last i) : out = now := by
  have hlen : out.length = now.length := by
    have h1 := h.le
    by_cases hlt : last.length < now.length
    · have := h.top _ (hS _ (htop hlt) (by omega))
      omega
    · have := h.ge
      omega
  refine ext_byteD hlen (fun i hi => ?_)
  by_cases hs : S (i / 64)
  · exact h.new i hs
  · rw [h.old i hs]
    refine (heq i (fun hm => hs (hS _ hm (by omega)))).symm

end Go.Proofs.Ytondjihmmjjinaa
