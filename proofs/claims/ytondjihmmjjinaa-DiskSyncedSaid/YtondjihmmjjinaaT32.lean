/- Disk, plain: DiskSynced. -/
import Derived.Test.YtondjihmmjjinaaT31
namespace Go.Proofs.Ytondjihmmjjinaa
open Go Go.Eng
set_option linter.unusedVariables false
set_option linter.unusedSimpArgs false

/-- A file is durable. -/
def Dur (f : Int) (s : List UInt8) (a : A) : Prop := a.fs f = (s, s, ()) ∧ ∀ p ∈ a.qu, p.1 ≠ f

theorem crF_off (keep : List Int) (f : Int) : ∀ (q : List T69) (i : Nat) (G : Int → T62), (∀ p ∈ q, p.1 ≠ f) → crF keep i q G f = G f
  | [], i, G, h => rfl
  | p :: q, i, G, h => by
    rw [crF_cons, crF_off keep f q (i + 1) _ (fun p hp => h p (List.mem_cons_of_mem _ hp))]
    unfold crS
    split
    · unfold setF
      rw [if_neg (fun e => h p List.mem_cons_self e.symm)]
    · rfl

theorem dur_crash {f : Int} {s : List UInt8} {a : A} (h : Dur f s a) (kp : List Int) : Dur f s (crashA kp a) := by
  unfold crashA
  split
  · exact h
  · refine ⟨?_, fun p hp => by cases hp⟩
    show ((crF kp 0 a.qu a.fs f).2.1, (crF kp 0 a.qu a.fs f).2.1, ()) = _
    rw [crF_off kp f _ _ _ h.2, h.1]
theorem dur_add {f : Int} {s : List UInt8} {a : A} (h : Dur f s a) {g at_ : Int} (hg : g ≠ f) (t : List UInt8) : Dur f s (addA g at_ t a) := by
  unfold addA
  split
  · exact h
  · refine ⟨?_, fun p hp => ?_⟩
    · show setF a.fs g _ f = _
      unfold setF
      rw [if_neg (Ne.symm hg)]
      exact h.1
    · rcases addQ_dom g _ _ _ hp with hp | ⟨h1, _⟩
      · exact h.2 p hp
      · rw [h1]; exact hg
theorem dur_settle {f : Int} {s : List UInt8} {a : A} (h : Dur f s a) {g : Int} (hg : g ≠ f) (t : List UInt8) : Dur f s (settleA g t a) := by
  refine ⟨?_, fun p hp => h.2 p (List.mem_filter.1 hp).1⟩
  show setF a.fs g _ f = _
  unfold setF
  rw [if_neg (Ne.symm hg)]
  exact h.1

theorem dur_do {f : Int} {s : List UInt8} {a : A} (h : Dur f s a) {x : T32} (hx : x.2.1 ≠ f) : Dur f s (doA x a).2 :=
  doA_keeps (P := Dur f s) (fun a b h1 h2 h => ⟨by rw [← h1]; exact h.1, fun p hp => h.2 p (by rw [h2]; exact hp)⟩)
    (fun a at_ t h0 hs h => dur_add h hx t) (fun a t h => dur_settle h hx t) (fun a kp h => dur_crash h kp) h

theorem dur_lose {f : Int} {s : List UInt8} {a : A} (h : Dur f s a) {x : T32} (hx : x.1 % 8 = 4) : Dur f s (doA x a).2 := by
  unfold doA
  rw [if_neg (by omega), if_neg (by omega), if_pos hx]
  exact ⟨h.1, h.2⟩

theorem l5_eq {R : Type} {l : List T32} (O : Ok l) {f : Int} {s : List UInt8} {k : Int → Bool → Int → List Int → List (Int × T62) → List T69 → List (T69 × Bool) → Option R} :
    ∀ (m i g : Nat) (a : A) (fs : List (Int × T62)) (qu : List T69) (st : List (T69 × Bool)), i + m = l.length → Rel (i + 50) a fs qu st → Nice a → Dur f s a →
    ∃ a' fs' qu' st', l5_1 f l k (g + m + 1) (i : Int) a.lost a.down a.armed a.keep fs qu st = k a'.lost a'.down a'.armed a'.keep fs' qu' st' ∧ Rel (l.length + 50) a' fs' qu' st' ∧ Nice a' ∧ Dur f s a'
  | 0, i, g, a, fs, qu, st, hm, hR, hN, hD => by
    have hi : i = l.length := by omega
    subst hi
    refine ⟨a, fs, qu, st, ?_, hR, hN, hD⟩
    show s5_1 _ _ _ _ _ _ _ _ _ _ _ _ = _
    unfold s5_1
    rw [show decide (((l.length : Nat) : Int) < (l.length : Int)) = false by simp]
    rfl
  | m + 1, i, g, a, fs, qu, st, hm, hR, hN, hD => by
    have hi : i < l.length := by omega
    have hO := O.len
    have hx := List.getElem_mem hi
    have ei : idx l (i : Int) = some l[i] := by rw [idx_nat, List.getElem?_eq_getElem hi]
    by_cases hc : (l[i].1 % 8 < 4 ∧ l[i].2.1 ≠ f) ∨ l[i].1 % 8 = 4
    · obtain ⟨fs1, qu1, st1, e1, R1, N1⟩ := m12_eq hR hN (by omega) l[i] (O.str _ hx) (O.kp _ hx) (O.num _ hx)
      have D1 : Dur f s (doA l[i] a).2 := by
        rcases hc with hc | hc
        · exact dur_do hD hc.2
        · exact dur_lose hD hc
      obtain ⟨a', fs2, qu2, st2, e2, R2, N2, D2⟩ := l5_eq O (k := k) m (i + 1) g (doA l[i] a).2 fs1 qu1 st1 (by omega) (R1.more (by omega)) N1 D1
      refine ⟨a', fs2, qu2, st2, ?_, R2, N2, D2⟩
      show s5_1 _ _ _ _ _ _ _ _ _ _ _ _ = _
      unfold s5_1
      rw [show decide ((i : Int) < (l.length : Int)) = true by simp; omega, cond_true]
      rw [show IntKind.i64.wrap ((i : Int) + 1) = ((i + 1 : Nat) : Int) by rw [wrapI (by omega) (by omega)]; rfl]
      refine (cont_eq ((doA l[i] a).2.lost, (doA l[i] a).2.down, (doA l[i] a).2.armed, (doA l[i] a).2.keep, fs1, qu1, st1) (fun k12 => ?_)).trans e2
      refine bind_to ei ?_
      simp only [and7]
      by_cases h4 : l[i].1 % 8 < 4
      · refine bind_to (y := l[i]) (by unfold idxG; rw [show (decide (l[i].1 % 8 < 4) == true) = true by simp [h4], cond_true]; exact ei) ?_
        refine bif_t (by simp; omega) (bind_to ei (bind_to e1 rfl))
      · refine bind_to (y := (0, 0, 0, [], [], ())) (by unfold idxG; rw [show (decide (l[i].1 % 8 < 4) == true) = false by simp; omega, cond_false]) ?_
        refine bif_t (by simp; omega) (bind_to ei (bind_to e1 rfl))
    · obtain ⟨a', fs2, qu2, st2, e2, R2, N2, D2⟩ := l5_eq O (k := k) m (i + 1) g a fs qu st (by omega) (hR.more (by omega)) hN hD
      refine ⟨a', fs2, qu2, st2, ?_, R2, N2, D2⟩
      show s5_1 _ _ _ _ _ _ _ _ _ _ _ _ = _
      unfold s5_1
      rw [show decide ((i : Int) < (l.length : Int)) = true by simp; omega, cond_true]
      rw [show IntKind.i64.wrap ((i : Int) + 1) = ((i + 1 : Nat) : Int) by rw [wrapI (by omega) (by omega)]; rfl]
      refine (cont_eq (a.lost, a.down, a.armed, a.keep, fs, qu, st) (fun k12 => ?_)).trans e2
      refine bind_to ei ?_
      simp only [and7]
      by_cases h4 : l[i].1 % 8 < 4
      · refine bind_to (y := l[i]) (by unfold idxG; rw [show (decide (l[i].1 % 8 < 4) == true) = true by simp [h4], cond_true]; exact ei) ?_
        have h5 : l[i].2.1 = f := by
          by_cases h : l[i].2.1 = f
          · exact h
          · exact absurd (.inl ⟨h4, h⟩) hc
        refine bif_f (by rw [h5]; simp; omega) rfl
      · refine bind_to (y := (0, 0, 0, [], [], ())) (by unfold idxG; rw [show (decide (l[i].1 % 8 < 4) == true) = false by simp; omega, cond_false]) ?_
        refine bif_f (by simp; omega) rfl

theorem mayA_ok {a : A} {f : Int} (h : mayA a f = 0) : a.down = false ∧ 0 ≤ f ∧ f ≤ 15 := by
  unfold mayA at h
  split at h
  · cases h
  · rename_i hd
    split at h
    · cases h
    · exact ⟨by simpa using hd, by omega, by omega⟩

/-- A Sync that succeeds. -/
theorem sync_ok {a : A} {f : Int} (h : (SyncA f a).1 = 0) : (a.down = false ∧ 0 ≤ f ∧ f ≤ 15) ∧ (SyncA f a).2 = settleA f (a.fs f).1 (cntA a) := by
  unfold SyncA at h ⊢
  by_cases hm : mayA (preA a) f ≠ 0
  · rw [if_pos hm] at h
    exact absurd h hm
  · rw [if_neg hm] at h ⊢
    have hm : mayA (preA a) f = 0 := by simpa using hm
    obtain ⟨hd, hf⟩ := mayA_ok hm
    by_cases hl : 0 < (preA a).lost
    · rw [if_pos hl] at h; cases h
    · rw [if_neg hl]
      have he : endsA a = false := by
        cases he : endsA a with
        | false => rfl
        | true =>
          have hp : preA a = crashA (cntA a).keep (cntA a) := by unfold preA; rw [he]; rfl
          have hd2 : (cntA a).down = false := by
            rw [(cntA_flags a).2.1]
            unfold endsA at he
            rw [Bool.and_eq_true] at he
            simpa using he.1
          rw [hp, (crashA_flags hd2).2.1] at hd
          cases hd
      have hp : preA a = cntA a := by unfold preA; rw [he]; rfl
      rw [hp] at hd ⊢
      rw [(cntA_flags a).2.1] at hd
      rw [(cntA_flags a).2.2.2.1]
      exact ⟨⟨hd, hf⟩, rfl⟩

theorem diskSynced (l : List T32) (f : Int) (more : List T32) (keep : List Int) (hl : l.length ≤ 9223372036854775807) (hw : ∀ x ∈ l, x.2.2.1 ≤ 9223372036854775807) (hl2 : more.length ≤ 9223372036854775807) (hw2 : ∀ x ∈ more, x.2.2.1 ≤ 9223372036854775807) : m5 l f more keep = some true := by
  unfold m5
  refine bind_to m8_true (bind_to (m9_eq hl) ?_)
  cases hf : fewB l with
  | false => exact bind_to (y := false) rfl rfl
  | true =>
    refine bind_to (y := fewB more) (m9_eq hl2) ?_
    by_cases hg : fewB more = true ∧ keep.length ≤ 60
    · obtain ⟨hg, hk⟩ := hg
      have O := ok_of hf hw
      have O2 := ok_of hg hw2
      have hO2 := O2.len
      obtain ⟨fs, qu, st, e1, R, N⟩ := m22_eq O
      refine bif_f (by rw [hg]; simp; omega) (bind_to e1 ?_)
      revert R N
      generalize playA l A0 = a
      intro R N
      have h5 := m20_eq R f 0 16777216 a.lost a.armed a.keep
      obtain ⟨fs6, qu6, st6, h6, R6⟩ := m19_eq R N (by omega) f
      have N6 := nice_Sync N f
      refine bind_to h5 (bind_to h6 ?_)
      by_cases hs : (SyncA f a).1 = 0
      · obtain ⟨⟨hd, hf0⟩, hst⟩ := sync_ok hs
        have hd6 : (SyncA f a).2.down = false := by
          rw [hst]
          show (cntA a).down = false
          rw [(cntA_flags a).2.1]
          exact hd
        have hfs6 : (SyncA f a).2.fs f = ((a.fs f).1, (a.fs f).1, ()) := by
          rw [hst]
          show setF _ f _ f = _
          unfold setF
          rw [if_pos rfl]
        have D6 : Dur f (a.fs f).1 (SyncA f a).2 := by
          refine ⟨hfs6, fun p hp => ?_⟩
          rw [hst] at hp
          have := (List.mem_filter.1 hp).2
          simpa using this
        have h7 := m20_eq R6 f 0 16777216 (SyncA f a).2.lost (SyncA f a).2.armed (SyncA f a).2.keep
        refine bif_f (by show ((SyncA f a).1 != 0) = false; rw [hs]; rfl) (bind_to h7 ?_)
        obtain ⟨g, hgf⟩ := fuel_s (more.length + 1) (by omega)
        have R6' := R6.more (m := 0 + 50) (by omega)
        obtain ⟨a', fs', qu', st', e8, R8, N8, D8⟩ := l5_eq (R := Bool) O2 (f := f) (s := (a.fs f).1) (k := fun y13 y14 y15 y16 y17 y18 y19 =>
          (m25 keep y13 y14 y15 y16 y17 y18 y19).bind fun r20 =>
          (m20 f 0 16777216 r20.2.1.2.2.2.1 false r20.2.1.2.2.2.2.2.1 r20.2.1.2.2.2.2.2.2.1 r20.2.2.1 r20.2.2.2.2.2.1 r20.2.2.2.2.2.2.1).bind fun r21 =>
          some ((((true && ((ReadA f 0 16777216 (SyncA f a).2).2 == 0)) && (r21.1.1.2.1 == 0)) && ((ReadA f 0 16777216 a).1 == (ReadA f 0 16777216 (SyncA f a).2).1)) && (r21.1.1.1 == (ReadA f 0 16777216 (SyncA f a).2).1))) more.length 0 g (SyncA f a).2 fs6 qu6 st6 (by omega) R6' N6 D6
        rw [show g + more.length + 1 = FUEL by omega] at e8
        refine Eq.trans e8 ?_
        obtain ⟨fs9, qu9, st9, h9, R9⟩ := crash_eq R8 (by omega) (kp := keep) (by omega)
        have D9 := dur_crash D8 keep
        have h10 := m20_eq (rel_up R9) f 0 16777216 (crashA keep a').lost (crashA keep a').armed (crashA keep a').keep
        refine bind_to h9 (bind_to h10 ?_)
        have v1 : ReadA f 0 16777216 a = ((a.fs f).1, 0) := read_all hd hf0 (R.now f)
        have v2 : ReadA f 0 16777216 (SyncA f a).2 = ((a.fs f).1, 0) := by rw [read_all hd6 hf0 (R6.now f), hfs6]
        have v3 : ReadA f 0 16777216 (upA (crashA keep a')) = ((a.fs f).1, 0) := by
          rw [read_all rfl hf0 ((rel_up R9).now f)]
          show (((crashA keep a').fs f).1, (0 : Int)) = _
          rw [D9.1]
        rw [v1, v2, v3]
        simp
      · refine bif_t (by show ((SyncA f a).1 != 0) = true; exact bne_iff_ne.2 hs) rfl
    · refine bif_t ?_ rfl
      cases hc : fewB more with
      | false => rfl
      | true =>
        have : ¬ keep.length ≤ 60 := fun h => hg ⟨hc, h⟩
        simp
        omega

end Go.Proofs.Ytondjihmmjjinaa
