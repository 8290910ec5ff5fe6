/- The engine, part 4b: a part of the objects is hidden while a call runs. -/
import Derived.Test.YtondjihmmjjinaaE4
namespace Go.Eng
open Go
set_option linter.unusedVariables false
set_option linter.unusedSimpArgs false

/-- The base of a run that sees these objects alone. -/
def maskB (X : HS) (M : List SO) : Base := ⟨X.w, fun b => ∃ n o, nth M n = some o ∧ o.live = true ∧ blkOf X n = some b, X.Ok⟩

theorem HRep.mask {B : Base} {X : HS} {G M : List SO} (H : HRep B X G) (hM : M.length = G.length) (hs : ∀ n o, nth M n = some o → o.live = true → nth G n = some o) : HRep (maskB X M) X M where
  len := by rw [hM]; exact H.len
  obj := fun n o h => by
    cases hl : o.live with
    | true => exact H.obj n o (hs n o h hl)
    | false => cases o <;> first | trivial | cases hl
  inj := fun n m o o' h h' l l' => H.inj n m o o' (hs n o h l) (hs m o' h' l') l l'
  sep := fun n o h l => H.sep n o (hs n o h l) l
  okLt := H.okLt
  ownNew := fun n o b h l e => .inl ⟨n, o, h, l, e⟩
  okOld := fun b h => h
  okNew := fun b h => .inl h
  os := rfl
  tape := rfl
  out := rfl
  size := Nat.le_refl _
  fr := fun b _ _ => rfl

/-- A hidden object's block is none of the run's. -/
theorem HRep.hidden {B : Base} {X : HS} {G M : List SO} (H : HRep B X G) (hs : ∀ n o, nth M n = some o → o.live = true → nth G n = some o) {n : Nat} {o : SO} (hn : nth G n = some o) (hl : o.live = true) (hh : ∀ o', nth M n = some o' → o'.live = false)
    {b : Nat} (hb : blkOf X n = some b) : ¬ (maskB X M).own b ∧ b < X.w.heap.size ∧ ¬ X.Ok b := by
  refine ⟨fun ⟨m, o', h1, h2, h3⟩ => ?_, H.lt hn hl hb, H.sep n o hn hl b hb⟩
  have := H.inj n m o o' hn (hs m o' h1 h2) hl h2 b hb h3
  subst this
  rw [hh o' h1] at h2
  cases h2

theorem HRep.unmask {B : Base} {X X1 : HS} {G M G1 G2 : List SO} (H : HRep B X G) (hM : M.length = G.length) (hs : ∀ n o, nth M n = some o → o.live = true → nth G n = some o) (hx : Ext X X1) (H1 : HRep (maskB X M) X1 G1) (hlen : G2.length = G1.length)
    (h2 : ∀ n o, nth G2 n = some o → o.live = true → nth G1 n = some o ∨ (nth G n = some o ∧ ∀ o', nth M n = some o' → o'.live = false)) : HRep B X1 G2 := by
  have hρ : ∀ n o, nth G n = some o → blkOf X1 n = blkOf X n := fun n o hn => by
    have hl : n < X.ρ.length := by rw [H.len]; rw [nth_eq] at hn; exact (List.getElem?_eq_some_iff.1 hn).1
    have h1 := List.getElem?_eq_getElem hl
    unfold blkOf
    rw [h1, hx.ρ n _ h1]
  -- a hidden object, and one of the run's
  have apart : ∀ n m o o', nth G1 n = some o → o.live = true → nth G m = some o' → o'.live = true → (∀ o', nth M m = some o' → o'.live = false) → ∀ b, blkOf X1 n = some b → blkOf X1 m = some b → False := by
    intro n m o o' hn l hm l' hh b e1 e2
    rw [hρ m o' hm] at e2
    obtain ⟨k1, k2, _⟩ := H.hidden hs hm l' hh e2
    rcases H1.ownNew n o b hn l e1 with q | q
    · exact k1 q
    · exact absurd q (Nat.not_le.2 k2)
  exact {
    len := by rw [hlen]; exact H1.len
    obj := fun n o h => by
      cases hl : o.live with
      | false => cases o <;> first | trivial | cases hl
      | true =>
        rcases h2 n o h hl with q | ⟨q, hh⟩
        · exact H1.obj n o q
        · refine RepO_mono hx (fun b _ hb => ?_) (H.obj n o q)
          obtain ⟨k1, k2, _⟩ := H.hidden hs q hl hh hb
          exact H1.fr b k2 k1
    inj := fun n m o o' h h' l l' b e1 e2 => by
      rcases h2 n o h l with q | ⟨q, hh⟩
      · rcases h2 m o' h' l' with q' | ⟨q', hh'⟩
        · exact H1.inj n m o o' q q' l l' b e1 e2
        · exact (apart n m o o' q l q' l' hh' b e1 e2).elim
      · rcases h2 m o' h' l' with q' | ⟨q', hh'⟩
        · exact (apart m n o' o q' l' q l hh b e2 e1).elim
        · rw [hρ n o q] at e1
          rw [hρ m o' q'] at e2
          exact H.inj n m o o' q q' l l' b e1 e2
    sep := fun n o h l b e hok => by
      rcases h2 n o h l with q | ⟨q, hh⟩
      · exact H1.sep n o q l b e hok
      · rw [hρ n o q] at e
        obtain ⟨k1, k2, k3⟩ := H.hidden hs q l hh e
        rcases H1.okNew b hok with q' | q' | q'
        · exact k3 q'
        · exact absurd q' (Nat.not_le.2 k2)
        · exact k1 q'
    okLt := H1.okLt
    ownNew := fun n o b h l e => by
      rcases h2 n o h l with q | ⟨q, hh⟩
      · rcases H1.ownNew n o b q l e with ⟨m, o', k1, k2, k3⟩ | q'
        · exact H.ownNew m o' b (hs m o' k1 k2) k2 k3
        · exact .inr (Nat.le_trans H.size q')
      · rw [hρ n o q] at e
        exact H.ownNew n o b q l e
    okOld := fun b h => hx.ok b (H.okOld b h)
    okNew := fun b h => by
      rcases H1.okNew b h with q | q | ⟨m, o', k1, k2, k3⟩
      · exact H.okNew b q
      · exact .inr (.inl (Nat.le_trans H.size q))
      · rcases H.ownNew m o' b (hs m o' k1 k2) k2 k3 with q | q
        · exact .inr (.inr q)
        · exact .inr (.inl q)
    os := H1.os.trans H.os
    tape := H1.tape.trans H.tape
    out := H1.out.trans H.out
    size := Nat.le_trans H.size H1.size
    fr := fun b hb ho => by
      refine Eq.trans (H1.fr b (Nat.lt_of_lt_of_le hb H.size) ?_) (H.fr b hb ho)
      rintro ⟨m, o', k1, k2, k3⟩
      rcases H.ownNew m o' b (hs m o' k1 k2) k2 k3 with q | q
      · exact ho q
      · exact absurd q (Nat.not_le.2 hb) }

theorem maskH_len (F : List Nat) : ∀ (i : Nat) (h : List SO), (maskH F i h).length = h.length
  | _, [] => rfl
  | i, o :: h => by simp [maskH, maskH_len F (i + 1) h]

theorem maskH_nth (F : List Nat) : ∀ (i : Nat) (h : List SO) (n : Nat), nth (maskH F i h) n = (nth h n).map (fun o => bif F.any (Nat.beq (i + n)) then o else .dead)
  | _, [], n => rfl
  | i, o :: h, 0 => rfl
  | i, o :: h, n + 1 => by
    have := maskH_nth F (i + 1) h n
    rw [show i + (n + 1) = i + 1 + n by omega]
    exact this

theorem restH_spec (F : List Nat) : ∀ (i : Nat) (h h' h2 : List SO), restH F i h h' = some h2 → h2.length = h'.length ∧ h.length ≤ h'.length ∧
    ∀ n, (n < h.length → (F.any (Nat.beq (i + n)) = true → nth h2 n = nth h' n) ∧ (F.any (Nat.beq (i + n)) = false → nth h2 n = nth h n ∧ nth h' n = some .dead)) ∧ (h.length ≤ n → nth h2 n = nth h' n)
  | i, [], h', h2, e => by
    simp only [restH, Option.some.injEq] at e
    subst e
    exact ⟨rfl, Nat.zero_le _, fun n => ⟨fun h => absurd h (Nat.not_lt_zero _), fun _ => rfl⟩⟩
  | i, o :: h, [], h2, e => by simp [restH] at e
  | i, o :: h, o' :: h', h2, e => by
    simp only [restH] at e
    cases hr : restH F (i + 1) h h' with
    | none => rw [hr] at e; cases e
    | some l =>
      rw [hr] at e
      simp only at e
      obtain ⟨q1, q2, q3⟩ := restH_spec F (i + 1) h h' l hr
      have key : ∀ x, h2 = x :: l → ((F.any (Nat.beq i) = true → x = o') ∧ (F.any (Nat.beq i) = false → x = o ∧ o' = .dead)) → h2.length = (o' :: h').length ∧ (o :: h).length ≤ (o' :: h').length ∧
          ∀ n, (n < (o :: h).length → (F.any (Nat.beq (i + n)) = true → nth h2 n = nth (o' :: h') n) ∧ (F.any (Nat.beq (i + n)) = false → nth h2 n = nth (o :: h) n ∧ nth (o' :: h') n = some .dead)) ∧ ((o :: h).length ≤ n → nth h2 n = nth (o' :: h') n) := by
        rintro x rfl ⟨x1, x2⟩
        refine ⟨by simp [q1], by simp [q2], fun n => ?_⟩
        cases n with
        | zero =>
          refine ⟨fun _ => ⟨fun hf => by rw [x1 (by simpa using hf)]; rfl, fun hf => ?_⟩, fun hl => by simp at hl⟩
          obtain ⟨y1, y2⟩ := x2 (by simpa using hf)
          rw [y1, y2]; exact ⟨rfl, rfl⟩
        | succ n =>
          rw [show i + (n + 1) = i + 1 + n by omega]
          obtain ⟨k1, k2⟩ := q3 n
          exact ⟨fun hl => k1 (by simpa using hl), fun hl => k2 (by simpa using hl)⟩
      cases hf : F.any (Nat.beq i) with
      | true =>
        rw [hf] at e
        simp only [cond_true, Option.some.injEq] at e
        exact key o' e.symm ⟨fun _ => rfl, fun h => by rw [hf] at h; cases h⟩
      | false =>
        rw [hf] at e
        simp only [cond_false] at e
        split at e
        · simp only [Option.some.injEq] at e
          exact key o e.symm ⟨fun h => (by rw [hf] at h; cases h), fun _ => ⟨rfl, rfl⟩⟩
        · cases e

theorem maskH_sub {F : List Nat} {h : List SO} : ∀ n o, nth (maskH F 0 h) n = some o → o.live = true → nth h n = some o := by
  intro n o e l
  rw [maskH_nth] at e
  cases hn : nth h n with
  | none => rw [hn] at e; cases e
  | some x =>
    rw [hn] at e
    simp only [Option.map_some, Option.some.injEq] at e
    cases hf : F.any (Nat.beq (0 + n)) with
    | true => rw [hf] at e; simp only [cond_true] at e; rw [e]
    | false => rw [hf] at e; simp only [cond_false] at e; subst e; cases l

/-- What a call that saw a part has left, with the others. -/
theorem HRep.rest {B : Base} {X X1 : HS} {F : List Nat} {h h' h2 : List SO} (H : HRep B X h) (hx : Ext X X1) (H1 : HRep (maskB X (maskH F 0 h)) X1 h') (e : restH F 0 h h' = some h2) : HRep B X1 h2 := by
  obtain ⟨q1, q2, q3⟩ := restH_spec F 0 h h' h2 e
  refine H.unmask (maskH_len F 0 h) maskH_sub hx H1 q1 (fun n o hn hl => ?_)
  obtain ⟨k1, k2⟩ := q3 n
  by_cases hlt : n < h.length
  · obtain ⟨k3, k4⟩ := k1 hlt
    cases hf : F.any (Nat.beq (0 + n)) with
    | true => rw [k3 hf] at hn; exact .inl hn
    | false =>
      rw [(k4 hf).1] at hn
      refine .inr ⟨hn, fun o' ho' => ?_⟩
      rw [maskH_nth, hn] at ho'
      simp only [Option.map_some, Option.some.injEq, hf, cond_false] at ho'
      subst ho'; rfl
  · rw [k2 (by omega)] at hn; exact .inl hn

end Go.Eng
