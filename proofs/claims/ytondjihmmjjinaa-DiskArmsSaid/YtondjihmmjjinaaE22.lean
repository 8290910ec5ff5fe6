/- The engine, part 22: only what is named is kept; code. -/
import Derived.Test.YtondjihmmjjinaaE21
namespace Go.Eng
open Go
set_option linter.unusedVariables false
set_option linter.unusedSimpArgs false

/-! ### Renumbering -/

theorem posOf_spec : ∀ {σ : List Nat} {n : Nat}, σ.any (Nat.beq n) = true → σ[posOf n σ]? = some n
  | [], n, h => by simp at h
  | a :: l, n, h => by
    simp only [posOf]
    cases hb : Nat.beq a n with
    | true => simp [Nat.eq_of_beq_eq_true hb]
    | false =>
      simp only [cond_false, List.getElem?_cons_succ]
      apply posOf_spec
      simp only [List.any_cons, Bool.or_eq_true] at h
      rcases h with h | h
      · have := Nat.eq_of_beq_eq_true h
        subst this
        simp at hb
      · exact h

theorem inN_app {σ : List Nat} : ∀ {a b : List Nat}, inN σ (a ++ b) = true → inN σ a = true ∧ inN σ b = true
  | [], b, h => ⟨rfl, h⟩
  | n :: a, b, h => by
    simp only [List.cons_append, inN, Bool.and_eq_true] at h ⊢
    obtain ⟨h1, h2⟩ := h
    obtain ⟨k1, k2⟩ := inN_app h2
    exact ⟨⟨h1, k1⟩, k2⟩

theorem inN_one {σ : List Nat} {n : Nat} (h : inN σ [n] = true) : σ.any (Nat.beq n) = true := by
  simp only [inN, Bool.and_eq_true] at h
  exact h.1

/-- The places of the kept objects. -/
def renX (X : HS) (σ : List Nat) : HS := ⟨σ.map fun n => (X.ρ[n]?).getD undef, X.Ok, X.w⟩

theorem renX_at {X : HS} {σ : List Nat} {n : Nat} {v : Value} (hn : σ.any (Nat.beq n) = true) (h : X.ρ[n]? = some v) : (renX X σ).ρ[posOf n σ]? = some v := by
  simp [renX, posOf_spec hn, h]

theorem ren_size {σ : List Nat} : ∀ (v : SV), (v.ren σ).size = v.size
  | .scons a b => by simp only [SV.ren, SV.size, ren_size a, ren_size b]
  | .agg l => by simp only [SV.ren, SV.size, ren_size l]
  | .tup l => by simp only [SV.ren, SV.size]
  | .dat g x => rfl
  | .nils => rfl
  | .emp => rfl
  | .nilp => rfl
  | .nilm => rfl
  | .nilfn => rfl
  | .nsl _ _ => rfl
  | .box _ _ _ => rfl
  | .el _ _ _ _ _ => rfl
  | .rd _ _ => rfl
  | .own _ => rfl
  | .mp _ => rfl
  | .vw _ _ _ _ => rfl
  | .fn _ _ => rfl
  | .snil => rfl

theorem ren_rep {X : HS} {σ : List Nat} : ∀ (v : SV) (m : Md) (vs : List Value), inN σ v.names = true → Rep X v m vs → Rep (renX X σ) (v.ren σ) m vs
  | .dat g x, .cells, vs, _, h => h
  | .dat g x, .val, vs, _, h => h
  | .dat g x, .vals, vs, _, h => h
  | .nils, _, vs, _, h => h
  | .emp, _, vs, _, h => h
  | .nilp, _, vs, _, h => h
  | .nilm, _, vs, _, h => h
  | .nilfn, _, vs, _, h => h
  | .nsl _ _, _, vs, _, h => h
  | .box n _ off, _, vs, hn, h => let ⟨b, h1, h2⟩ := h; ⟨b, renX_at (inN_one hn) h1, h2⟩
  | .el n g i _ off, _, vs, hn, h => let ⟨b, o, len, cap, h1, h2⟩ := h; ⟨b, o, len, cap, renX_at (inN_one hn) h1, h2⟩
  | .rd g x, _, vs, _, h => h
  | .own n, _, vs, hn, h => let ⟨v, h1, h2⟩ := h; ⟨v, renX_at (inN_one hn) h1, h2⟩
  | .mp n, _, vs, hn, h => let ⟨v, h1, h2⟩ := h; ⟨v, renX_at (inN_one hn) h1, h2⟩
  | .vw n g lo len, _, vs, hn, h => let ⟨base, l, cap, b', c, h1, h2⟩ := h; ⟨base, l, cap, b', c, renX_at (inN_one hn) h1, h2⟩
  | .fn f caps, _, vs, hn, h => let ⟨us, h1, h2⟩ := h; ⟨us, ren_rep caps _ us hn h1, h2⟩
  | .snil, _, vs, _, h => h
  | .scons a b, .cells, vs, hn, h => let ⟨c1, c2, h0, h1, h2⟩ := h; ⟨c1, c2, h0, ren_rep a _ c1 (inN_app hn).1 h1, ren_rep b _ c2 (inN_app hn).2 h2⟩
  | .scons a b, .val, vs, hn, h => let ⟨v, c2, h0, h1, h2⟩ := h; ⟨v, c2, h0, ren_rep a _ _ (inN_app hn).1 h1, ren_rep b _ c2 (inN_app hn).2 h2⟩
  | .scons a b, .vals, vs, hn, h => let ⟨v, c2, h0, h1, h2⟩ := h; ⟨v, c2, h0, ren_rep a _ _ (inN_app hn).1 h1, ren_rep b _ c2 (inN_app hn).2 h2⟩
  | .agg l, .cells, vs, hn, h => ren_rep l .cells vs hn h
  | .agg l, .val, vs, hn, h => let ⟨cs, h1, h2⟩ := h; ⟨cs, ren_rep l _ cs hn h1, h2⟩
  | .agg l, .vals, vs, hn, h => let ⟨cs, h1, h2⟩ := h; ⟨cs, ren_rep l _ cs hn h1, h2⟩
  | .tup l, .cells, vs, _, h => h.elim
  | .tup l, .val, vs, hn, h => let ⟨us, h1, h2⟩ := h; ⟨us, ren_rep l _ us hn h1, h2⟩
  | .tup l, .vals, vs, hn, h => let ⟨us, h1, h2⟩ := h; ⟨us, ren_rep l _ us hn h1, h2⟩

theorem restr_lk {regs : List (Nat × SV)} {t : Nat} {v : SV} : ∀ (l : List Nat), lk (restr regs l) t = some v → lk regs t = some v
  | [], hl => by simp [restr, lk] at hl
  | n :: l, hl => by
    simp only [restr] at hl
    split at hl
    · rename_i u hu
      simp only [lk] at hl
      cases hb : Nat.beq n t with
      | true =>
        rw [hb] at hl
        simp only [cond_true, Option.some.injEq] at hl
        rw [← Nat.eq_of_beq_eq_true hb, hu, hl]
      | false =>
        rw [hb] at hl
        exact restr_lk l hl
    · exact restr_lk l hl

theorem renR_lk {σ : List Nat} {t : Nat} {v' : SV} : ∀ {regs : List (Nat × SV)}, closedR σ regs = true → lk (renR σ regs) t = some v' → ∃ v, lk regs t = some v ∧ v' = v.ren σ ∧ inN σ v.names = true
  | [], _, h => by simp [renR, lk] at h
  | e :: l, hc, h => by
    simp only [closedR, Bool.and_eq_true] at hc
    simp only [renR, lk] at h ⊢
    cases hb : Nat.beq e.1 t with
    | true =>
      rw [hb] at h
      simp only [cond_true, Option.some.injEq] at h
      exact ⟨e.2, rfl, h.symm, hc.1⟩
    | false =>
      rw [hb] at h
      exact renR_lk hc.2 h

theorem pickO_nth {h : List SO} {σ : List Nat} : ∀ {l : List Nat} {i : Nat} {o' : SO}, closedO h σ l = true → (pickO h σ l)[i]? = some o' → ∃ n o, l[i]? = some n ∧ nth h n = some o ∧ o' = o.ren σ ∧ inN σ o.names = true
  | [], i, o', _, hp => by simp [pickO] at hp
  | n :: l, 0, o', hc, hp => by
    simp only [closedO, Bool.and_eq_true] at hc
    simp only [pickO, List.getElem?_cons_zero, Option.some.injEq] at hp
    obtain ⟨h1, _⟩ := hc
    split at h1
    · rename_i v hv
      rw [hv] at hp
      exact ⟨n, _, rfl, hv, hp.symm, h1⟩
    · rename_i q g xs i0 u hv
      rw [hv] at hp
      exact ⟨n, _, rfl, hv, hp.symm, h1⟩
    · cases h1
    · rename_i o hno hno2 hno3 ho
      rw [ho] at hp
      refine ⟨n, _, rfl, ho, hp.symm, ?_⟩
      cases o with
      | box v => exact (hno v rfl).elim
      | hole q g xs i0 u => exact (hno2 q g xs i0 u rfl).elim
      | mapS k v es x m => exact (hno3 k v es x m rfl).elim
      | _ => rfl
    · cases h1
  | n :: l, i + 1, o', hc, hp => by
    simp only [closedO, Bool.and_eq_true] at hc
    simp only [pickO, List.getElem?_cons_succ] at hp ⊢
    exact pickO_nth hc.2 hp

theorem pickO_len {h : List SO} {σ : List Nat} : ∀ {l : List Nat}, (pickO h σ l).length = l.length
  | [] => rfl
  | n :: l => by simp [pickO, pickO_len]

theorem nodupB_inj : ∀ {σ : List Nat}, nodupB σ = true → ∀ {i j n : Nat}, σ[i]? = some n → σ[j]? = some n → i = j
  | [], _, i, j, n, h, _ => by simp at h
  | a :: l, hn, i, j, n, hi, hj => by
    obtain ⟨h1, h2⟩ := nodupB_cons hn
    cases i with
    | zero =>
      simp only [List.getElem?_cons_zero, Option.some.injEq] at hi
      subst hi
      cases j with
      | zero => rfl
      | succ j => exact (h1 (List.mem_of_getElem? (by simpa using hj))).elim
    | succ i =>
      cases j with
      | zero =>
        simp only [List.getElem?_cons_zero, Option.some.injEq] at hj
        subst hj
        exact (h1 (List.mem_of_getElem? (by simpa using hi))).elim
      | succ j =>
        have := nodupB_inj h2 (i := i) (j := j) (n := n) (by simpa using hi) (by simpa using hj)
        omega

theorem live_ren {σ : List Nat} {o : SO} : (o.ren σ).live = o.live := by cases o <;> rfl

theorem HRep.rename {B : Base} {X : HS} {h : List SO} (H : HRep B X h) {σ : List Nat} (hn : nodupB σ = true) (hc : closedO h σ σ = true) : HRep B (renX X σ) (pickO h σ σ) := by
  have key : ∀ i o', nth (pickO h σ σ) i = some o' → ∃ n o, σ[i]? = some n ∧ nth h n = some o ∧ o' = o.ren σ ∧ inN σ o.names = true ∧ (renX X σ).ρ[i]? = X.ρ[n]? := by
    intro i o' hi
    rw [nth_eq] at hi
    obtain ⟨n, o, h1, h2, h3, h4⟩ := pickO_nth hc hi
    refine ⟨n, o, h1, h2, h3, h4, ?_⟩
    have hl : n < X.ρ.length := by
      rw [H.len]
      rw [nth_eq] at h2
      exact (List.getElem?_eq_some_iff.1 h2).1
    simp [renX, h1, hl]
  have blk : ∀ i n, (renX X σ).ρ[i]? = X.ρ[n]? → blkOf (renX X σ) i = blkOf X n := by
    intro i n e
    simp only [blkOf, e]
  refine ⟨by simp [renX, pickO_len], ?_, ?_, ?_, H.okLt, ?_, H.okOld, H.okNew, H.os, H.tape, H.out, H.size, H.fr⟩
  · intro i o' hi
    obtain ⟨n, o, h1, h2, rfl, h4, h5⟩ := key i o' hi
    have ho := H.obj n o h2
    cases o with
    | dead => trivial
    | box v =>
      obtain ⟨b, cs, T, k1, k2, k3⟩ := ho
      exact ⟨b, cs, T, h5.trans k1, k2, ren_rep v _ _ h4 k3⟩
    | arr g xs =>
      rcases ho with ⟨base, k1, k2⟩ | ⟨b, o, cap, cells, T, fz, k1, k2⟩
      · exact .inl ⟨base, h5.trans k1, k2⟩
      · exact .inr ⟨b, o, cap, cells, T, fz, h5.trans k1, k2⟩
    | map k v es =>
      obtain ⟨r, ents, clock, k1, k2⟩ := ho
      exact ⟨r, ents, clock, h5.trans k1, k2⟩
    | mapB k v es bs c =>
      obtain ⟨r, ents, k1, k2⟩ := ho
      exact ⟨r, ents, h5.trans k1, k2⟩
    | mapS k v es x m =>
      obtain ⟨r, ents, clock, k1, k2, k3, k4, k5, p, me, z, k6, k7, k8, k9⟩ := ho
      exact ⟨r, ents, clock, h5.trans k1, k2, k3, k4, k5, p, me, z, k6, k7, renX_at (inN_one h4) k8, k9⟩
    | hole q g xs i u =>
      obtain ⟨b, o, cap, cells, T, fz, k1, k2, k3, k4, k5, k6, k7, k8, k9, k10⟩ := ho
      refine ⟨b, o, cap, cells, T, fz, h5.trans k1, k2, k3, k4, k5, k6, k7, by rw [ren_size]; exact k8, k9, fun j x hj => ?_⟩
      obtain ⟨cs, c1, c2⟩ := k10 j x hj
      refine ⟨cs, ?_, c2⟩
      cases hb : Nat.beq j i with
      | true =>
        rw [hb, cond_true] at c1
        exact ren_rep u _ _ h4 c1
      | false =>
        rw [hb, cond_false] at c1
        exact c1
  · intro i j o1 o2 hi hj l1 l2 b b1 b2
    obtain ⟨n1, p1, q1, q2, rfl, _, q5⟩ := key i o1 hi
    obtain ⟨n2, p2, r1, r2, rfl, _, r5⟩ := key j o2 hj
    rw [live_ren] at l1 l2
    rw [blk i n1 q5] at b1
    rw [blk j n2 r5] at b2
    have := H.inj n1 n2 p1 p2 q2 r2 l1 l2 b b1 b2
    subst this
    exact nodupB_inj hn q1 r1
  · intro i o hi l b hb
    obtain ⟨n, p, q1, q2, rfl, _, q5⟩ := key i o hi
    rw [live_ren] at l
    rw [blk i n q5] at hb
    exact H.sep n p q2 l b hb
  · intro i o b hi l hb
    obtain ⟨n, p, q1, q2, rfl, _, q5⟩ := key i o hi
    rw [live_ren] at l
    rw [blk i n q5] at hb
    exact H.ownNew n p b q2 l hb

/-- More is known, and of the first n objects nothing is lost. -/
structure ExtN (n : Nat) (X Y : HS) : Prop where
  ρ : ∀ (i : Nat) (v : Value), i < n → X.ρ[i]? = some v → Y.ρ[i]? = some v
  ok : ∀ b, X.Ok b → Y.Ok b
  st : ∀ b, X.Ok b → Y.w.heap[b]? = X.w.heap[b]?

theorem ExtN.of {n : Nat} {X Y : HS} (h : Ext X Y) : ExtN n X Y := ⟨fun i v _ e => h.ρ i v e, h.ok, h.st⟩
theorem ExtN.refl (n : Nat) (X : HS) : ExtN n X X := .of (Ext.refl X)
theorem ExtN.trans {n : Nat} {X Y Z : HS} (h : ExtN n X Y) (k : ExtN n Y Z) : ExtN n X Z :=
  ⟨fun i v hi e => k.ρ i v hi (h.ρ i v hi e), fun b e => k.ok b (h.ok b e), fun b e => (k.st b (h.ok b e)).trans (h.st b e)⟩
theorem ExtN.all {X Y : HS} (h : ExtN X.ρ.length X Y) : Ext X Y :=
  ⟨fun n v e => h.ρ n v (List.getElem?_eq_some_iff.1 e).1 e, h.ok, h.st⟩

theorem idHead_spec : ∀ {σ : List Nat} {i n : Nat}, idHead i n σ = true → ∀ j, j < n → σ[j]? = some (i + j)
  | _, _, 0, _, j, hj => by omega
  | a :: l, i, n + 1, h, j, hj => by
    simp only [idHead, Bool.and_eq_true, Nat.beq_eq] at h
    cases j with
    | zero => simp [h.1]
    | succ j =>
      have := idHead_spec h.2 j (by omega)
      simp only [List.getElem?_cons_succ, this]
      congr 1
      omega
  | [], _, _ + 1, h, _, _ => by simp [idHead] at h

theorem widen_one {B : Base} {N : Nat} {X : HS} {regs : List (Nat × SV)} {h : List SO} {a : Act} (hs : StOk B N X ⟨regs, h⟩ a) {t : Nat} {g : GT} {base : Option Addr} (hv : a.tmps.getD t undef = .slice base 0 0) :
    ∃ X', X'.w = X.w ∧ Ext X X' ∧ StOk B N X' ⟨(t, .own h.length) :: regs, h ++ [.arr g []]⟩ a := by
  have hlen : X.ρ.length = h.length := hs.heap.len
  have hat : (X.ρ ++ [Value.slice base 0 0])[h.length]? = some (.slice base 0 0) := by
    rw [← hlen]; simp
  obtain ⟨H', hx⟩ := hs.heap.adopt (val := .slice base 0 0) (o := .arr g []) (by
    intro b _ hb
    cases base <;> simp [Value.blk] at hb) (.inl ⟨base, hat, rfl⟩)
  refine ⟨⟨X.ρ ++ [Value.slice base 0 0], X.Ok, X.w⟩, rfl, hx, ⟨?_, H', hs.size, hs.defers⟩⟩
  intro u v hl
  simp only [lk] at hl
  cases hb : Nat.beq t u with
  | true =>
    rw [hb] at hl
    simp only [cond_true, Option.some.injEq] at hl
    subst hl
    rw [← Nat.eq_of_beq_eq_true hb, hv]
    exact ⟨_, hat, rfl, rfl⟩
  | false =>
    rw [hb] at hl
    exact Rep_mono hx _ _ _ (hs.regs u v hl)

theorem ow_same {cs : List Value} {off : Nat} {v : Value} (h : (cs.drop off).take 1 = [v]) : ow cs off [v] = cs := by
  have h1 : off < cs.length := by
    rcases Nat.lt_or_ge off cs.length with h1 | h1
    · exact h1
    · rw [List.drop_of_length_le h1] at h; cases h
  unfold ow
  have e : cs.drop off = v :: cs.drop (off + 1) := by
    rw [List.drop_eq_getElem_cons h1] at h ⊢
    simp only [List.take_succ_cons, List.take_zero, List.cons.injEq, and_true] at h
    rw [h]
  have := List.take_append_drop off cs
  rw [e] at this
  simpa using this

theorem wideB_sound {B : Base} {X : HS} {h : List SO} (H : HRep B X h) (g : GT) (n : Nat) (p : List Nat) :
    ∃ X', X'.w = X.w ∧ Ext X X' ∧ HRep B X' (wideB g n p h) := by
  unfold wideB
  split
  · rename_i v hn
    split
    · rename_i u hu
      cases he : emptyS u with
      | false => exact ⟨X, rfl, Ext.refl X, H⟩
      | true =>
        simp only [cond_true]
        split
        · rename_i v' hv'
          obtain ⟨b, cs, T, k1, k2, k3⟩ := H.obj n _ hn
          obtain ⟨j1, j2⟩ := sub_rep p v u cs k3 hu
          have hbase : ∃ base, (cs.drop (SV.off p v)).take 1 = [Value.slice base 0 0] := by
            cases u <;> simp only [emptyS, Bool.false_eq_true] at he
            · exact ⟨none, j2⟩
            · exact j2
          obtain ⟨base, hbase⟩ := hbase
          have hlen : X.ρ.length = h.length := H.len
          have hat : (X.ρ ++ [Value.slice base 0 0])[h.length]? = some (.slice base 0 0) := by
            rw [← hlen]; simp
          obtain ⟨H', hx⟩ := H.adopt (val := .slice base 0 0) (o := .arr g []) (by
            intro b _ hb
            cases base <;> simp [Value.blk] at hb) (.inl ⟨base, hat, rfl⟩)
          have hr : Rep ⟨X.ρ ++ [Value.slice base 0 0], X.Ok, X.w⟩ (.own h.length) .cells [Value.slice base 0 0] := ⟨_, hat, rfl, rfl⟩
          obtain ⟨m1, m2⟩ := upd_rep hr p v v' cs (Rep_mono hx v _ cs k3) hv'
          rw [ow_same hbase] at m2
          have hn' : nth (h ++ [SO.arr g []]) n = some (.box v) := by
            rw [nth_eq] at hn ⊢
            rw [List.getElem?_append_left (List.getElem?_eq_some_iff.1 hn).1]
            exact hn
          have hl : n < (h ++ [SO.arr g []]).length := by
            rw [nth_eq] at hn'
            exact (List.getElem?_eq_some_iff.1 hn').1
          have hd : nth (setN (h ++ [SO.arr g []]) n .dead) n = some .dead := by
            rw [nth_eq, setN_eq, List.getElem?_set_self hl]
          have hf := (H'.drop n).revive (n := n) (o := .box v') hd (by
            intro b' _ hb'
            refine ⟨H'.sep n _ hn' rfl b' hb', H'.ownNew n _ b' hn' rfl hb', ?_⟩
            intro m o' hm hlive hbm
            rcases nth_setN hm with ⟨rfl, rfl⟩ | ⟨hne, hm'⟩
            · cases hlive
            · exact hne (H'.inj m n _ _ hm' hn' hlive rfl b' hbm hb')) ⟨b, cs, T, hx.ρ _ _ k1, k2, m2⟩
          refine ⟨⟨X.ρ ++ [Value.slice base 0 0], X.Ok, X.w⟩, rfl, hx, ?_⟩
          have e : setN (setN (h ++ [SO.arr g []]) n .dead) n (.box v') = setN (h ++ [SO.arr g []]) n (.box v') := by
            rw [setN_eq, setN_eq, setN_eq, List.set_set]
          rw [e] at hf
          exact hf
        · exact ⟨X, rfl, Ext.refl X, H⟩
    · exact ⟨X, rfl, Ext.refl X, H⟩
  · exact ⟨X, rfl, Ext.refl X, H⟩

theorem widen_sound {B : Base} {N : Nat} {a : Act} : ∀ (l : List (Nat × List Nat × GT)) (X : HS) (regs : List (Nat × SV)) (h : List SO), StOk B N X ⟨regs, h⟩ a →
    ∃ X', X'.w = X.w ∧ Ext X X' ∧ StOk B N X' ⟨(widen l regs h).1, (widen l regs h).2⟩ a
  | [], X, regs, h, hs => ⟨X, rfl, Ext.refl X, hs⟩
  | (t, p, g) :: l, X, regs, h, hs => by
    simp only [widen]
    split
    · rename_i hv
      have := hs.regs t _ hv
      simp only [Rep, List.cons.injEq, and_true] at this
      obtain ⟨X1, e1, x1, s1⟩ := widen_one hs (g := g) this
      obtain ⟨X2, e2, x2, s2⟩ := widen_sound l X1 _ _ s1
      exact ⟨X2, e2.trans e1, x1.trans x2, s2⟩
    · rename_i hv
      obtain ⟨b, hb⟩ := hs.regs t _ hv
      simp only [List.cons.injEq, and_true] at hb
      obtain ⟨X1, e1, x1, s1⟩ := widen_one hs (g := g) hb
      obtain ⟨X2, e2, x2, s2⟩ := widen_sound l X1 _ _ s1
      exact ⟨X2, e2.trans e1, x1.trans x2, s2⟩
    · rename_i n q off hv
      obtain ⟨X1, e1, x1, H1⟩ := wideB_sound hs.heap g n (q ++ p)
      have s1 : StOk B N X1 ⟨regs, wideB g n (q ++ p) h⟩ a := ⟨fun u v hl => Rep_mono x1 _ _ _ (hs.regs u v hl), H1, hs.size, hs.defers⟩
      obtain ⟨X2, e2, x2, s2⟩ := widen_sound l X1 _ _ s1
      exact ⟨X2, e2.trans e1, x1.trans x2, s2⟩
    · exact widen_sound l X regs h hs

theorem rdV_rep {B : Base} {X : HS} {h : List SO} (H : HRep B X h) {v : SV} {g : GT} {x : g.ty} {val : Value} (hc : rdV h v g = some x) (hr : Rep X v .val [val]) :
    ∃ cs, RepD (okS X h v.owns) X.w.heap g x cs ∧ val = mkV g.isAgg cs := by
  unfold rdV at hc
  obtain ⟨h1, h2⟩ := bif_some hc
  rw [Bool.and_eq_true, beq_iff_eq] at h1
  obtain ⟨u, e, h3, h4⟩ := Rep_val_one v _ h1.1 hr
  cases e
  exact ⟨_, coe_rep H v g x _ h2 h3, by rw [← h1.2]; exact h4⟩

theorem ow_self {cs vs : List Value} {off : Nat} (h : (cs.drop off).take vs.length = vs) : ow cs off vs = cs := by
  have e : vs ++ cs.drop (off + vs.length) = cs.drop off := by
    rw [← List.drop_drop]
    conv => lhs; lhs; rw [← h]
    exact List.take_append_drop _ _
  unfold ow
  rw [e]
  exact List.take_append_drop _ _

theorem datB_sound {B : Base} {X : HS} {h : List SO} (H : HRep B X h) (g : GT) (n : Nat) (p : List Nat) :
    ∃ X', X'.w = X.w ∧ Ext X X' ∧ HRep B X' (datB g n p h) := by
  unfold datB
  split
  · rename_i v hn
    split
    · rename_i u hu
      split
      · rename_i t ht
        cases hnu : isNils u with
        | false => exact ⟨X, rfl, Ext.refl X, H⟩
        | true =>
          simp only [cond_true]
          split
          · rename_i v' hv'
            have e : u = .nils := by cases u <;> first | rfl | cases hnu
            subst e
            obtain ⟨b, cs, T, k1, k2, k3⟩ := H.obj n _ hn
            obtain ⟨j1, j2⟩ := sub_rep p v _ cs k3 hu
            have hr : Rep X (.nsl t []) .cells ((cs.drop (SV.off p v)).take (SV.size .nils)) := by
              have j3 : (cs.drop (SV.off p v)).take (SV.size .nils) = [.slice none 0 0] := j2
              rw [j3]
              exact ⟨⟨none, 0, rfl, Nat.le_refl _, fun _ => rfl, rfl⟩, fun _ => rfl⟩
            obtain ⟨m1, m2⟩ := upd_rep hr p v v' cs k3 hv'
            have hlen : ((cs.drop (SV.off p v)).take (SV.size .nils)).length = SV.size .nils := Rep_len _ _ j2
            rw [ow_self (by rw [hlen])] at m2
            exact ⟨X, rfl, Ext.refl X, H.swap hn rfl (o' := .box v') ⟨b, cs, T, k1, k2, m2⟩⟩
          · exact ⟨X, rfl, Ext.refl X, H⟩
      · split
        · rename_i x hx
          cases ha : u.owns.any (Nat.beq n) with
          | true => exact ⟨X, rfl, Ext.refl X, H⟩
          | false =>
          simp only [cond_false]
          split
          · rename_i v' hv'
            have hni : n ∉ u.owns := fun hm => by
              have : u.owns.any (Nat.beq n) = true := List.any_eq_true.2 ⟨n, hm, by simp⟩
              rw [ha] at this; cases this
            obtain ⟨b, cs, T, k1, k2, k3⟩ := H.obj n _ hn
            obtain ⟨j1, j2⟩ := sub_rep p v u cs k3 hu
            have hd := coe_rep H u g x _ hx j2
            obtain ⟨H1, E1⟩ := kill_seal H u.owns
            have hr : Rep ⟨X.ρ, okS X h u.owns, X.w⟩ (.dat g x) .cells ((cs.drop (SV.off p v)).take u.size) := hd
            obtain ⟨m1, m2⟩ := upd_rep hr p v v' cs (Rep_mono E1 v _ cs k3) hv'
            have hlen : ((cs.drop (SV.off p v)).take u.size).length = u.size := Rep_len _ _ j2
            rw [ow_self (by rw [hlen])] at m2
            have hn' : nth (kill h u.owns) n = some (.box v) := by rw [kill_nth _ _ hni]; exact hn
            have hl : n < (kill h u.owns).length := by
              rw [nth_eq] at hn'
              exact (List.getElem?_eq_some_iff.1 hn').1
            have hdd : nth (setN (kill h u.owns) n .dead) n = some .dead := by
              rw [nth_eq, setN_eq, List.getElem?_set_self hl]
            have hf := (H1.drop n).revive (n := n) (o := .box v') hdd (by
              intro b' _ hb'
              refine ⟨H1.sep n _ hn' rfl b' hb', H1.ownNew n _ b' hn' rfl hb', ?_⟩
              intro m o' hm hlive hbm
              rcases nth_setN hm with ⟨rfl, rfl⟩ | ⟨hne, hm'⟩
              · cases hlive
              · exact hne (H1.inj m n _ _ hm' hn' hlive rfl b' hbm hb')) ⟨b, cs, T, k1, k2, m2⟩
            refine ⟨⟨X.ρ, okS X h u.owns, X.w⟩, rfl, E1, ?_⟩
            have e : setN (setN (kill h u.owns) n .dead) n (.box v') = setN (kill h u.owns) n (.box v') := by
              rw [setN_eq, setN_eq, setN_eq, List.set_set]
            rw [e] at hf
            exact hf
          · exact ⟨X, rfl, Ext.refl X, H⟩
        · exact ⟨X, rfl, Ext.refl X, H⟩
    · exact ⟨X, rfl, Ext.refl X, H⟩
  · exact ⟨X, rfl, Ext.refl X, H⟩

theorem closeH_sound {B : Base} {X : HS} {h : List SO} (H : HRep B X h) (n : Nat) : ∃ X', X'.w = X.w ∧ Ext X X' ∧ HRep B X' (closeH n h) := by
  unfold closeH
  split
  · rename_i q g xs i u hn
    split
    · rename_i z hz
      cases ha : u.owns.any (Nat.beq n) with
      | true => exact ⟨X, rfl, Ext.refl X, H⟩
      | false =>
        simp only [cond_false]
        have hni : n ∉ u.owns := fun hm => by
          have : u.owns.any (Nat.beq n) = true := List.any_eq_true.2 ⟨n, hm, by simp⟩
          rw [ha] at this; cases this
        obtain ⟨b, o, cap, cells, T, fz, k1, k2, k3, k4, k5, k6, k7, k8, k9, k10⟩ := H.obj n _ hn
        obtain ⟨H1, E1⟩ := kill_seal H u.owns
        have hn' : nth (kill h u.owns) n = some (.hole q g xs i u) := by rw [kill_nth _ _ hni]; exact hn
        have hl : n < (kill h u.owns).length := by
          rw [nth_eq] at hn'
          exact (List.getElem?_eq_some_iff.1 hn').1
        have hdd : nth (setN (kill h u.owns) n .dead) n = some .dead := by
          rw [nth_eq, setN_eq, List.getElem?_set_self hl]
        obtain ⟨cs0, c1, c2⟩ := k10 i xs[i] (List.getElem?_eq_getElem k9)
        rw [Nat.beq_refl, cond_true] at c1
        have hzr := coe_rep H u g z cs0 hz c1
        have hf := (H1.drop n).revive (n := n) (o := .arr g (List.set xs i z)) hdd (by
          intro b' _ hb'
          refine ⟨H1.sep n _ hn' rfl b' hb', H1.ownNew n _ b' hn' rfl hb', ?_⟩
          intro m o' hm hlive hbm
          rcases nth_setN hm with ⟨rfl, rfl⟩ | ⟨hne, hm'⟩
          · cases hlive
          · exact hne (H1.inj m n _ _ hm' hn' hlive rfl b' hbm hb')) (.inr ⟨b, o, cap, cells, T, fz, by simpa using k1, k2, k3, k4, by simpa using k5, k6, k7, fun j x hj => by
            rw [List.getElem?_set] at hj
            by_cases hij : i = j
            · subst hij
              rw [if_pos rfl, if_pos k9] at hj
              cases hj
              exact ⟨cs0, hzr, c2⟩
            · rw [if_neg hij] at hj
              obtain ⟨cs, d1, d2⟩ := k10 j x hj
              have hb : Nat.beq j i = false := by
                cases hb : Nat.beq j i with
                | false => rfl
                | true => exact absurd (Nat.eq_of_beq_eq_true hb).symm hij
              rw [hb, cond_false] at d1
              exact ⟨cs, RepD_mono E1.ok E1.st g x _ d1, d2⟩⟩)
        refine ⟨⟨X.ρ, okS X h u.owns, X.w⟩, rfl, E1, ?_⟩
        have e : setN (setN (kill h u.owns) n .dead) n (.arr g (List.set xs i z)) = setN (kill h u.owns) n (.arr g (List.set xs i z)) := by
          rw [setN_eq, setN_eq, setN_eq, List.set_set]
        rw [e] at hf
        exact hf
    · exact ⟨X, rfl, Ext.refl X, H⟩
  · exact ⟨X, rfl, Ext.refl X, H⟩

theorem moveO_sound {B : Base} {X : HS} {h h1 : List SO} (H : HRep B X h) {n : Nat} (hm : moveO n h = some h1) : ∃ X', X'.w = X.w ∧ Ext X X' ∧ HRep B X' h1 ∧ X'.ρ[h.length]? = X.ρ[n]? ∧ (∀ k, k ≠ n → k < h.length → nth h1 k = nth h k) := by
  have key : ∀ o, o.live = true → nth h n = some o → (∀ v, X.ρ[n]? = some v → ∀ Y : HS, Y.w = X.w → Y.Ok = X.Ok → Y.ρ[h.length]? = some v → RepO Y h.length o) →
      ∃ X', X'.w = X.w ∧ Ext X X' ∧ HRep B X' (setN h n .dead ++ [o]) ∧ X'.ρ[h.length]? = X.ρ[n]? ∧ (∀ k, k ≠ n → k < h.length → nth (setN h n .dead ++ [o]) k = nth h k) := by
    intro o hol hn hrep
    have hlt : n < h.length := by
      rw [nth_eq] at hn
      exact (List.getElem?_eq_some_iff.1 hn).1
    have hρ : n < X.ρ.length := by rw [H.len]; exact hlt
    have hv := List.getElem?_eq_getElem hρ
    generalize X.ρ[n] = v at hv
    have hblk : blkOf X n = v.blk := by simp [blkOf, hv]
    have hlen : (setN h n .dead).length = h.length := by rw [setN_eq, List.length_set]
    have hnew := new_rep (X := X) (h := setN h n .dead) (by rw [hlen]; exact H.len) v
    obtain ⟨H1, E1⟩ := (H.drop n).adopt (val := v) (o := o) (fun b _ hb => by
      refine ⟨H.sep n _ hn hol b (by rw [hblk]; exact hb), H.ownNew n _ b hn hol (by rw [hblk]; exact hb), fun m o' hm hl hbm => ?_⟩
      rcases nth_setN hm with ⟨rfl, rfl⟩ | ⟨hne, hm'⟩
      · cases hl
      · exact hne (H.inj m n _ _ hm' hn hl hol b hbm (by rw [hblk]; exact hb))) (by
      have := hrep v hv ⟨X.ρ ++ [v], X.Ok, X.w⟩ rfl rfl (by rw [hlen] at hnew; exact hnew)
      rw [hlen]
      exact this)
    refine ⟨⟨X.ρ ++ [v], X.Ok, X.w⟩, rfl, E1, by simpa using H1, ?_, fun k hk hkl => ?_⟩
    · rw [hlen] at hnew
      rw [hv]
      exact hnew
    · rw [nth_eq, nth_eq, List.getElem?_append_left (by rw [hlen]; exact hkl), setN_eq, List.getElem?_set_ne (fun e => hk e.symm)]
  unfold moveO at hm
  split at hm
  · rename_i g xs hn
    cases hm
    refine key _ rfl hn (fun v hv Y e1 e2 e3 => ?_)
    rcases H.obj n _ hn with ⟨base, k1, k2⟩ | ⟨b, o, cap, cells, T, fz, k1, k2⟩
    · rw [hv] at k1
      exact .inl ⟨base, by rw [e3]; exact k1, k2⟩
    · rw [hv] at k1
      refine .inr ⟨b, o, cap, cells, T, fz, by rw [e3]; exact k1, ?_⟩
      simp only [Cells, e1, e2]
      exact k2
  · rename_i kk vv es hn
    cases hm
    refine key _ rfl hn (fun v hv Y e1 e2 e3 => ?_)
    obtain ⟨r, ents, clock, k1, k2⟩ := H.obj n _ hn
    rw [hv] at k1
    refine ⟨r, ents, clock, by rw [e3]; exact k1, ?_⟩
    simp only [e1, e2]
    exact k2
  · cases hm

theorem refOf_rep {X : HS} {u : SV} {m : Nat} {f : Nat → SV} (h : refOf u = some (m, f)) : u = f m ∧ ∀ (Y : HS) (n : Nat) (vs : List Value), Rep Y (f n) .cells vs ↔ ∃ v, Y.ρ[n]? = some v ∧ vs = [v] ∧ v.oneC = true := by
  cases u <;> simp only [refOf, Option.some.injEq, Prod.mk.injEq, reduceCtorEq] at h
  all_goals
    obtain ⟨rfl, rfl⟩ := h
    exact ⟨rfl, fun Y n vs => Iff.rfl⟩

theorem mvB_sound {B : Base} {X : HS} {h : List SO} (H : HRep B X h) (n : Nat) (p : List Nat) : ∃ X', X'.w = X.w ∧ Ext X X' ∧ HRep B X' (mvB n p h) := by
  unfold mvB
  split
  · rename_i v hn
    split
    · rename_i m f hu
      obtain ⟨u, hu, hf⟩ := Option.bind_eq_some_iff.1 hu
      obtain ⟨rfl, hrep⟩ := refOf_rep (X := X) hf
      split
      · rename_i h1 hm
        split
        · rename_i v' hv'
          obtain ⟨X', e1, x1, H1, hr, hk⟩ := moveO_sound H hm
          have hml : m < h.length ∧ n ≠ m := by
            unfold moveO at hm
            split at hm
            · rename_i hq
              refine ⟨by rw [nth_eq] at hq; exact (List.getElem?_eq_some_iff.1 hq).1, ?_⟩
              rintro rfl
              rw [hn] at hq; cases hq
            · rename_i hq
              refine ⟨by rw [nth_eq] at hq; exact (List.getElem?_eq_some_iff.1 hq).1, ?_⟩
              rintro rfl
              rw [hn] at hq; cases hq
            · cases hm
          obtain ⟨hml, hmn⟩ := hml
          have hlt : n < h.length := by
            rw [nth_eq] at hn
            exact (List.getElem?_eq_some_iff.1 hn).1
          have hn1 : nth h1 n = some (.box v) := by rw [hk n hmn hlt]; exact hn
          obtain ⟨b, cs, T, k1, k2, k3⟩ := H1.obj n _ hn1
          obtain ⟨j1, j2⟩ := sub_rep p v _ cs k3 hu
          obtain ⟨w, a2, a1, a3⟩ := (hrep _ _ _).1 j2
          have hml : m < X.ρ.length := by rw [H.len]; exact hml
          have a4 : X.ρ[m]? = some w := by
            have := List.getElem?_eq_getElem hml
            rw [this, ← a2]
            exact (x1.ρ m _ this).symm
          have hr' : Rep X' (f h.length) .cells ((cs.drop (SV.off p v)).take (SV.size (f m))) := by
            rw [a1]
            exact (hrep _ _ _).2 ⟨w, by rw [hr]; exact a4, rfl, a3⟩
          obtain ⟨m1, m2⟩ := upd_rep hr' p v v' cs k3 hv'
          have hlen : ((cs.drop (SV.off p v)).take (SV.size (f m))).length = SV.size (f m) := Rep_len _ _ j2
          rw [ow_self (by rw [hlen])] at m2
          exact ⟨X', e1, x1, H1.swap hn1 rfl (o' := .box v') ⟨b, cs, T, k1, k2, m2⟩⟩
        · exact ⟨X, rfl, Ext.refl X, H⟩
      · exact ⟨X, rfl, Ext.refl X, H⟩
    · exact ⟨X, rfl, Ext.refl X, H⟩
  · exact ⟨X, rfl, Ext.refl X, H⟩

theorem datn_one {B : Base} {N : Nat} {X : HS} {regs : List (Nat × SV)} {h : List SO} {a : Act} (hs : StOk B N X ⟨regs, h⟩ a) {t : Nat} {v : SV} {g : GT} {x : g.ty} (hv : lk regs t = some v) (hx : rdV h v g = some x) :
    ∃ X', X'.w = X.w ∧ Ext X X' ∧ StOk B N X' ⟨(t, .dat g x) :: regs, kill h v.owns⟩ a := by
  obtain ⟨H1, E1⟩ := kill_seal hs.heap v.owns
  obtain ⟨cs, r1, r2⟩ := rdV_rep hs.heap hx (hs.regs t v hv)
  refine ⟨⟨X.ρ, okS X h v.owns, X.w⟩, rfl, E1, ⟨?_, H1, hs.size, hs.defers⟩⟩
  intro u w hl
  simp only [lk] at hl
  cases hb : Nat.beq t u with
  | true =>
    rw [hb] at hl
    simp only [cond_true, Option.some.injEq] at hl
    subst hl
    rw [← Nat.eq_of_beq_eq_true hb]
    exact ⟨cs, r1, by rw [r2]⟩
  | false =>
    rw [hb] at hl
    exact Rep_mono E1 _ _ _ (hs.regs u w hl)

theorem putS_rep {X Y : HS} (hx : Ext X Y) {w : SV} : ∀ {l : SV} {i : Nat} {u : SV} {us : List Value}, nthS l i = some u → (∀ v, Rep X u .val [v] → Rep Y w .val [v]) → Rep X l .vals us → Rep Y (putS l i w) .vals us
  | .scons a b, 0, u, us, hn, hw, h => by
    simp only [nthS, Option.some.injEq] at hn
    subst hn
    obtain ⟨v, c2, rfl, h1, h2⟩ := h
    exact ⟨v, c2, rfl, hw v h1, Rep_mono hx _ _ _ h2⟩
  | .scons a b, i + 1, u, us, hn, hw, h => by
    simp only [nthS] at hn
    obtain ⟨v, c2, rfl, h1, h2⟩ := h
    exact ⟨v, c2, rfl, Rep_mono hx _ _ _ h1, putS_rep hx hn hw h2⟩

theorem datn_tup {B : Base} {N : Nat} {X : HS} {regs : List (Nat × SV)} {h : List SO} {a : Act} (hs : StOk B N X ⟨regs, h⟩ a) {t i : Nat} {l u : SV} {g : GT} {x : g.ty} (hv : lk regs t = some (.tup l)) (hu : nthS l i = some u) (hx : rdV h u g = some x) :
    ∃ X', X'.w = X.w ∧ Ext X X' ∧ StOk B N X' ⟨(t, .tup (putS l i (.dat g x))) :: regs, kill h u.owns⟩ a := by
  obtain ⟨H1, E1⟩ := kill_seal hs.heap u.owns
  refine ⟨⟨X.ρ, okS X h u.owns, X.w⟩, rfl, E1, ⟨?_, H1, hs.size, hs.defers⟩⟩
  intro s w hl
  simp only [lk] at hl
  cases hb : Nat.beq t s with
  | true =>
    rw [hb] at hl
    simp only [cond_true, Option.some.injEq] at hl
    subst hl
    obtain ⟨us, r1, r2⟩ := hs.regs t _ hv
    rw [← Nat.eq_of_beq_eq_true hb]
    refine ⟨us, putS_rep E1 hu (fun v hr => ?_) r1, r2⟩
    obtain ⟨cs, k1, k2⟩ := rdV_rep hs.heap hx hr
    exact ⟨cs, k1, by rw [k2]⟩
  | false =>
    rw [hb] at hl
    exact Rep_mono E1 _ _ _ (hs.regs s w hl)

theorem datn_sound {B : Base} {N : Nat} {a : Act} : ∀ (l : List (Nat × List Nat × GT)) (X : HS) (regs : List (Nat × SV)) (h : List SO), StOk B N X ⟨regs, h⟩ a →
    ∃ X', X'.w = X.w ∧ Ext X X' ∧ StOk B N X' ⟨(datn l regs h).1, (datn l regs h).2⟩ a
  | [], X, regs, h, hs => ⟨X, rfl, Ext.refl X, hs⟩
  | (t, p, g) :: l, X, regs, h, hs => by
    simp only [datn]
    split
    · rename_i n q off hv
      cases hg : mvG g with
      | true =>
        simp only [cond_true]
        obtain ⟨X1, e1, x1, H1⟩ := mvB_sound hs.heap n (q ++ p)
        have s1 : StOk B N X1 ⟨regs, mvB n (q ++ p) h⟩ a := ⟨fun u v hl => Rep_mono x1 _ _ _ (hs.regs u v hl), H1, hs.size, hs.defers⟩
        obtain ⟨X2, e2, x2, s2⟩ := datn_sound l X1 _ _ s1
        exact ⟨X2, e2.trans e1, x1.trans x2, s2⟩
      | false =>
      simp only [cond_false]
      cases hkl : klG g with
      | true =>
        simp only [cond_true]
        exact datn_sound l X _ _ ⟨hs.regs, hs.heap.drop _, hs.size, hs.defers⟩
      | false =>
      simp only [cond_false]
      obtain ⟨X1, e1, x1, H1⟩ := datB_sound hs.heap g n (q ++ p)
      have s1 : StOk B N X1 ⟨regs, datB g n (q ++ p) h⟩ a := ⟨fun u v hl => Rep_mono x1 _ _ _ (hs.regs u v hl), H1, hs.size, hs.defers⟩
      obtain ⟨X2, e2, x2, s2⟩ := datn_sound l X1 _ _ s1
      exact ⟨X2, e2.trans e1, x1.trans x2, s2⟩
    · rename_i n hv
      cases hg : mvG g with
      | true =>
        simp only [cond_true]
        split
        · rename_i h1 hm
          obtain ⟨X1, e1, x1, H1, hr, _⟩ := moveO_sound hs.heap hm
          have s1 : StOk B N X1 ⟨(t, .own h.length) :: regs, h1⟩ a := by
            refine ⟨?_, H1, hs.size, hs.defers⟩
            intro u v hl
            simp only [lk] at hl
            cases hb : Nat.beq t u with
            | true =>
              rw [hb] at hl
              simp only [cond_true, Option.some.injEq] at hl
              subst hl
              obtain ⟨w, a1, a2, a3⟩ := hs.regs t _ hv
              rw [← Nat.eq_of_beq_eq_true hb]
              exact ⟨w, by rw [hr]; exact a1, a2, a3⟩
            | false =>
              rw [hb] at hl
              exact Rep_mono x1 _ _ _ (hs.regs u v hl)
          obtain ⟨X2, e2, x2, s2⟩ := datn_sound l X1 _ _ s1
          exact ⟨X2, e2.trans e1, x1.trans x2, s2⟩
        · exact datn_sound l X regs h hs
      | false =>
      simp only [cond_false]
      split
      · rename_i hn
        obtain ⟨X1, e1, x1, H1⟩ := closeH_sound hs.heap n
        have s1 : StOk B N X1 ⟨regs, closeH n h⟩ a := ⟨fun u v hl => Rep_mono x1 _ _ _ (hs.regs u v hl), H1, hs.size, hs.defers⟩
        obtain ⟨X2, e2, x2, s2⟩ := datn_sound l X1 _ _ s1
        exact ⟨X2, e2.trans e1, x1.trans x2, s2⟩
      · split
        · rename_i x hx
          obtain ⟨X1, e1, x1, s1⟩ := datn_one hs hv hx
          obtain ⟨X2, e2, x2, s2⟩ := datn_sound l X1 _ _ s1
          exact ⟨X2, e2.trans e1, x1.trans x2, s2⟩
        · exact datn_sound l X regs h hs
    · rename_i u hv
      split
      · split
        · rename_i w hw
          split
          · rename_i x hx
            obtain ⟨X1, e1, x1, s1⟩ := datn_tup hs hv hw hx
            obtain ⟨X2, e2, x2, s2⟩ := datn_sound l X1 _ _ s1
            exact ⟨X2, e2.trans e1, x1.trans x2, s2⟩
          · exact datn_sound l X regs h hs
        · exact datn_sound l X regs h hs
      · exact datn_sound l X regs h hs
    · rename_i v _ _ _ hv
      split
      · rename_i x hx
        obtain ⟨X1, e1, x1, s1⟩ := datn_one hs hv hx
        obtain ⟨X2, e2, x2, s2⟩ := datn_sound l X1 _ _ s1
        exact ⟨X2, e2.trans e1, x1.trans x2, s2⟩
      · exact datn_sound l X regs h hs
    · exact datn_sound l X regs h hs

theorem canonK_sound {R : Type} {B : Base} {N H : Nat} {kp : Option Keep} {X : HS} {s : St} {a : Act} {k : St → Option R} {r : R} (hs : StOk B N X s a) (hk : canonK kp H s k = some r) :
    ∃ s' X', X'.w = X.w ∧ StOk B N X' s' a ∧ ExtN H X X' ∧ k s' = some r := by
  cases kp with
  | none => exact ⟨s, X, rfl, hs, .refl _ _, hk⟩
  | some kp =>
    obtain ⟨X0, e0, x0, s0⟩ := datn_sound kp.data X s.regs s.heap hs
    obtain ⟨X1, e1, x1, s1⟩ := widen_sound kp.wide X0 _ _ s0
    replace e1 := e1.trans e0
    replace x1 := x0.trans x1
    unfold canonK at hk
    simp only at hk
    obtain ⟨hc, hk⟩ := bif_some hk
    simp only [Bool.and_eq_true] at hc
    obtain ⟨⟨⟨h1, h2⟩, h3⟩, h4⟩ := hc
    refine ⟨_, renX X1 _, e1, ⟨?_, s1.heap.rename h1 h3, hs.size, hs.defers⟩, (ExtN.of x1).trans ⟨?_, fun _ h => h, fun _ _ => rfl⟩, hk⟩
    · intro t v hl
      obtain ⟨u, k1, rfl, k2⟩ := renR_lk h2 hl
      exact ren_rep u _ _ k2 (s1.regs t u (restr_lk _ k1))
    · intro i v hi hv
      have := idHead_spec h4 i hi
      rw [Nat.zero_add] at this
      simp [renX, this, hv]

/-! ### Loops -/

/-- From within a loop's round on. -/
def InLoop (P : Program) (c : Code) (Q : Exit → Act → World → Prop) (a : Act) (w : World) : Prop :=
  ∀ (b : Frame) (k : List Item) (cs : List Frame), ∃ e a' w', Q e a' w' ∧ Arrives P (lone (b.at a (.code c :: .inLoop c :: k)) cs w) b k cs e a' w'

theorem loop_of_in {P : Program} {c : Code} {Q : Exit → Act → World → Prop} {a : Act} {w : World} (h : InLoop P c Q a w) : (Code.loop c).wp P Q a w := by
  intro b k cs
  obtain ⟨e, a', w', hq, harr⟩ := h b k cs
  exact ⟨e, a', w', hq, .of_steps (.one step_loop) harr⟩

theorem in_round {P : Program} {c : Code} {Q : Exit → Act → World → Prop} {a : Act} {w : World} (h : c.wp P (Exit.then (InLoop P c Q) Q) a w) : InLoop P c Q a w := by
  intro b k cs
  obtain ⟨e, a₁, w₁, hq, harr⟩ := h b (.inLoop c :: k) cs
  cases e with
  | normal =>
    obtain ⟨e₂, a₂, w₂, hq₂, harr₂⟩ := hq b k cs
    exact ⟨e₂, a₂, w₂, hq₂, .of_steps (Steps.trans harr (.one step_inLoop)) harr₂⟩
  | exit id => exact ⟨_, a₁, w₁, hq, .pass (x := .inLoop c) rfl (fun _ _ => .inl (by simp)) harr⟩
  | goto l => exact ⟨_, a₁, w₁, hq, .pass (x := .inLoop c) rfl (fun _ _ => .inl (by simp)) harr⟩
  | ret => exact ⟨_, a₁, w₁, hq, .pass (x := .inLoop c) rfl (fun _ _ => .inl (by simp)) harr⟩
  | panic ch => exact ⟨_, a₁, w₁, hq, .pass (x := .inLoop c) rfl (fun _ _ => .inl (by simp)) harr⟩
  | outgrown => exact ⟨_, a₁, w₁, hq, .pass (x := .inLoop c) rfl (fun _ _ => .inl (by simp)) harr⟩

/-! ### Code -/

def Ex.exit' : Ex → Exit
  | .normal => .normal
  | .exit id => .exit id
  | .ret => .ret

theorem getB_eval {X : HS} {s : St} {a : Act} (h : RegsC X a s.regs) {c : Operand} {b : Bool} (hb : getB s c = some b) : a.eval c = .bool b := by
  unfold getB at hb
  split at hb
  · simp only [Option.some.injEq] at hb
    subst hb
    rfl
  · split at hb
    · rename_i t _ x hx
      simp only [Option.some.injEq] at hb
      subst hb
      exact rep_bool (h t _ hx)
    · cases hb
  · cases hb

theorem loopK_sound {P : Program} {R : Type} {B : Base} {N H : Nat} {k0 : Option Keep} {k1 : Ex → Option Keep} {c : Code} {body : St → (Ex → St → Option R) → Option R} {r : R} {k : Ex → St → Option R} {Q : Exit → Act → World → Prop}
    (hbody : ∀ (k : Ex → St → Option R) (s : St) (a : Act) (X : HS) (Q : Exit → Act → World → Prop), StOk B N X s a → body s k = some r →
      (∀ e s' a' X', StOk B N X' s' a' → ExtN H X X' → k e s' = some r → Q e.exit' a' X'.w) → c.wp P Q a X.w)
    {X0 : HS} (hq : ∀ e s' a' X', StOk B N X' s' a' → ExtN H X0 X' → k e s' = some r → Q e.exit' a' X'.w) :
    ∀ (n : Nat) (s : St) (a : Act) (X : HS), ExtN H X0 X → StOk B N X s a → loopK k0 k1 H body n s k = some r → InLoop P c Q a X.w
  | 0, s, a, X, _, _, h => by simp [loopK] at h
  | n + 1, s, a, X, hx, hs, h => by
    simp only [loopK] at h
    refine in_round (hbody _ s a X _ hs h ?_)
    intro e s' a' X' hs' hx' hk'
    cases e with
    | normal =>
      obtain ⟨s1, X1, e1, hs1, hx1, h1⟩ := canonK_sound hs' hk'
      simp only [Exit.then, Ex.exit']
      rw [← e1]
      exact loopK_sound hbody hq n s1 a' X1 (hx.trans (hx'.trans hx1)) hs1 h1
    | exit id =>
      obtain ⟨s1, X1, e1, hs1, hx1, h1⟩ := canonK_sound hs' hk'
      have := hq (.exit id) s1 a' X1 hs1 (hx.trans (hx'.trans hx1)) h1
      rw [e1] at this
      exact this
    | ret =>
      obtain ⟨s1, X1, e1, hs1, hx1, h1⟩ := canonK_sound hs' hk'
      have := hq .ret s1 a' X1 hs1 (hx.trans (hx'.trans hx1)) h1
      rw [e1] at this
      exact this

/-- A loop's model that is shown right by what the loop does. -/
structure LmSem (E : Env) (N H : Nat) (a : Code) (m : LM) : Prop where
  sound : ∀ (R : Type) (B : Base) (s : St) (k : Ex → St → Option R) (r : R) (act : Act) (X : HS) (Q : Exit → Act → World → Prop), StOk B N X s act → m R s k = some r →
    (∀ e s' a' X', StOk B N X' s' a' → ExtN H X X' → k e s' = some r → Q e.exit' a' X'.w) → (Code.loop a).wp E.P Q act X.w
  nat : ∀ (R S : Type) (f : S → Option R) (s : St) (k : Ex → St → Option S), m R s (fun e s' => (k e s').bind f) = (m S s k).bind f

/-- The models of a code's loops are right: where a model is for a state, it is the loop's run. -/
def LmOk (E : Env) (C : Cfg) (N : Nat) (c : Code) : Prop := ∀ a, a ∈ loops c → ∀ H m, C.lm H (keyOf a) = some m →
  (∃ ok : St → Bool, ∀ (R : Type) (s : St) (k : Ex → St → Option R), m R s k = bif ok s then runL E C N H a R s k else none) ∨ LmSem E N H a m

theorem EnvOk.at {E : Env} (hE : EnvOk E) (x : Nat → Bool) : EnvOk (E.at x) where
  pm := fun f args h res y hp => hE.pm f args h res y (by
    have : (E.isPm f && !x f) = true := hp
    simp only [Bool.and_eq_true] at this
    exact this.1)
  cm := hE.cm
  mono := fun f args h res l hp => hE.mono f args h res l (by
    have : (E.isPm f && !x f) = true := hp
    simp only [Bool.and_eq_true] at this
    exact this.1)
  nat := hE.nat
  ono := hE.ono
  gcm := hE.gcm
  gnat := hE.gnat

theorem EnvOk.told {E : Env} (hE : EnvOk E) (g : Nat → Option Int) : EnvOk (E.told g) where
  pm := hE.pm
  cm := fun R f args h K r hk => by
    change (match g f with
      | some p => E.gcm R p f args h K
      | none => E.cm R f args h K) = some r at hk
    split at hk
    · exact hE.gcm R _ f args h K r hk
    · exact hE.cm R f args h K r hk
  mono := hE.mono
  nat := fun R f args h K => by
    show (match g f with
      | some p => E.gcm R p f args h K
      | none => E.cm R f args h K) = Option.bind (match g f with
      | some p => E.gcm (SV × List SO) p f args h fun v h' => some (v, h')
      | none => E.cm (SV × List SO) f args h fun v h' => some (v, h')) fun p => K p.1 p.2
    split
    · exact hE.gnat R _ f args h K
    · exact hE.nat R f args h K
  ono := fun f args h v h' ho hn hk => by
    change (match g f with
      | some _ => false
      | none => E.isO f) = true at ho
    change (match g f with
      | some p => E.gcm (SV × List SO) p f args h fun v h' => some (v, h')
      | none => E.cm (SV × List SO) f args h fun v h' => some (v, h')) = some (v, h') at hk
    show ∃ (t : GT) (ys : List t.ty), v = .own h.length ∧ h' = h ++ [.arr t ys] ∧ ∀ h2, (match g f with
      | some p => E.gcm (SV × List SO) p f args h2 fun v h' => some (v, h')
      | none => E.cm (SV × List SO) f args h2 fun v h' => some (v, h')) = some (.own h2.length, h2 ++ [.arr t ys])
    cases hg : g f with
    | some p => rw [hg] at ho; cases ho
    | none =>
      rw [hg] at ho hk
      simp only
      exact hE.ono f args h v h' ho hn hk
  gcm := hE.gcm
  gnat := hE.gnat

theorem openK_sound {R : Type} {B : Base} {N : Nat} {X : HS} {a : Act} {k : St → Option R} {r : R} : ∀ (l : List (Nat × Nat)) (s : St), StOk B N X s a → openK l s k = some r → ∃ s', StOk B N X s' a ∧ k s' = some r
  | [], s, hs, h => ⟨s, hs, h⟩
  | e :: l, s, hs, h => by
    simp only [openK] at h
    split at h
    · rename_i n i hn hi
      split at h
      · rename_i g xs hx
        obtain ⟨hb, h⟩ := asrt_true h
        obtain ⟨x, hxi, h⟩ := Option.bind_eq_some_iff.1 h
        simp only [Bool.and_eq_true, decide_eq_true_eq] at hb
        have hsw : RepO X n (.hole true g xs i.toNat (.dat g x)) := ?_
        · exact openK_sound l ⟨s.regs, setN s.heap n (.hole true g xs i.toNat (.dat g x))⟩ ⟨hs.regs, hs.heap.swap hx rfl hsw, hs.size, hs.defers⟩ h
        have hlt : i.toNat < xs.length := (List.getElem?_eq_some_iff.1 hxi).1
        rcases hs.heap.obj n _ hx with ⟨base, _, rfl⟩ | ⟨b, o, cap, cells, T, fz, h1, h2, h3, h4, h5, h6, h7, h8⟩
        · simp at hlt
        · refine ⟨b, o, cap, cells, T, fz, h1, h2, h3, h4, h5, h6, h7, rfl, hlt, fun j y hy => ?_⟩
          obtain ⟨cs, c1, c2⟩ := h8 j y hy
          refine ⟨cs, ?_, c2⟩
          cases hj : Nat.beq j i.toNat with
          | true =>
            have := Nat.eq_of_beq_eq_true hj
            subst this
            rw [hxi] at hy
            cases hy
            exact c1
          | false => exact c1
      · exact openK_sound l s hs h
    · exact openK_sound l s hs h

theorem execC_sound {E : Env} (hE : EnvOk E) (hm : E.P.follows .mixedOrders = true) {R : Type} {B : Base} {C : Cfg} {N H : Nat} {r : R} : ∀ (c : Code) (k : Ex → St → Option R) (s : St) (a : Act) (X : HS) (Q : Exit → Act → World → Prop),
    LmOk E C N c → StOk B N X s a → execC E C N H c s k = some r → (∀ e s' a' X', StOk B N X' s' a' → ExtN H X X' → k e s' = some r → Q e.exit' a' X'.w) → c.wp E.P Q a X.w
  | .skip, k, s, a, X, Q, hlm, hs, h, hq => wp_skip (hq .normal s a X hs (.refl _ _) h)
  | .region id ops draw, k, s, a, X, Q, hlm, hs, h, hq => by
    simp only [execC] at h
    obtain ⟨s, hs, h⟩ := openK_sound (C.op id) s hs h
    obtain ⟨X0, e0, x0, s0⟩ := datn_sound (C.pre id) X s.regs s.heap hs
    rw [← e0]
    exact regionK_sound (E := (E.at (C.ex id)).told _) ((hE.at _).told _) hm s0 h (fun s' a' X' hs' hx' hk' => hq .normal s' a' X' hs' (.of (x0.trans hx')) hk')
  | .seq x y, k, s, a, X, Q, hlm, hs, h, hq => by
    have hl1 : LmOk E C N x := fun b hb => hlm b (by simp [loops, hb])
    have hl2 : LmOk E C N y := fun b hb => hlm b (by simp [loops, hb])
    simp only [execC] at h
    refine wp_seq (execC_sound hE hm x _ s a X _ hl1 hs h ?_)
    intro e s' a' X' hs' hx' hk'
    cases e with
    | normal =>
      simp only at hk'
      cases hr : isRegion x with
      | true =>
        rw [hr] at hk'
        exact execC_sound hE hm y k s' a' X' Q hl2 hs' hk' (fun e s'' a'' X'' h1 h2 h3 => hq e s'' a'' X'' h1 (hx'.trans h2) h3)
      | false =>
        rw [hr] at hk'
        simp only [cond_false] at hk'
        obtain ⟨s1, X1, e1, hs1, hx1, h1⟩ := canonK_sound hs' hk'
        simp only [Exit.then, Ex.exit']
        rw [← e1]
        exact execC_sound hE hm y k s1 a' X1 Q hl2 hs1 h1 (fun e s'' a'' X'' h2 h3 h4 => hq e s'' a'' X'' h2 (hx'.trans (hx1.trans h3)) h4)
    | exit id => exact hq (.exit id) s' a' X' hs' hx' hk'
    | ret => exact hq .ret s' a' X' hs' hx' hk'
  | .cond c x y, k, s, a, X, Q, hlm, hs, h, hq => by
    have hl1 : LmOk E C N x := fun b hb => hlm b (by simp [loops, hb])
    have hl2 : LmOk E C N y := fun b hb => hlm b (by simp [loops, hb])
    simp only [execC] at h
    split at h
    · rename_i t ht
      refine wp_cond (getB_eval hs.regs ht) ?_
      cases t with
      | true => exact execC_sound hE hm x k s a X Q hl1 hs h hq
      | false => exact execC_sound hE hm y k s a X Q hl2 hs h hq
    · cases h
  | .block id c, k, s, a, X, Q, hlm, hs, h, hq => by
    have hl1 : LmOk E C N c := fun b hb => hlm b (by simp [loops, hb])
    simp only [execC] at h
    refine wp_block (execC_sound hE hm c _ s a X _ hl1 hs h ?_)
    intro e s' a' X' hs' hx' hk'
    cases e with
    | normal => exact hq .normal s' a' X' hs' hx' hk'
    | exit i =>
      simp only at hk'
      simp only [Ex.exit', Exit.inBlock]
      cases hb : Nat.beq i id with
      | true =>
        rw [hb] at hk'
        rw [if_pos (Nat.eq_of_beq_eq_true hb)]
        exact hq .normal s' a' X' hs' hx' hk'
      | false =>
        rw [hb] at hk'
        rw [if_neg (fun e => by subst e; simp at hb)]
        exact hq (.exit i) s' a' X' hs' hx' hk'
    | ret => exact hq .ret s' a' X' hs' hx' hk'
  | .loop c, k, s, a, X, Q, hlm, hs, h, hq => by
    have hl1 : LmOk E C N c := fun b hb => hlm b (by simp [loops, hb])
    simp only [execC] at h
    obtain ⟨s1, X1, e1, hs1, hx1, h1⟩ := canonK_sound hs h
    have h2 : runL E C N H c R s1 k = some r ∨ (Code.loop c).wp E.P Q a X1.w := by
      split at h1
      · rename_i m hmm
        rcases hlm c (by simp [loops]) H m hmm with ⟨ok, hok⟩ | hsem
        · rw [hok] at h1
          exact .inl (bif_some h1).2
        · exact .inr (hsem.sound R B s1 k r a X1 Q hs1 h1 (fun e s' a' X' q1 q2 q3 => hq e s' a' X' q1 (hx1.trans q2) q3))
      · exact .inl h1
    rw [← e1]
    rcases h2 with h2 | h2
    case inr => exact h2
    refine loop_of_in (loopK_sound (fun k s a X Q hs h hq => execC_sound hE hm c k s a X Q hl1 hs h hq) (X0 := X) hq C.fuel s1 a X1 hx1 hs1 h2)
  | .exit id, k, s, a, X, Q, hlm, hs, h, hq => wp_exit (hq (.exit id) s a X hs (.refl _ _) h)
  | .ret, k, s, a, X, Q, hlm, hs, h, hq => wp_ret (hq .ret s a X hs (.refl _ _) h)
  | .rangeFunc _ _ _ _, k, s, a, X, Q, hlm, hs, h, hq => by simp [execC] at h
  | .scope _, k, s, a, X, Q, hlm, hs, h, hq => by simp [execC] at h
  | .label _, k, s, a, X, Q, hlm, hs, h, hq => by simp [execC] at h
  | .goto _, k, s, a, X, Q, hlm, hs, h, hq => by simp [execC] at h
  | .refuse _, k, s, a, X, Q, hlm, hs, h, hq => by simp [execC] at h

end Go.Eng
