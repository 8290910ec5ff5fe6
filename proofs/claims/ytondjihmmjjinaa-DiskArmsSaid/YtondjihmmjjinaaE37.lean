/- The engine, part 37: contracts of functions that change what their arguments lead to; recursion. -/
import Derived.Test.YtondjihmmjjinaaE33
namespace Go.Eng
open Go
set_option linter.unusedVariables false
set_option linter.unusedSimpArgs false

/-- Where the objects of a call's part lie among the caller's. -/
def tau (σ : List Nat) (hl ol : Nat) : List Nat := (List.range hl).map (fun p => bif σ.any (Nat.beq p) then posOf p σ else ol + p) ++ (List.range (ol - σ.length)).map (fun i => σ.length + i)

def deadOut (σ : List Nat) : Nat → List SO → Bool
  | _, [] => true
  | i, o :: h => (bif σ.any (Nat.beq i) then true else (match o with
    | .dead => true
    | _ => false)) && deadOut σ (i + 1) h

/-- All names of these objects are among these. -/
def namedO (τ : List Nat) : List SO → Bool
  | [] => true
  | o :: l => inN τ o.names && namedO τ l

def stK {R : Type} (kd kw : List (Nat × List Nat × GT)) (Fi Fo : ShS) (model : Fi.ty → Option Fo.ty) (args : List SV) (h : List SO) (K : Kont R) : Option R :=
  match datn kd (initR args 0) h with
  | (rd, hd) => match widen kw rd hd with
  | (rg, h1) =>
    let regs := restr rg (List.range args.length)
    let n0 := namesR regs []
    let σ := closeN h1 1000 n0 n0
    bif nodupB σ && closedR σ regs && closedO h1 σ σ && (Nat.beq regs.length args.length && deadOut σ 0 h1) then (match Fi.dec ⟨renR σ regs, pickO h1 σ σ⟩ with
      | some x => (model x).bind fun y => (match (Fo.enc y).regs with
        | [(t, v)] =>
          let O := (Fo.enc y).heap
          let τ := tau σ h1.length O.length
          bif nodupB τ && Nat.beq t 0 && (inN τ v.names && namedO τ O) then K (v.ren τ) (pickO O τ τ) else none
        | _ => none)
      | none => none) else none

/-- A function from states to states. -/
def stE (f : Nat) (kd kw : List (Nat × List Nat × GT)) (Fi Fo : ShS) (model : Fi.ty → Option Fo.ty) : CmE := ⟨f, fun _ args h K => stK kd kw Fi Fo model args h K, false⟩

def CRun (P : Program) (f : Nat) (Fi Fo : ShS) (model : Fi.ty → Option Fo.ty) : Prop := ∀ (x : Fi.ty) (y : Fo.ty), model x = some y → ∀ (B : Base) (X : HS), HRep B X (Fi.enc x).heap → ∀ vals, RepL X ((Fi.enc x).regs.map (·.2)) vals →
  Calls P f vals.toArray X.w fun e w' => ∃ val X', X'.w = w' ∧ Ext X X' ∧ HRep B X' (Fo.enc y).heap ∧ e = .returned val ∧ ∀ v, (Fo.enc y).regs = [(0, v)] → Rep X' v .val [val]

/-! ### Renaming into a longer heap -/

theorem ren_rep2 {X : HS} {σ : List Nat} {ρ : List Value} (hρ : ∀ (n : Nat) (v : Value), σ.any (Nat.beq n) = true → X.ρ[n]? = some v → ρ[posOf n σ]? = some v) : ∀ (v : SV) (m : Md) (vs : List Value), inN σ v.names = true → Rep X v m vs → Rep ⟨ρ, X.Ok, X.w⟩ (v.ren σ) m vs
  | .dat g x, .cells, vs, _, h => h
  | .dat g x, .val, vs, _, h => h
  | .dat g x, .vals, vs, _, h => h
  | .nils, _, vs, _, h => h
  | .emp, _, vs, _, h => h
  | .nilp, _, vs, _, h => h
  | .nilm, _, vs, _, h => h
  | .nilfn, _, vs, _, h => h
  | .nsl _ _, _, vs, _, h => h
  | .box n _ off, _, vs, hn, h => let ⟨b, h1, h2⟩ := h; ⟨b, hρ _ _ (inN_one hn) h1, h2⟩
  | .el n g i _ off, _, vs, hn, h => let ⟨b, o, len, cap, h1, h2⟩ := h; ⟨b, o, len, cap, hρ _ _ (inN_one hn) h1, h2⟩
  | .rd g x, _, vs, _, h => h
  | .own n, _, vs, hn, h => let ⟨v, h1, h2⟩ := h; ⟨v, hρ _ _ (inN_one hn) h1, h2⟩
  | .mp n, _, vs, hn, h => let ⟨v, h1, h2⟩ := h; ⟨v, hρ _ _ (inN_one hn) h1, h2⟩
  | .vw n g lo len, _, vs, hn, h => let ⟨base, l, cap, b', c, h1, h2⟩ := h; ⟨base, l, cap, b', c, hρ _ _ (inN_one hn) h1, h2⟩
  | .fn f caps, _, vs, hn, h => let ⟨us, h1, h2⟩ := h; ⟨us, ren_rep2 hρ caps _ us hn h1, h2⟩
  | .snil, _, vs, _, h => h
  | .scons a b, .cells, vs, hn, h => let ⟨c1, c2, h0, h1, h2⟩ := h; ⟨c1, c2, h0, ren_rep2 hρ a _ c1 (inN_app hn).1 h1, ren_rep2 hρ b _ c2 (inN_app hn).2 h2⟩
  | .scons a b, .val, vs, hn, h => let ⟨v, c2, h0, h1, h2⟩ := h; ⟨v, c2, h0, ren_rep2 hρ a _ _ (inN_app hn).1 h1, ren_rep2 hρ b _ c2 (inN_app hn).2 h2⟩
  | .scons a b, .vals, vs, hn, h => let ⟨v, c2, h0, h1, h2⟩ := h; ⟨v, c2, h0, ren_rep2 hρ a _ _ (inN_app hn).1 h1, ren_rep2 hρ b _ c2 (inN_app hn).2 h2⟩
  | .agg l, .cells, vs, hn, h => ren_rep2 hρ l .cells vs hn h
  | .agg l, .val, vs, hn, h => let ⟨cs, h1, h2⟩ := h; ⟨cs, ren_rep2 hρ l _ cs hn h1, h2⟩
  | .agg l, .vals, vs, hn, h => let ⟨cs, h1, h2⟩ := h; ⟨cs, ren_rep2 hρ l _ cs hn h1, h2⟩
  | .tup l, .cells, vs, _, h => h.elim
  | .tup l, .val, vs, hn, h => let ⟨us, h1, h2⟩ := h; ⟨us, ren_rep2 hρ l _ us hn h1, h2⟩
  | .tup l, .vals, vs, hn, h => let ⟨us, h1, h2⟩ := h; ⟨us, ren_rep2 hρ l _ us hn h1, h2⟩

theorem pickO_nth2 {h : List SO} {σ : List Nat} : ∀ {l : List Nat} {i : Nat} {o' : SO}, (pickO h σ l)[i]? = some o' → o'.live = true → ∃ n o, l[i]? = some n ∧ nth h n = some o ∧ o' = o.ren σ
  | [], i, o', hp, _ => by simp [pickO] at hp
  | n :: l, 0, o', hp, hl => by
    simp only [pickO, List.getElem?_cons_zero, Option.some.injEq] at hp
    split at hp
    · rename_i o ho
      exact ⟨n, o, rfl, ho, hp.symm⟩
    · subst hp; cases hl
  | n :: l, i + 1, o', hp, hl => by
    simp only [pickO, List.getElem?_cons_succ] at hp ⊢
    exact pickO_nth2 hp hl

theorem namedO_at {τ : List Nat} : ∀ {O : List SO} {n : Nat} {o : SO}, namedO τ O = true → nth O n = some o → inN τ o.names = true
  | [], n, o, _, hn => by simp [nth_eq] at hn
  | o :: O, 0, o', h, hn => by
    simp only [namedO, Bool.and_eq_true] at h
    rw [nth_eq] at hn
    simp only [List.getElem?_cons_zero, Option.some.injEq] at hn
    subst hn
    exact h.1
  | o :: O, n + 1, o', h, hn => by
    simp only [namedO, Bool.and_eq_true] at h
    refine namedO_at (O := O) (n := n) h.2 ?_
    rw [nth_eq] at hn ⊢
    simpa using hn

theorem HRep.embed {B : Base} {X : HS} {O : List SO} (H : HRep B X O) {τ : List Nat} {ρ : List Value} (hn : nodupB τ = true) (hm : namedO τ O = true) (hl : ρ.length = τ.length)
    (hρ : ∀ (p n : Nat) (v : Value), τ[p]? = some n → X.ρ[n]? = some v → ρ[p]? = some v) : HRep B ⟨ρ, X.Ok, X.w⟩ (pickO O τ τ) := by
  have hρ2 : ∀ n v, τ.any (Nat.beq n) = true → X.ρ[n]? = some v → ρ[posOf n τ]? = some v := fun n v h1 h2 => hρ _ n v (posOf_spec h1) h2
  have key : ∀ i o', nth (pickO O τ τ) i = some o' → o'.live = true → ∃ n o, τ[i]? = some n ∧ nth O n = some o ∧ o' = o.ren τ ∧ inN τ o.names = true ∧ ρ[i]? = X.ρ[n]? := by
    intro i o' hi hlv
    rw [nth_eq] at hi
    obtain ⟨n, o, h1, h2, h3⟩ := pickO_nth2 hi hlv
    refine ⟨n, o, h1, h2, h3, namedO_at hm h2, ?_⟩
    have hlt : n < X.ρ.length := by
      rw [H.len]
      rw [nth_eq] at h2
      exact (List.getElem?_eq_some_iff.1 h2).1
    have e := List.getElem?_eq_getElem hlt
    rw [hρ i n _ h1 e, e]
  have blk : ∀ i n, ρ[i]? = X.ρ[n]? → blkOf ⟨ρ, X.Ok, X.w⟩ i = blkOf X n := by
    intro i n e
    simp only [blkOf, e]
  refine ⟨by simp [pickO_len, hl], ?_, ?_, ?_, H.okLt, ?_, H.okOld, H.okNew, H.os, H.tape, H.out, H.size, H.fr⟩
  · intro i o' hi
    cases hlv : o'.live with
    | false => cases o' <;> first | trivial | cases hlv
    | true =>
    obtain ⟨n, o, h1, h2, rfl, h4, h5⟩ := key i o' hi hlv
    have ho := H.obj n o h2
    cases o with
    | dead => trivial
    | box v =>
      obtain ⟨b, cs, T, k1, k2, k3⟩ := ho
      exact ⟨b, cs, T, h5.trans k1, k2, ren_rep2 hρ2 v _ _ h4 k3⟩
    | arr g xs =>
      rcases ho with ⟨base, k1, k2⟩ | ⟨b, o, cap, cells, T, fz, k1, k2⟩
      · exact .inl ⟨base, h5.trans k1, k2⟩
      · exact .inr ⟨b, o, cap, cells, T, fz, h5.trans k1, k2⟩
    | map k v es =>
      obtain ⟨r, ents, clock, k1, k2⟩ := ho
      exact ⟨r, ents, clock, h5.trans k1, k2⟩
    | mapB k v es bs c =>
      obtain ⟨r, ents, k1, k2⟩ := ho
      exact ⟨r, ents, h5.trans k1, k2⟩
    | mapS k v es x m =>
      obtain ⟨r, ents, clock, k1, k2, k3, k4, k5, p, me, z, k6, k7, k8, k9⟩ := ho
      exact ⟨r, ents, clock, h5.trans k1, k2, k3, k4, k5, p, me, z, k6, k7, hρ2 _ _ (inN_one h4) k8, k9⟩
    | hole q g xs i u =>
      obtain ⟨b, o, cap, cells, T, fz, k1, k2, k3, k4, k5, k6, k7, k8, k9, k10⟩ := ho
      refine ⟨b, o, cap, cells, T, fz, h5.trans k1, k2, k3, k4, k5, k6, k7, by rw [ren_size]; exact k8, k9, fun j x hj => ?_⟩
      obtain ⟨cs, c1, c2⟩ := k10 j x hj
      refine ⟨cs, ?_, c2⟩
      cases hb : Nat.beq j i with
      | true =>
        rw [hb, cond_true] at c1
        exact ren_rep2 hρ2 u _ _ h4 c1
      | false =>
        rw [hb, cond_false] at c1
        exact c1
  · intro i j o1 o2 hi hj l1 l2 b b1 b2
    obtain ⟨n1, p1, q1, q2, rfl, _, q5⟩ := key i o1 hi l1
    obtain ⟨n2, p2, r1, r2, rfl, _, r5⟩ := key j o2 hj l2
    rw [live_ren] at l1 l2
    rw [blk i n1 q5] at b1
    rw [blk j n2 r5] at b2
    have := H.inj n1 n2 p1 p2 q2 r2 l1 l2 b b1 b2
    subst this
    exact nodupB_inj hn q1 r1
  · intro i o hi l b hb
    obtain ⟨n, p, q1, q2, rfl, _, q5⟩ := key i o hi l
    rw [live_ren] at l
    rw [blk i n q5] at hb
    exact H.sep n p q2 l b hb
  · intro i o b hi l hb
    obtain ⟨n, p, q1, q2, rfl, _, q5⟩ := key i o hi l
    rw [live_ren] at l
    rw [blk i n q5] at hb
    exact H.ownNew n p b q2 l hb

/-! ### The contract -/

theorem restr_at {rg : List (Nat × SV)} : ∀ {l : List Nat}, (restr rg l).length = l.length → ∀ (i : Nat) (e : Nat × SV), (restr rg l)[i]? = some e → l[i]? = some e.1 ∧ lk rg e.1 = some e.2
  | [], _, i, e, h => by simp [restr] at h
  | n :: l, hl, i, e, h => by
    have hle : ∀ l : List Nat, (restr rg l).length ≤ l.length := by
      intro l
      induction l with
      | nil => simp [restr]
      | cons n l ih =>
        simp only [restr]
        split <;> simp <;> omega
    simp only [restr] at hl h
    split at hl
    · rename_i v hv
      rw [hv] at h
      simp only [List.length_cons, Nat.add_right_cancel_iff] at hl
      cases i with
      | zero =>
        simp only [List.getElem?_cons_zero, Option.some.injEq] at h
        subst h
        exact ⟨rfl, hv⟩
      | succ i =>
        simp only [List.getElem?_cons_succ] at h ⊢
        exact restr_at hl i e h
    · have := hle l
      simp only [List.length_cons] at hl
      omega

theorem RepL_of {X : HS} : ∀ {vs : List SV} {xs : List Value}, vs.length = xs.length → (∀ (i : Nat) (v : SV) (x : Value), vs[i]? = some v → xs[i]? = some x → Rep X v .val [x]) → RepL X vs xs
  | [], [], _, _ => trivial
  | v :: vs, x :: xs, hl, h => ⟨h 0 v x rfl rfl, RepL_of (by simpa using hl) (fun i v x h1 h2 => h (i + 1) v x (by simpa using h1) (by simpa using h2))⟩
  | [], _ :: _, hl, _ => by simp at hl
  | _ :: _, [], hl, _ => by simp at hl

theorem renR_len (σ : List Nat) : ∀ l : List (Nat × SV), (renR σ l).length = l.length
  | [] => rfl
  | e :: l => by simp [renR, renR_len σ l]
theorem renR_at (σ : List Nat) : ∀ (l : List (Nat × SV)) (i : Nat), (renR σ l)[i]? = (l[i]?).map fun e => (e.1, e.2.ren σ)
  | [], i => by simp [renR]
  | e :: l, 0 => by simp [renR]
  | e :: l, i + 1 => by simp [renR, renR_at σ l i]
theorem closedR_at {σ : List Nat} : ∀ {l : List (Nat × SV)}, closedR σ l = true → ∀ (i : Nat) (e : Nat × SV), l[i]? = some e → inN σ e.2.names = true
  | [], _, i, e, h => by simp at h
  | a :: l, hc, 0, e, h => by
    simp only [closedR, Bool.and_eq_true] at hc
    simp only [List.getElem?_cons_zero, Option.some.injEq] at h
    subst h
    exact hc.1
  | a :: l, hc, i + 1, e, h => by
    simp only [closedR, Bool.and_eq_true] at hc
    exact closedR_at hc.2 i e (by simpa using h)

theorem tau_len (σ : List Nat) (hl ol : Nat) : (tau σ hl ol).length = hl + (ol - σ.length) := by simp [tau]
theorem tau_in {σ : List Nat} {hl ol p : Nat} (h : p < hl) : (tau σ hl ol)[p]? = some (bif σ.any (Nat.beq p) then posOf p σ else ol + p) := by
  unfold tau
  rw [List.getElem?_append_left (by simpa using h)]
  simp [h]

theorem st_ok {P : Program} {f : Nat} {kd kw : List (Nat × List Nat × GT)} {Fi Fo : ShS} {model : Fi.ty → Option Fo.ty} (hc : callable P f) (hr : CRun P f Fi Fo model) : CmOk P (stE f kd kw Fi Fo model) := by
  constructor
  · intro R args h K r hk
    refine ⟨hc, fun B X H vals hvals => ?_⟩
    have hlen := RepL_len hvals
    have S0 : StOk B vals.length X ⟨initR args 0, h⟩ ⟨vals.toArray, []⟩ := by
      refine ⟨?_, H, by simp, rfl⟩
      intro t v hl
      obtain ⟨i, h1, h2⟩ := initR_lk args 0 hl
      obtain ⟨x, h3, h4⟩ := RepL_at hvals h2
      rw [Nat.zero_add] at h1
      subst h1
      have : vals.toArray.getD t undef = x := by
        rw [Array.getD_eq_getD_getElem?]
        simp [h3]
      simp only at this ⊢
      rw [this]
      exact h4
    obtain ⟨Xa, ea, xa, Sa⟩ := datn_sound kd X _ _ S0
    obtain ⟨X1, e1, x1, S1⟩ := widen_sound kw Xa _ _ Sa
    replace e1 := e1.trans ea
    replace x1 := xa.trans x1
    simp only [stE, stK] at hk
    generalize hrg : (widen kw (datn kd (initR args 0) h).1 (datn kd (initR args 0) h).2).1 = rg at hk S1
    generalize hh1 : (widen kw (datn kd (initR args 0) h).1 (datn kd (initR args 0) h).2).2 = h1 at hk S1
    generalize hregs : restr rg (List.range args.length) = regs at hk
    generalize hσ : closeN h1 1000 (namesR regs []) (namesR regs []) = σ at hk
    obtain ⟨hcc, hk⟩ := bif_some hk
    simp only [Bool.and_eq_true, Nat.beq_eq] at hcc
    obtain ⟨⟨⟨c1, c2⟩, c3⟩, c4, c5⟩ := hcc
    split at hk
    · rename_i x hx
      obtain ⟨y, hy, hk⟩ := Option.bind_eq_some_iff.1 hk
      split at hk
      · rename_i t v hv
        obtain ⟨hd, hk2⟩ := bif_some hk
        simp only [Bool.and_eq_true] at hd
        obtain ⟨⟨d1, d2⟩, d3, d4⟩ := hd
        have d2 := Nat.eq_of_beq_eq_true d2
        subst d2
        have hs := ShS.dec_enc Fi _ x hx
        have H2 := S1.heap.rename c1 c3
        have hsr : (Fi.enc x).regs = renR σ regs := by rw [← hs]
        have hsh : (Fi.enc x).heap = pickO h1 σ σ := by rw [← hs]
        have hvals2 : RepL (renX X1 σ) ((Fi.enc x).regs.map (·.2)) vals := by
          rw [hsr]
          refine RepL_of (by rw [List.length_map, renR_len, c4]; exact hlen) (fun i v' x' k1 k2 => ?_)
          rw [List.getElem?_map, renR_at] at k1
          cases hre : regs[i]? with
          | none => rw [hre] at k1; cases k1
          | some e =>
            rw [hre] at k1
            simp only [Option.map_some, Option.some.injEq] at k1
            subst k1
            have hrl : (restr rg (List.range args.length)).length = (List.range args.length).length := by rw [hregs, c4]; simp
            obtain ⟨k3, k4⟩ := restr_at hrl i e (by rw [hregs]; exact hre)
            have k5 : e.1 = i := by
              have := (List.getElem?_eq_some_iff.1 k3).2
              simpa using this.symm
            have k6 := S1.regs e.1 e.2 k4
            rw [k5] at k6
            have k7 : vals.toArray.getD i undef = x' := by
              rw [Array.getD_eq_getD_getElem?]
              simp [k2]
            rw [show (⟨vals.toArray, []⟩ : Act).tmps.getD i undef = x' from k7] at k6
            exact ren_rep e.2 _ _ (closedR_at c2 i e hre) k6
        have hw : (renX X1 σ).w = X.w := e1
        have hrun := hr x y hy B (renX X1 σ) (by rw [hsh]; exact H2) vals hvals2
        rw [hw] at hrun
        refine hrun.mono ?_
        rintro e w' ⟨val, X', rfl, hx', H', rfl, hres⟩
        have hOl : X'.ρ.length = (Fo.enc y).heap.length := H'.len
        have hX1l : X1.ρ.length = h1.length := S1.heap.len
        let τ := tau σ h1.length (Fo.enc y).heap.length
        let ρ : List Value := (List.range τ.length).map fun p => (X'.ρ[τ.getD p 0]?).getD ((X1.ρ[p]?).getD undef)
        have hρ : ∀ (p n : Nat) (v : Value), τ[p]? = some n → X'.ρ[n]? = some v → ρ[p]? = some v := by
          intro p n v h1' h2'
          have hp := (List.getElem?_eq_some_iff.1 h1').1
          show ((List.range τ.length).map fun p => (X'.ρ[τ.getD p 0]?).getD ((X1.ρ[p]?).getD undef))[p]? = some v
          rw [List.getElem?_map, List.getElem?_range hp]
          simp only [Option.map_some, Option.some.injEq]
          rw [List.getD_eq_getElem?_getD, h1', Option.getD_some, h2', Option.getD_some]
        have hEx : Ext X1 ⟨ρ, X'.Ok, X'.w⟩ := by
          refine ⟨?_, fun b hb => hx'.ok b hb, fun b hb => hx'.st b hb⟩
          intro p v hpv
          have hp : p < h1.length := by rw [← hX1l]; exact (List.getElem?_eq_some_iff.1 hpv).1
          have hτ := tau_in (σ := σ) (ol := (Fo.enc y).heap.length) hp
          cases ha : σ.any (Nat.beq p) with
          | true =>
            rw [ha, cond_true] at hτ
            refine hρ p _ v hτ (hx'.ρ _ _ ?_)
            exact renX_at ha hpv
          | false =>
            rw [ha, cond_false] at hτ
            have hpl := (List.getElem?_eq_some_iff.1 hτ).1
            show ((List.range τ.length).map fun p => (X'.ρ[τ.getD p 0]?).getD ((X1.ρ[p]?).getD undef))[p]? = some v
            rw [List.getElem?_map, List.getElem?_range hpl]
            simp only [Option.map_some, Option.some.injEq]
            rw [List.getD_eq_getElem?_getD, show τ[p]? = some ((Fo.enc y).heap.length + p) from hτ, Option.getD_some, List.getElem?_eq_none (by omega), Option.getD_none, hpv, Option.getD_some]
        have H'' := H'.embed (τ := τ) (ρ := ρ) d1 d4 (by simp [ρ]) hρ
        refine ⟨val, ⟨ρ, X'.Ok, X'.w⟩, _, v.ren τ, rfl, x1.trans hEx, H'', rfl, ?_, hk2⟩
        exact ren_rep2 (fun n v h1 h2 => hρ _ n v (posOf_spec h1) h2) v _ _ d3 (hres v hv)
      · cases hk
    · cases hk
  · intro R args h K
    simp only [stE, stK]
    rw [cond_bind]
    congr 1
    split
    · rw [Option.bind_assoc]
      congr 1
      funext y
      split
      · rw [cond_bind]; rfl
      · rfl
    · rfl
  · intro h
    cases h

/-! ### From a function's equation -/

/-- What is kept at a function's end. -/
def retS (kd kw : List (Nat × List Nat × GT)) (n0 : Nat) (Fo : ShS) : Kont Fo.ty := fun v h => canonK (some ⟨[0], kw, kd⟩) n0 ⟨[(0, v)], h⟩ Fo.dec

theorem st_run {E : Env} (hE : EnvOk E) (hm : E.P.follows .mixedOrders = true) {C : Cfg} {f : Nat} {fn : Func} {kd kw : List (Nat × List Nat × GT)} {Fi Fo : ShS} {model : Fi.ty → Option Fo.ty}
    (hlm : ∀ c, fn.body = some c → LmOk E C fn.ntmps c) (hf : E.P.funcs[f]? = some fn)
    (heq : ∀ x, execF E C fn ((Fi.enc x).regs.map (·.2)) (Fi.enc x).heap (retS kd kw Fi.heap.length Fo) = model x) : CRun E.P f Fi Fo model := by
  intro x y hy B X H vals hv
  refine (execF_sound hE hm hlm hf ((heq x).trans hy) H hv).mono ?_
  rintro e w' ⟨val, X', h', v, rfl, hx, H', rfl, hrv, hk⟩
  have S : StOk B 1 X' ⟨[(0, v)], h'⟩ ⟨#[val], []⟩ := by
    refine ⟨?_, H', rfl, rfl⟩
    intro t u hl
    simp only [lk] at hl
    cases hb : Nat.beq 0 t with
    | true =>
      rw [hb] at hl
      simp only [cond_true, Option.some.injEq] at hl
      subst hl
      rw [← Nat.eq_of_beq_eq_true hb]
      exact hrv
    | false => rw [hb] at hl; cases hl
  obtain ⟨s', X'', ew, S', EX, hk'⟩ := canonK_sound S hk
  have hs := ShS.dec_enc Fo _ y hk'
  have hXl : X.ρ.length = Fi.heap.length := by
    rw [H.len]
    have : ∀ (l : List OG) (x : tyO l), (encO l x).length = l.length := by
      intro l
      induction l with
      | nil => intro _; rfl
      | cons e l ih => intro x; simp [encO, ih]
    exact this _ _
  refine ⟨val, X'', ew, ?_, by rw [← hs]; exact S'.heap, rfl, fun u hu => ?_⟩
  · refine ExtN.all ?_
    rw [hXl]
    exact ExtN.trans (.of hx) EX
  · rw [← hs] at hu
    have h0 : lk s'.regs 0 = some u := by rw [hu]; simp [lk]
    exact S'.regs 0 u h0

/-! ### Recursion -/

def recM {A B : Type} (F : (A → Option B) → A → Option B) : Nat → A → Option B
  | 0, _ => none
  | n + 1, x => F (recM F n) x

theorem rec_ok {P : Program} {f : Nat} {kd kw : List (Nat × List Nat × GT)} {Fi Fo : ShS} {F : (Fi.ty → Option Fo.ty) → Fi.ty → Option Fo.ty} (hc : callable P f)
    (h : ∀ mr, CmOk P (stE f kd kw Fi Fo mr) → CRun P f Fi Fo (F mr)) : ∀ n, CmOk P (stE f kd kw Fi Fo (recM F n))
  | 0 => st_ok hc (fun x y hy => by cases hy)
  | n + 1 => st_ok hc (h _ (rec_ok hc h n))

end Go.Eng
