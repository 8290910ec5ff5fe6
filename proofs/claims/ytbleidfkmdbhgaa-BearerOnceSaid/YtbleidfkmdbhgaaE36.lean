/- The engine, part 36: functions that are told a number: a copy of a list whose elements have slices of their own; the element at that number is known part by part. -/
import Derived.Test.YtbleidfkmdbhgaaE33
namespace Go.Eng
open Go
set_option linter.unusedVariables false
set_option linter.unusedSimpArgs false

/-- An element: two numbers, a row, two numbers. -/
abbrev gRow : GT := .cons (.int .i64) (.cons (.int .i64) (.cons (.sl .bool) (.cons (.int .i64) (.cons (.int .i64) .nil))))

/-- An element part by part, its row the object m. -/
def mkU (x : gRow.ty) (m : Nat) : SV := .agg (.scons (.dat (.int .i64) x.1) (.scons (.dat (.int .i64) x.2.1) (.scons (.own m) (.scons (.dat (.int .i64) x.2.2.2.1) (.scons (.dat (.int .i64) x.2.2.2.2.1) .snil)))))

/-- The element that is told, where all is within the limits. -/
def tellL (p : Int) (l : List gRow.ty) : Option gRow.ty :=
  asrt true (decide (0 ≤ p) && decide (p < (l.length : Int)) && decide (l.length ≤ LIM) && l.all fun x => decide (x.2.2.1.length ≤ LIM)) (l[p.toNat]?)

def tellE (f : Nat) (p : Int) : CmE :=
  ⟨f, fun R args h K => bif Nat.beq (ownsAll args).length 0 then (match coeL h args [.sl gRow] with
    | some xs => (tellL p xs.1).bind fun x => K (.own (h.length + 1)) (h ++ [.arr .bool x.2.2.1, .hole true gRow xs.1 p.toNat (mkU x h.length)])
    | none => none) else none, false⟩

def TRun (P : Program) (f : Nat) : Prop := ∀ (l : List gRow.ty) (p : Int) (x : gRow.ty), tellL p l = some x → ∀ (B : Base) (X : HS), HRep B X [] → ∀ vals, RepL X (datL [.sl gRow] (l, ())) vals →
  Calls P f vals.toArray X.w fun e w' => ∃ val X', X'.w = w' ∧ Ext X X' ∧ HRep B X' [.hole true gRow l p.toNat (mkU x 1), .arr .bool x.2.2.1] ∧ e = .returned val ∧ Rep X' (.own 0) .val [val]

theorem tell_ok {P : Program} {f : Nat} (hc : callable P f) (hr : TRun P f) (p : Int) : CmOk P (tellE f p) := by
  constructor
  · intro R args h K r hk
    simp only [tellE] at hk ⊢
    obtain ⟨hown, hk⟩ := bif_some hk
    have hown : ownsAll args = [] := List.length_eq_zero_iff.1 (Nat.eq_of_beq_eq_true hown)
    split at hk
    · rename_i xs hxs
      obtain ⟨x, hx, hk⟩ := Option.bind_eq_some_iff.1 hk
      refine ⟨hc, fun B X H vals hvals => ?_⟩
      have H0 : HRep ⟨X.w, fun _ => False, okS X h (ownsAll args)⟩ ⟨[], okS X h (ownsAll args), X.w⟩ [] := by
        refine ⟨rfl, ?_, ?_, ?_, ?_, ?_, fun _ hb => hb, fun _ hb => .inl hb, rfl, rfl, rfl, Nat.le_refl _, fun _ _ _ => rfl⟩
        · intro n o hn; simp [nth_eq] at hn
        · intro n m o o' hn; simp [nth_eq] at hn
        · intro n o hn; simp [nth_eq] at hn
        · rintro b (hb | ⟨n, o, _, h2, h3, h4⟩)
          · exact H.okLt b hb
          · exact H.lt h2 h3 h4
        · intro n o b hn; simp [nth_eq] at hn
      have ha := coeL_rep H args _ xs vals hxs hvals ⟨[], okS X h (ownsAll args), X.w⟩ (fun _ hb => hb) rfl
      refine (hr xs.1 p x hx _ _ H0 vals ha).mono ?_
      rintro e w' ⟨val, X', rfl, _, H', rfl, hv⟩
      have hlt : ∀ n o b, nth h n = some o → o.live = true → blkOf X n = some b → b < X.w.heap.size := fun n o b hn hl hb => H.lt hn hl hb
      have hfr : ∀ b : Nat, b < X.w.heap.size → X'.w.heap[b]? = X.w.heap[b]? := fun b hb => H'.fr b hb (fun h => h)
      obtain ⟨H1, E1⟩ := H.world (w' := X'.w) H'.os H'.tape H'.out H'.size (fun b hb => hfr b (H.okLt b hb)) (fun n o b hn hl hb => hfr b (hlt n o b hn hl hb)) (fun b hb _ => hfr b (Nat.lt_of_lt_of_le hb H.size))
      obtain ⟨H2, E2⟩ := H1.okMore (fun b => X'.Ok b ∧ X.w.heap.size ≤ b) (fun b hb => H'.okLt b hb.1) (fun b hb => .inr (Nat.le_trans H.size hb.2)) (fun n o hn hl b hb hS => by
        have h1 := hlt n o b hn hl hb
        have h2 := hS.2
        omega)
      let Ok2 : Nat → Prop := fun b => X.Ok b ∨ (X'.Ok b ∧ X.w.heap.size ≤ b)
      have hokm : ∀ b, X'.Ok b → Ok2 b := by
        intro b hb
        rcases Nat.lt_or_ge b X.w.heap.size with hl | hg
        · rcases H'.okNew b hb with (h1 | ⟨n, o, h1, _⟩) | h1 | h1
          · exact .inl h1
          · rw [hown] at h1; cases h1
          · simp only at h1; omega
          · exact h1.elim
        · exact .inr ⟨hb, hg⟩
      -- the two new objects
      have hh := H'.obj 0 _ rfl
      obtain ⟨b, o, cap, cells, T, fz, k1, k2, k3, k4, k5, k6, k7, k8, k9, k10⟩ := hh
      have hrow := H'.obj 1 _ rfl
      have hb1 : ∃ v1, X'.ρ[1]? = some v1 := by
        have : X'.ρ.length = 2 := H'.len
        exact ⟨_, List.getElem?_eq_getElem (by omega)⟩
      obtain ⟨v1, hv1⟩ := hb1
      have hblk1 : blkOf X' 1 = v1.blk := by simp [blkOf, hv1]
      have hfresh1 : ∀ b, v1.blk = some b → X.w.heap.size ≤ b := by
        intro b hb
        rcases H'.ownNew 1 _ b rfl rfl (by rw [hblk1]; exact hb) with h1 | h1
        · exact h1.elim
        · exact h1
      have lt2 : ∀ n o b, nth h n = some o → o.live = true → blkOf ⟨X.ρ, Ok2, X'.w⟩ n = some b → b < X.w.heap.size := fun n o b hn hl hb => hlt n o b hn hl hb
      obtain ⟨H3, E3⟩ := H2.adopt (val := v1) (o := .arr .bool x.2.2.1) (fun b _ hb => by
        have hge := hfresh1 b hb
        refine ⟨?_, .inr (Nat.le_trans H.size hge), ?_⟩
        · rintro (h1 | h1)
          · have := H.okLt b h1; omega
          · exact H'.sep 1 _ rfl rfl b (by rw [hblk1]; exact hb) h1.1
        · intro m o' hm hl hb'
          have := hlt m o' b hm hl hb'
          omega) (by
        rcases hrow with ⟨base, k1, k2⟩ | ⟨b, o, cap, cells, T, fz, k1, k2, k3, k4, k5, k6, k7⟩
        · rw [hv1] at k1
          exact .inl ⟨base, by rw [new_rep H2.len]; exact k1, k2⟩
        · rw [hv1] at k1
          refine .inr ⟨b, o, cap, cells, T, fz, by rw [new_rep H2.len]; exact k1, k2, k3, k4, k5, k6, k7.1, ?_⟩
          intro i y hi
          obtain ⟨cs, c1, c2⟩ := k7.2 i y hi
          exact ⟨cs, RepD_flat _ y cs rfl c1, c2⟩)
      obtain ⟨v0, q1, q2, q3⟩ := hv
      simp only [List.cons.injEq, and_true] at q2
      subst q2
      have hblk0 : blkOf X' 0 = val.blk := by simp [blkOf, q1]
      have hfresh0 : ∀ b, val.blk = some b → X.w.heap.size ≤ b := by
        intro b hb
        rcases H'.ownNew 0 _ b rfl rfl (by rw [hblk0]; exact hb) with h1 | h1
        · exact h1.elim
        · exact h1
      let X3 : HS := ⟨X.ρ ++ [v1], Ok2, X'.w⟩
      have hX : X.ρ.length = h.length := H.len
      have at3 : X3.ρ[h.length]? = some v1 := by
        show (X.ρ ++ [v1])[h.length]? = some v1
        rw [← hX]; simp
      obtain ⟨H4, E4⟩ := HRep.adopt (X := X3) H3 (val := val) (o := .hole true gRow xs.1 p.toNat (mkU x h.length)) (fun b _ hb => by
        have hge := hfresh0 b hb
        refine ⟨?_, .inr (Nat.le_trans H.size hge), ?_⟩
        · rintro (h1 | h1)
          · have := H.okLt b h1; omega
          · exact H'.sep 0 _ rfl rfl b (by rw [hblk0]; exact hb) h1.1
        · intro m o' hm hl hb'
          rw [nth_eq] at hm
          rcases Nat.lt_or_ge m h.length with hlt' | hge'
          · rw [List.getElem?_append_left hlt'] at hm
            have hb2 : blkOf X m = some b := by
              simp only [blkOf] at hb' ⊢
              rw [show X3.ρ = X.ρ ++ [v1] from rfl, List.getElem?_append_left (by omega)] at hb'
              exact hb'
            have := hlt m o' b (by rw [nth_eq]; exact hm) hl hb2
            omega
          · have hm1 := (List.getElem?_eq_some_iff.1 hm).1
            have : m = h.length := by simp at hm1; omega
            subst this
            have hb3 : v1.blk = some b := by simpa [blkOf, at3] using hb'
            have := H'.inj 0 1 _ _ rfl rfl rfl rfl b (by rw [hblk0]; exact hb) (by rw [hblk1]; exact hb3)
            cases this) (by
        refine ⟨b, o, cap, cells, T, fz, ?_, k2, k3, k4, k5, k6, k7, k8, k9, ?_⟩
        · rw [new_rep H3.len, ← k1, q1]
        · intro j y hj
          obtain ⟨cs, c1, c2⟩ := k10 j y hj
          refine ⟨cs, ?_, c2⟩
          cases hb : Nat.beq j p.toNat with
          | true =>
            rw [hb, cond_true] at c1
            rw [cond_true]
            obtain ⟨a1, r1, e1, s1, a2, r2, e2, s2, a3, r3, e3, s3, a4, r4, e4, s4, a5, r5, e5, s5, s6⟩ := c1
            obtain ⟨w, t1, t2, t3⟩ := s3
            refine ⟨a1, r1, e1, s1, a2, r2, e2, s2, a3, r3, e3, ⟨w, ?_, t2, t3⟩, a4, r4, e4, s4, a5, r5, e5, s5, s6⟩
            rw [hv1] at t1
            rw [List.getElem?_append_left (by rw [show X3.ρ = X.ρ ++ [v1] from rfl]; simp; omega), at3]
            exact t1
          | false =>
            rw [hb, cond_false] at c1
            rw [cond_false]
            exact RepD_mono hokm (fun _ _ => rfl) _ y cs c1)
      refine ⟨val, ⟨X3.ρ ++ [val], Ok2, X'.w⟩, _, .own (h.length + 1), rfl, ((E1.trans E2).trans E3).trans E4, ?_, rfl, ?_, hk⟩
      · simpa using H4
      · refine ⟨val, ?_, rfl, q3⟩
        have : (X3.ρ ++ [val])[X3.ρ.length]? = some val := by simp
        rw [show X3.ρ.length = h.length + 1 from by show (X.ρ ++ [v1]).length = _; simp [hX]] at this
        exact this
    · cases hk
  · intro R args h K
    simp only [tellE]
    rw [cond_bind]
    congr 1
    split
    · rw [Option.bind_assoc]; rfl
    · rfl
  · intro h
    cases h

/-! ### The run -/

theorem HRep.swap {B : Base} {X : HS} {h : List SO} (H : HRep B X h) {n : Nat} {o o' : SO} (hn : nth h n = some o) (hl : o.live = true) (hr : RepO X n o') : HRep B X (setN h n o') := by
  have hlt : n < h.length := by
    rw [nth_eq] at hn
    exact (List.getElem?_eq_some_iff.1 hn).1
  have hd : nth (setN h n .dead) n = some .dead := by
    rw [nth_eq, setN_eq, List.getElem?_set_self hlt]
  have hf := (H.drop n).revive (n := n) (o := o') hd (by
    intro b _ hb
    refine ⟨H.sep n o hn hl b hb, H.ownNew n o b hn hl hb, ?_⟩
    intro m o2 hm hlive hbm
    rcases nth_setN hm with ⟨rfl, rfl⟩ | ⟨hne, hm'⟩
    · cases hlive
    · exact hne (H.inj m n _ _ hm' hn hlive hl b hbm hb)) hr
  have e : setN (setN h n .dead) n o' = setN h n o' := by
    rw [setN_eq, setN_eq, setN_eq, List.set_set]
  rw [e] at hf
  exact hf

/-- What a piece of code comes to, with what is kept of it. -/
def stepK (kp kx : Option Keep) (e : Ex) (s : St) : Option (Ex × St) := canonK (match e with | .normal => kp | _ => kx) 0 s fun s' => some (e, s')

theorem lm_none {E : Env} {C : Cfg} {N : Nat} {c : Code} (h : loops c = []) : LmOk E C N c := by
  intro a ha
  rw [h] at ha
  cases ha

def retSt (v : SV) (h : List SO) : Option (SV × List SO) := some (v, h)

theorem told_loop {E : Env} (hE : EnvOk E) (hm : E.P.follows .mixedOrders = true) {C : Cfg} {fn : Func} {BODY : Code} {bl : Nat} (kp kx : Option Keep) (lY : loops BODY = [])
    (rg : List gRow.ty → Int → List (Nat × SV)) (rx : List (Nat × SV))
    (h1 : ∀ (l : List gRow.ty) (i : Nat) (x : gRow.ty), l.length ≤ LIM → l[i]? = some x → x.2.2.1.length ≤ LIM → execC E C fn.ntmps 0 BODY ⟨rg l (i : Int), [.arr gRow l]⟩ (stepK kp kx) = some (.normal, ⟨rg l ((i + 1 : Nat) : Int), [.arr gRow l]⟩))
    (h2 : ∀ (l : List gRow.ty) (i : Nat) (x : gRow.ty), l.length ≤ LIM → l[i]? = some x → x.2.2.1.length ≤ LIM → execC E C fn.ntmps 0 BODY ⟨rg l (i : Int), [.hole true gRow l i (.dat gRow x)]⟩ (stepK kp kx) = some (.normal, ⟨rg l ((i + 1 : Nat) : Int), [.hole true gRow l i (mkU x 1), .arr .bool x.2.2.1]⟩))
    (h3 : ∀ (l : List gRow.ty) (i : Nat) (x : gRow.ty) (p : Nat) (y : gRow.ty) (ys : List Bool), l.length ≤ LIM → Nat.beq i p = false → l[i]? = some x → x.2.2.1.length ≤ LIM → execC E C fn.ntmps 0 BODY ⟨rg l (i : Int), [.hole false gRow l p (mkU y 1), .arr .bool ys]⟩ (stepK kp kx) = some (.normal, ⟨rg l ((i + 1 : Nat) : Int), [.hole false gRow l p (mkU y 1), .arr .bool ys]⟩))
    (h4 : ∀ (l : List gRow.ty) (p : Nat) (y : gRow.ty) (ys : List Bool), l.length ≤ LIM → execC E C fn.ntmps 0 BODY ⟨rg l (l.length : Int), [.hole false gRow l p (mkU y 1), .arr .bool ys]⟩ (stepK kp kx) = some (.exit bl, ⟨rx, [.hole false gRow l p (mkU y 1), .arr .bool ys]⟩))
    {l : List gRow.ty} {p : Nat} {x : gRow.ty} (hL : l.length ≤ LIM) (hrows : ∀ y ∈ l, y.2.2.1.length ≤ LIM) (hpx : l[p]? = some x) {B : Base} {X0 : HS} {Q : Exit → Act → World → Prop}
    (hQ : ∀ (Y : HS) (a' : Act), StOk B fn.ntmps Y ⟨rx, [.hole false gRow l p (mkU x 1), .arr .bool x.2.2.1]⟩ a' → ExtN 0 X0 Y → Q (.exit bl) a' Y.w)
    {X : HS} {a : Act} (S : StOk B fn.ntmps X ⟨rg l 0, [.arr gRow l]⟩ a) (EX : ExtN 0 X0 X) : InLoop E.P BODY Q a X.w := by
  have hrow : ∀ (i : Nat) (y : gRow.ty), l[i]? = some y → y.2.2.1.length ≤ LIM := fun i y hy => hrows y (List.mem_of_getElem? hy)
  -- one round
  have round : ∀ (i : Nat) (h h' : List SO), execC E C fn.ntmps 0 BODY ⟨rg l (i : Int), h⟩ (stepK kp kx) = some (.normal, ⟨rg l ((i + 1 : Nat) : Int), h'⟩) →
      (∀ (Y : HS) (a' : Act), StOk B fn.ntmps Y ⟨rg l ((i + 1 : Nat) : Int), h'⟩ a' → ExtN 0 X0 Y → InLoop E.P BODY Q a' Y.w) →
      ∀ (Y : HS) (a' : Act), StOk B fn.ntmps Y ⟨rg l (i : Int), h⟩ a' → ExtN 0 X0 Y → InLoop E.P BODY Q a' Y.w := by
    intro i h h' he hk Y a' SY EY
    refine in_round (execC_sound hE hm BODY _ _ a' Y _ (lm_none lY) SY he ?_)
    intro e s2 a2 Y2 S2 E2 hk2
    unfold stepK at hk2
    obtain ⟨s3, Y3, ew, S3, E3, hk3⟩ := canonK_sound S2 hk2
    obtain ⟨rfl, rfl⟩ := Prod.mk.inj (Option.some.inj hk3)
    simp only [Exit.then, Ex.exit']
    rw [← ew]
    exact hk Y3 a2 S3 (EY.trans (E2.trans E3))
  have ph3 : ∀ (n i : Nat), i + n = l.length → p < i → ∀ (Y : HS) (a' : Act), StOk B fn.ntmps Y ⟨rg l (i : Int), [.hole false gRow l p (mkU x 1), .arr .bool x.2.2.1]⟩ a' → ExtN 0 X0 Y → InLoop E.P BODY Q a' Y.w := by
    intro n
    induction n with
    | zero =>
      intro i hi hp Y a' SY EY
      have : i = l.length := by omega
      subst this
      refine in_round (execC_sound hE hm BODY _ _ a' Y _ (lm_none lY) SY (h4 l p x x.2.2.1 hL) ?_)
      intro e s2 a2 Y2 S2 E2 hk2
      unfold stepK at hk2
      obtain ⟨s3, Y3, ew, S3, E3, hk3⟩ := canonK_sound S2 hk2
      obtain ⟨rfl, rfl⟩ := Prod.mk.inj (Option.some.inj hk3)
      simp only [Exit.then, Ex.exit']
      rw [← ew]
      exact hQ Y3 a2 S3 (EY.trans (E2.trans E3))
    | succ n ih =>
      intro i hi hp
      have hlt : i < l.length := by omega
      have hne : Nat.beq i p = false := by
        rw [Bool.eq_false_iff]; intro hb
        have := Nat.eq_of_beq_eq_true hb
        omega
      have hy := List.getElem?_eq_getElem hlt
      exact round i _ _ (h3 l i _ p x x.2.2.1 hL hne hy (hrow i _ hy)) (ih (i + 1) (by omega) (by omega))
  have hpl : p < l.length := (List.getElem?_eq_some_iff.1 hpx).1
  have ph2 : ∀ (Y : HS) (a' : Act), StOk B fn.ntmps Y ⟨rg l (p : Int), [.arr gRow l]⟩ a' → ExtN 0 X0 Y → InLoop E.P BODY Q a' Y.w := by
    intro Y a' SY EY
    have ho := SY.heap.obj 0 _ rfl
    have SY' : StOk B fn.ntmps Y ⟨rg l (p : Int), [.hole true gRow l p (.dat gRow x)]⟩ a' := ⟨SY.regs, HRep.swap (n := 0) SY.heap rfl rfl (o' := .hole true gRow l p (.dat gRow x)) (by
      rcases ho with ⟨base, k1, k2⟩ | ⟨b, o, cap, cells, T, fz, k1, k2, k3, k4, k5, k6, k7, k8⟩
      · rw [k2] at hpl; cases hpl
      · refine ⟨b, o, cap, cells, T, fz, k1, k2, k3, k4, k5, k6, k7, rfl, hpl, fun j y hj => ?_⟩
        obtain ⟨cs, c1, c2⟩ := k8 j y hj
        refine ⟨cs, ?_, c2⟩
        cases hb : Nat.beq j p with
        | true =>
          have e := Nat.eq_of_beq_eq_true hb
          subst e
          rw [hpx] at hj
          cases hj
          exact c1
        | false => exact c1), SY.size, SY.defers⟩
    refine round p _ _ (h2 l p x hL hpx (hrow p x hpx)) ?_ Y a' SY' EY
    intro Z a2 SZ EZ
    refine ph3 (l.length - (p + 1)) (p + 1) (by omega) (by omega) Z a2 ⟨SZ.regs, HRep.swap (n := 0) SZ.heap rfl rfl (o' := .hole false gRow l p (mkU x 1)) (show RepO Z 0 (.hole true gRow l p (mkU x 1)) from SZ.heap.obj 0 _ rfl), SZ.size, SZ.defers⟩ EZ
  have ph1 : ∀ (n i : Nat), i + n = p → ∀ (Y : HS) (a' : Act), StOk B fn.ntmps Y ⟨rg l (i : Int), [.arr gRow l]⟩ a' → ExtN 0 X0 Y → InLoop E.P BODY Q a' Y.w := by
    intro n
    induction n with
    | zero =>
      intro i hi Y a' SY EY
      have : i = p := by omega
      subst this
      exact ph2 Y a' SY EY
    | succ n ih =>
      intro i hi
      have hlt : i < l.length := by omega
      have hy := List.getElem?_eq_getElem hlt
      exact round i _ _ (h1 l i _ hL hy (hrow i _ hy)) (ih (i + 1) (by omega))
  exact ph1 p 0 (by omega) X a S EX

theorem told_run {E : Env} (hE : EnvOk E) (hm : E.P.follows .mixedOrders = true) {C : Cfg} {f : Nat} {fn : Func} {cA cB cD cF BODY : Code} {bl : Nat} (kp kx : Option Keep)
    (hf : E.P.funcs[f]? = some fn) (hb : fn.body = some (.seq cA (.seq cB (.seq (.seq cD (.block bl (.loop BODY))) (.seq cF .ret)))))
    (lA : loops cA = []) (lB : loops cB = []) (lD : loops cD = []) (lY : loops BODY = []) (lF : loops cF = []) (hN : Nat.ble 1 fn.ntmps = true)
    (rg : List gRow.ty → Int → List (Nat × SV)) (rx : List (Nat × SV))
    (h0 : ∀ l : List gRow.ty, l.length ≤ LIM → execC E C fn.ntmps 0 cA ⟨[(0, .dat (.sl gRow) l)], []⟩ (fun e s => match e with
      | .normal => execC E C fn.ntmps 0 cB s (fun e s => match e with
        | .normal => execC E C fn.ntmps 0 cD s (stepK kp kx)
        | _ => none)
      | _ => none) = some (.normal, ⟨rg l 0, [.arr gRow l]⟩))
    (h1 : ∀ (l : List gRow.ty) (i : Nat) (x : gRow.ty), l.length ≤ LIM → l[i]? = some x → x.2.2.1.length ≤ LIM → execC E C fn.ntmps 0 BODY ⟨rg l (i : Int), [.arr gRow l]⟩ (stepK kp kx) = some (.normal, ⟨rg l ((i + 1 : Nat) : Int), [.arr gRow l]⟩))
    (h2 : ∀ (l : List gRow.ty) (i : Nat) (x : gRow.ty), l.length ≤ LIM → l[i]? = some x → x.2.2.1.length ≤ LIM → execC E C fn.ntmps 0 BODY ⟨rg l (i : Int), [.hole true gRow l i (.dat gRow x)]⟩ (stepK kp kx) = some (.normal, ⟨rg l ((i + 1 : Nat) : Int), [.hole true gRow l i (mkU x 1), .arr .bool x.2.2.1]⟩))
    (h3 : ∀ (l : List gRow.ty) (i : Nat) (x : gRow.ty) (p : Nat) (y : gRow.ty) (ys : List Bool), l.length ≤ LIM → Nat.beq i p = false → l[i]? = some x → x.2.2.1.length ≤ LIM → execC E C fn.ntmps 0 BODY ⟨rg l (i : Int), [.hole false gRow l p (mkU y 1), .arr .bool ys]⟩ (stepK kp kx) = some (.normal, ⟨rg l ((i + 1 : Nat) : Int), [.hole false gRow l p (mkU y 1), .arr .bool ys]⟩))
    (h4 : ∀ (l : List gRow.ty) (p : Nat) (y : gRow.ty) (ys : List Bool), l.length ≤ LIM → execC E C fn.ntmps 0 BODY ⟨rg l (l.length : Int), [.hole false gRow l p (mkU y 1), .arr .bool ys]⟩ (stepK kp kx) = some (.exit bl, ⟨rx, [.hole false gRow l p (mkU y 1), .arr .bool ys]⟩))
    (h5 : ∀ (l : List gRow.ty) (p : Nat) (y : gRow.ty) (ys : List Bool), execC E C fn.ntmps 0 (.seq cF .ret) ⟨rx, [.hole true gRow l p (mkU y 1), .arr .bool ys]⟩ (finK E.P fn retSt) = some (.own 0, [.hole true gRow l p (mkU y 1), .arr .bool ys])) : TRun E.P f := by
  intro l p x hx B X H vals hv
  have hxx : 0 ≤ p ∧ p < (l.length : Int) ∧ l.length ≤ LIM ∧ (∀ y ∈ l, y.2.2.1.length ≤ LIM) ∧ l[p.toNat]? = some x := by
    unfold tellL at hx
    obtain ⟨h, hx⟩ := asrt_true hx
    simp only [Bool.and_eq_true, decide_eq_true_eq, List.all_eq_true] at h
    exact ⟨h.1.1.1, h.1.1.2, h.1.2, h.2, hx⟩
  obtain ⟨hp0, hp1, hL, hrows, hpx⟩ := hxx
  have hle : 1 ≤ fn.ntmps := Nat.le_of_ble_eq_true hN
  match vals, hv with
  | [val], hv =>
  obtain ⟨hv, _⟩ := hv
  have hX : X.ρ = [] := List.length_eq_zero_iff.1 H.len
  have all : ∀ {Y : HS}, ExtN 0 X Y → Ext X Y := fun h => ExtN.all (by rw [hX]; exact h)
  refine Calls.mono (calls_of_wp (R := fun e w' => ∃ val X' h' v, X'.w = w' ∧ Ext X X' ∧ HRep B X' h' ∧ e = .returned val ∧ Rep X' v .val [val] ∧ retSt v h' = some (.own 0, [.hole true gRow l p.toNat (mkU x 1), .arr .bool x.2.2.1])) hf hb ?_) ?_
  · have S0 : StOk B fn.ntmps X ⟨[(0, .dat (.sl gRow) l)], []⟩ ⟨([val].toArray ++ Array.replicate (fn.ntmps - [val].toArray.size) undef), []⟩ := by
      refine ⟨?_, H, by simp; omega, rfl⟩
      intro u v hl
      simp only [lk] at hl
      cases hbq : Nat.beq 0 u with
      | true =>
        rw [hbq] at hl
        simp only [cond_true, Option.some.injEq] at hl
        subst hl
        rw [← Nat.eq_of_beq_eq_true hbq]
        have e1 : ([val].toArray ++ Array.replicate (fn.ntmps - [val].toArray.size) undef).getD 0 undef = val := by
          rw [Array.getD_eq_getD_getElem?, Array.getElem?_append_left (by simp)]
          simp
        rw [e1]
        exact hv
      | false => rw [hbq] at hl; cases hl
    have hr0 := h0 l hL
    refine wp_seq (execC_sound hE hm cA _ _ _ X _ (lm_none lA) S0 hr0 ?_)
    intro eA sA aA XA SA EA hkA
    cases eA with
    | exit id => cases hkA
    | ret => cases hkA
    | normal =>
    simp only [Exit.then, Ex.exit']
    refine wp_seq (execC_sound hE hm cB _ sA aA XA _ (lm_none lB) SA hkA ?_)
    intro eB sB aB XB SB EB hkB
    cases eB with
    | exit id => cases hkB
    | ret => cases hkB
    | normal =>
    simp only [Exit.then, Ex.exit']
    refine wp_seq (wp_seq (execC_sound hE hm cD _ sB aB XB _ (lm_none lD) SB hkB ?_))
    intro eD sD aD XD SD ED hkD
    unfold stepK at hkD
    obtain ⟨sD', XD', ew, SD', ED', hkD'⟩ := canonK_sound SD hkD
    obtain ⟨rfl, rfl⟩ := Prod.mk.inj (Option.some.inj hkD')
    simp only [Exit.then, Ex.exit']
    have E0 : ExtN 0 X XD' := EA.trans (EB.trans (ED.trans ED'))
    rw [← ew]
    -- after the loop
    have post : ∀ (Y : HS) (a' : Act), StOk B fn.ntmps Y ⟨rx, [.hole false gRow l p.toNat (mkU x 1), .arr .bool x.2.2.1]⟩ a' → ExtN 0 X Y →
        (Code.seq cF .ret).wp E.P (bodyPost E.P fn fun e w' => ∃ val X' h' v, X'.w = w' ∧ Ext X X' ∧ HRep B X' h' ∧ e = .returned val ∧ Rep X' v .val [val] ∧ retSt v h' = some (.own 0, [.hole true gRow l p.toNat (mkU x 1), .arr .bool x.2.2.1])) a' Y.w := by
      intro Y a' SY EY
      have SY' : StOk B fn.ntmps Y ⟨rx, [.hole true gRow l p.toNat (mkU x 1), .arr .bool x.2.2.1]⟩ a' := ⟨SY.regs, HRep.swap (n := 0) SY.heap rfl rfl (o' := .hole true gRow l p.toNat (mkU x 1)) (show RepO Y 0 (.hole false gRow l p.toNat (mkU x 1)) from SY.heap.obj 0 _ rfl), SY.size, SY.defers⟩
      refine execC_sound hE hm (.seq cF .ret) _ _ a' Y _ (lm_none (by simp [loops, lF])) SY' (h5 l p.toNat x x.2.2.1) ?_
      intro e s' a2 X2 S2 E2 hk2
      cases e with
      | normal => exact finK_post hX S2 (EY.trans E2) (e := .ret) rfl hk2
      | exit id => cases hk2
      | ret => exact finK_post hX S2 (EY.trans E2) (e := .ret) rfl hk2
    refine wp_block (loop_of_in (told_loop hE hm kp kx lY rg rx h1 h2 h3 h4 hL hrows hpx (fun Y a' SY EY => ?_) SD' E0))
    simp only [Exit.inBlock, if_true, Exit.then]
    exact post Y a' SY EY
  · rintro e w' ⟨val, X', h', v, rfl, h1, h2, rfl, h3, h4⟩
    obtain ⟨rfl, rfl⟩ := Prod.mk.inj (Option.some.inj h4)
    exact ⟨val, X', rfl, h1, h2, rfl, h3⟩

/-! ### The pieces of such a function -/

def toldA (fn : Func) : Code := match fn.body with | some (.seq a _) => a | _ => .skip
def toldB (fn : Func) : Code := match fn.body with | some (.seq _ (.seq b _)) => b | _ => .skip
def toldD (fn : Func) : Code := match fn.body with | some (.seq _ (.seq _ (.seq (.seq d _) _))) => d | _ => .skip
def toldY (fn : Func) : Code := match fn.body with | some (.seq _ (.seq _ (.seq (.seq _ (.block _ (.loop y))) _))) => y | _ => .skip
def toldF (fn : Func) : Code := match fn.body with | some (.seq _ (.seq _ (.seq _ (.seq f _)))) => f | _ => .skip

theorem set_id {α : Type} {l : List α} {i : Nat} {x : α} (h : l[i]? = some x) : List.set l i x = l := by
  obtain ⟨h1, h2⟩ := List.getElem?_eq_some_iff.1 h
  rw [← h2]
  exact List.set_getElem_self h1

theorem wrap_nat {i : Nat} (h : i < 9223372036854775807) : IntKind.i64.wrap ((i : Int) + 1) = ((i + 1 : Nat) : Int) := by
  have : IntKind.i64.wrap ((i : Int) + 1) = (i : Int) + 1 := wrapI (by omega) (by omega)
  rw [this]; omega

end Go.Eng
