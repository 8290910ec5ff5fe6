/- The engine, part 33: contracts of functions that read through pointers. -/
import Derived.Test.YtondjihmmjjinaaE32
namespace Go.Eng
open Go
set_option linter.unusedVariables false
set_option linter.unusedSimpArgs false

/-- The arguments of a function that reads through some of them. -/
def datP : List Bool → (gs : List GT) → tyL gs → List SV
  | _, [], _ => []
  | true :: ps, g :: gs, x => .rd g x.1 :: datP ps gs x.2
  | false :: ps, g :: gs, x => .dat g x.1 :: datP ps gs x.2
  | [], g :: gs, x => .dat g x.1 :: datP [] gs x.2

/-- What a pointer points to, read as plain data. -/
def readA (h : List SO) (v : SV) (g : GT) : Option g.ty :=
  match v with
  | .box n path off => (match nth h n with
    | some (.box c) => bif Nat.beq (SV.off path c) off then (match SV.sub path c with
      | some u => coe h u g
      | none => none) else none
    | _ => none)
  | .rd g' x => castD g' g x
  | _ => none

/-- The objects that are looked at through a pointer. -/
def seesA (h : List SO) (v : SV) : List Nat :=
  match v with
  | .box n path off => n :: (match nth h n with
    | some (.box c) => (match SV.sub path c with
      | some u => u.owns
      | none => [])
    | _ => [])
  | _ => []

def readL (h : List SO) : List Bool → List SV → (gs : List GT) → Option (tyL gs)
  | _, [], [] => some ()
  | true :: ps, v :: l, g :: gs => (match readA h v g with
    | some x => (match readL h ps l gs with
      | some xs => some (x, xs)
      | none => none)
    | none => none)
  | false :: ps, v :: l, g :: gs => (match rdV h v g with
    | some x => (match readL h ps l gs with
      | some xs => some (x, xs)
      | none => none)
    | none => none)
  | _, _, _ => none

def seesL (h : List SO) : List Bool → List SV → List Nat
  | true :: ps, v :: l => seesA h v ++ seesL h ps l
  | false :: ps, v :: l => v.owns ++ seesL h ps l
  | _, _ => []

/-- A function that reads through pointers; its result is flat. -/
def entryP (f : Nat) (ps : List Bool) (gs : List GT) (many : Bool) (g : GT) (model : tyL gs → Option g.ty) : PmE :=
  ⟨f, fun args h => bif g.flat then (match readL h ps args gs with
    | some xs => some ⟨many, g, model xs⟩
    | none => none) else none⟩

/-- A function that reads through pointers; its result is a fresh slice of flat data. -/
def entryF (f : Nat) (ps : List Bool) (gs : List GT) (t : GT) (model : tyL gs → Option (List t.ty)) : PmE :=
  ⟨f, fun args h => bif t.flat then (match readL h ps args gs with
    | some xs => some ⟨false, .sl t, model xs⟩
    | none => none) else none⟩

theorem readA_app {h : List SO} (r : List SO) {v : SV} {g : GT} {x : g.ty} (hc : readA h v g = some x) : readA (h ++ r) v g = some x := by
  unfold readA at hc ⊢
  split at hc
  · split at hc
    · rename_i c hn
      rw [nth_app hn]
      simp only
      obtain ⟨h1, hc⟩ := bif_some hc
      split at hc
      · rename_i u hu
        simp only [h1, cond_true, hu]
        exact coe_app r u g x hc
      · cases hc
    · cases hc
  · exact hc
  · cases hc

theorem readL_app {h : List SO} (r : List SO) : ∀ (ps : List Bool) (l : List SV) (gs : List GT) (xs : tyL gs), readL h ps l gs = some xs → readL (h ++ r) ps l gs = some xs
  | _, [], [], xs, hc => by
    unfold readL at hc ⊢
    exact hc
  | true :: ps, v :: l, g :: gs, xs, hc => by
    simp only [readL] at hc ⊢
    split at hc
    · rename_i x hx
      split at hc
      · rename_i ys hys
        rw [readA_app r hx, readL_app r ps l gs ys hys]
        exact hc
      · cases hc
    · cases hc
  | false :: ps, v :: l, g :: gs, xs, hc => by
    simp only [readL] at hc ⊢
    split at hc
    · rename_i x hx
      split at hc
      · rename_i ys hys
        rw [rdV_app r hx, readL_app r ps l gs ys hys]
        exact hc
      · cases hc
    · cases hc
  | [], _ :: _, _ :: _, xs, hc => by cases hc
  | [], [], _ :: _, xs, hc => by cases hc
  | [], _ :: _, [], xs, hc => by cases hc
  | true :: _, _ :: _, [], xs, hc => by cases hc
  | false :: _, _ :: _, [], xs, hc => by cases hc
  | true :: _, [], _ :: _, xs, hc => by cases hc
  | false :: _, [], _ :: _, xs, hc => by cases hc

/-- A pointer into an object is a pointer to plain data. -/
theorem readA_rep {B : Base} {X : HS} {h : List SO} (H : HRep B X h) {v : SV} {g : GT} {x : g.ty} {val : Value} (hc : readA h v g = some x) (hr : Rep X v .val [val])
    (Y : HS) (hY : ∀ b, okS X h (seesA h v) b → Y.Ok b) (hw : Y.w = X.w) : Rep Y (.rd g x) .val [val] := by
  unfold readA at hc
  split at hc
  · rename_i n path off
    split at hc
    · rename_i c hn
      obtain ⟨h1, hc⟩ := bif_some hc
      split at hc
      · rename_i u hu
        have e1 := Nat.eq_of_beq_eq_true h1
        obtain ⟨b, hb, hv⟩ := hr
        obtain ⟨b', cs0, T, k1, k2, k3⟩ := H.obj n _ hn
        rw [k1] at hb
        cases hb
        cases hv
        obtain ⟨j1, j2⟩ := sub_rep path c u cs0 k3 hu
        have hd := coe_rep H u g x _ hc j2
        have hsee : seesA h (.box n path off) = n :: u.owns := by simp only [seesA, hn, hu]
        rw [hsee] at hY
        refine ⟨⟨b, off, none⟩, _, RepD_mono (fun b hb => hY b (okS_mono (fun m hm => List.mem_cons_of_mem _ hm) b hb)) (fun _ _ => by rw [hw]) g x _ hd, rfl, rfl, hY b (.inr ⟨n, _, List.mem_cons_self .., hn, rfl, by simp [blkOf, k1, Value.blk]⟩), ?_⟩
        intro j w hj
        rw [List.getElem?_take] at hj
        split at hj
        · rw [List.getElem?_drop, e1] at hj
          show cellAt Y.w.heap b (off + j) = some w
          rw [hw]
          simp only [cellAt, k2, List.getElem?_toArray]
          exact hj
        · cases hj
      · cases hc
    · cases hc
  · obtain ⟨e, rfl⟩ := castD_some hc
    cases e
    obtain ⟨a, cs, k1, k2, k3, k4, k5⟩ := hr
    refine ⟨a, cs, RepD_mono (fun b hb => hY b (.inl hb)) (fun _ _ => by rw [hw]) _ _ cs k1, k2, k3, hY _ (.inl k4), fun j w hj => ?_⟩
    rw [hw]
    exact k5 j w hj
  · cases hc

theorem readL_rep {B : Base} {X : HS} {h : List SO} (H : HRep B X h) : ∀ (ps : List Bool) (l : List SV) (gs : List GT) (xs : tyL gs) (vals : List Value), readL h ps l gs = some xs → RepL X l vals →
    ∀ (Y : HS), (∀ b, okS X h (seesL h ps l) b → Y.Ok b) → Y.w = X.w → RepL Y (datP ps gs xs) vals
  | ps, [], [], xs, vals, hc, hr, Y, _, _ => by
    match vals, hr with
    | [], _ => unfold datP; trivial
  | true :: ps, v :: l, g :: gs, xs, vals, hc, hr, Y, hY, hw => by
    simp only [readL] at hc
    split at hc
    · rename_i x hx
      split at hc
      · rename_i ys hys
        have hc := Option.some.inj hc
        subst hc
        match vals, hr with
        | val :: vals, hr =>
          exact ⟨readA_rep H hx hr.1 Y (fun b hb => hY b (okS_mono (fun n hn => List.mem_append_left _ hn) b hb)) hw,
            readL_rep H ps l gs ys vals hys hr.2 Y (fun b hb => hY b (okS_mono (fun n hn => List.mem_append_right _ hn) b hb)) hw⟩
      · cases hc
    · cases hc
  | false :: ps, v :: l, g :: gs, xs, vals, hc, hr, Y, hY, hw => by
    simp only [readL] at hc
    split at hc
    · rename_i x hx
      split at hc
      · rename_i ys hys
        have hc := Option.some.inj hc
        subst hc
        match vals, hr with
        | val :: vals, hr =>
          obtain ⟨cs, k1, k2⟩ := rdV_rep H hx hr.1
          refine ⟨⟨cs, ?_, by rw [k2]⟩, readL_rep H ps l gs ys vals hys hr.2 Y (fun b hb => hY b (okS_mono (fun n hn => List.mem_append_right _ hn) b hb)) hw⟩
          rw [hw]
          exact RepD_mono (fun b hb => hY b (okS_mono (fun n hn => List.mem_append_left _ hn) b hb)) (fun _ _ => rfl) g x cs k1
      · cases hc
    · cases hc
  | [], _ :: _, _ :: _, xs, vals, hc, _, _, _, _ => by cases hc
  | [], [], _ :: _, xs, vals, hc, _, _, _, _ => by cases hc
  | [], _ :: _, [], xs, vals, hc, _, _, _, _ => by cases hc
  | true :: _, _ :: _, [], xs, vals, hc, _, _, _, _ => by cases hc
  | false :: _, _ :: _, [], xs, vals, hc, _, _, _, _ => by cases hc
  | true :: _, [], _ :: _, xs, vals, hc, _, _, _, _ => by cases hc
  | false :: _, [], _ :: _, xs, vals, hc, _, _, _, _ => by cases hc

/-- What a run on fixed memory comes to, for the caller. -/
theorem sealed_run {P : Program} {f : Nat} {ps : List Bool} {gs : List GT} {A : Type} {ret : SV → List SO → Option A} {xs : tyL gs} {a : A} {args : List SV} {h : List SO} {B : Base} {X : HS} (H : HRep B X h) {vals : List Value} (hvals : RepL X args vals) (hxs : readL h ps args gs = some xs)
    (hrun : ∀ (B : Base) (Y : HS), HRep B Y [] → RepL Y (datP ps gs xs) vals → Calls P f vals.toArray Y.w fun e w' => ∃ val X' h' v, X'.w = w' ∧ Ext Y X' ∧ HRep B X' h' ∧ e = .returned val ∧ Rep X' v .val [val] ∧ ret v h' = some a)
    {res : PRes} {x : res.g.ty}
    (hres : ∀ (X' : HS) (h' : List SO) (v : SV) (val : Value) (S : Nat → Prop), HRep ⟨X.w, fun _ => False, okS X h (seesL h ps args)⟩ X' h' → Rep X' v .val [val] → ret v h' = some a → (∀ b, okS X' h' v.owns b → X.w.heap.size ≤ b → S b) → Rep ⟨X.ρ, fun b => X.Ok b ∨ S b, X'.w⟩ (toRes res.many res.g x) .val [val]) :
    Calls P f vals.toArray X.w fun e w' => ∃ val X', X'.w = w' ∧ Ext X X' ∧ HRep B X' h ∧ e = .returned val ∧ Rep X' (toRes res.many res.g x) .val [val] := by
  have H0 : HRep ⟨X.w, fun _ => False, okS X h (seesL h ps args)⟩ ⟨[], okS X h (seesL h ps args), X.w⟩ [] := by
    refine ⟨rfl, ?_, ?_, ?_, ?_, ?_, fun _ hb => hb, fun _ hb => .inl hb, rfl, rfl, rfl, Nat.le_refl _, fun _ _ _ => rfl⟩
    · intro n o hn; simp [nth_eq] at hn
    · intro n m o o' hn; simp [nth_eq] at hn
    · intro n o hn; simp [nth_eq] at hn
    · rintro b (hb | ⟨n, o, _, h2, h3, h4⟩)
      · exact H.okLt b hb
      · exact H.lt h2 h3 h4
    · intro n o b hn; simp [nth_eq] at hn
  have ha := readL_rep H ps args gs xs vals hxs hvals ⟨[], okS X h (seesL h ps args), X.w⟩ (fun _ hb => hb) rfl
  refine (hrun _ _ H0 ha).mono ?_
  rintro e w' ⟨val, X', h', v, rfl, _, H', rfl, hv, hk⟩
  have hlt : ∀ n o b, nth h n = some o → o.live = true → blkOf X n = some b → b < X.w.heap.size := fun n o b hn hl hb => H.lt hn hl hb
  have hfr : ∀ b : Nat, b < X.w.heap.size → X'.w.heap[b]? = X.w.heap[b]? := fun b hb => H'.fr b hb (fun h => h)
  obtain ⟨H1, E1⟩ := H.world (w' := X'.w) H'.os H'.tape H'.out H'.size (fun b hb => hfr b (H.okLt b hb)) (fun n o b hn hl hb => hfr b (hlt n o b hn hl hb)) (fun b hb _ => hfr b (Nat.lt_of_lt_of_le hb H.size))
  obtain ⟨H2, E2⟩ := H1.okMore (fun b => okS X' h' v.owns b ∧ X.w.heap.size ≤ b) (fun b hb => by
    rcases hb.1 with hb | ⟨n, o, _, h2, h3, h4⟩
    · exact H'.okLt b hb
    · exact H'.lt h2 h3 h4) (fun b hb => .inr (Nat.le_trans H.size hb.2)) (fun n o hn hl b hb hS => by
    have h1 := hlt n o b hn hl hb
    have h2 := hS.2
    omega)
  exact ⟨val, ⟨X.ρ, fun b => X.Ok b ∨ (okS X' h' v.owns b ∧ X.w.heap.size ≤ b), X'.w⟩, rfl, E1.trans E2, H2, rfl, hres X' h' v val (fun b => okS X' h' v.owns b ∧ X.w.heap.size ≤ b) H' hv hk (fun b h1 h2 => ⟨h1, h2⟩)⟩

theorem pmP_ok {E : Env} (hE : EnvOk E) (hm : E.P.follows .mixedOrders = true) {C : Cfg} {f : Nat} {fn : Func} {ps : List Bool} {gs : List GT} {many : Bool} {g : GT} {model : tyL gs → Option g.ty}
    (hlm : ∀ c, fn.body = some c → LmOk E C fn.ntmps c) (hf : E.P.funcs[f]? = some fn) (hc : callable E.P f) (heq : ∀ xs, execF E C fn (datP ps gs xs) [] (retK many g) = model xs) : PmOk E.P (entryP f ps gs many g model) := by
  constructor
  · intro args h res x hr hx
    simp only [entryP] at hr ⊢
    obtain ⟨hflat, hr⟩ := bif_some hr
    split at hr
    · rename_i xs hxs
      simp only [Option.some.injEq] at hr
      subst hr
      simp only at hx x ⊢
      refine ⟨hc, fun B X H vals hvals => sealed_run (res := ⟨many, g, model xs⟩) (x := x) (ret := retK many g) (a := x) H hvals hxs (fun B Y HY hv => execF_sound hE hm hlm hf ((heq xs).trans hx) HY hv) ?_⟩
      intro X' h' v val S H' hv hk hS
      have conv : ∀ (g' : GT) (y : g'.ty) cs, (g.flat = true → g'.flat = true) → RepD (okS X' h' v.owns) X'.w.heap g' y cs → RepD (fun b => X.Ok b ∨ S b) X'.w.heap g' y cs := by
        intro g' y cs hg hd
        exact RepD_flat g' y cs (hg hflat) hd
      unfold retK at hk
      cases many with
      | true =>
        simp only [cond_true] at hk
        split at hk
        · rename_i l
          obtain ⟨us, h1, h2⟩ := hv
          exact ⟨us, coeT_rep H' l g x us hk h1 _ conv, h2⟩
        · cases hk
      | false =>
        simp only [cond_false] at hk
        obtain ⟨cs, h1, h2⟩ := rdV_rep H' hk hv
        exact ⟨cs, conv g x cs (fun e => e) h1, by rw [h2]⟩
    · cases hr
  · intro args h res l hr
    simp only [entryP] at hr ⊢
    obtain ⟨hflat, hr⟩ := bif_some hr
    split at hr
    · rename_i xs hxs
      rw [hflat, readL_app l _ _ _ _ hxs]
      exact hr
    · cases hr

theorem pmF_ok {E : Env} (hE : EnvOk E) (hm : E.P.follows .mixedOrders = true) {C : Cfg} {f : Nat} {fn : Func} {ps : List Bool} {gs : List GT} {t : GT} {model : tyL gs → Option (List t.ty)}
    (hlm : ∀ c, fn.body = some c → LmOk E C fn.ntmps c) (hf : E.P.funcs[f]? = some fn) (hc : callable E.P f) (heq : ∀ xs, execF E C fn (datP ps gs xs) [] (retOwn t) = model xs) : PmOk E.P (entryF f ps gs t model) := by
  constructor
  · intro args h res x hr hx
    simp only [entryF] at hr ⊢
    obtain ⟨hflat, hr⟩ := bif_some hr
    split at hr
    · rename_i xs hxs
      simp only [Option.some.injEq] at hr
      subst hr
      simp only at hx x ⊢
      refine ⟨hc, fun B X H vals hvals => sealed_run (res := ⟨false, .sl t, model xs⟩) (x := x) (ret := retOwn t) (a := x) H hvals hxs (fun B Y HY hv => execF_sound hE hm hlm hf ((heq xs).trans hx) HY hv) ?_⟩
      intro X' h' v val S H' hv hret hS
      have e0 : toRes false (.sl t) x = .dat (.sl t) x := rfl
      show Rep _ (toRes false (.sl t) x) .val [val]
      rw [e0]
      have emp : ∀ base, val = .slice base 0 0 → x = [] → Rep ⟨X.ρ, fun b => X.Ok b ∨ S b, X'.w⟩ (.dat (.sl t) x) .val [val] := by
        intro base e1 e2
        subst e1
        subst e2
        exact ⟨_, ⟨base, 0, rfl, Nat.le_refl _, fun _ => rfl, RowRep_emp⟩, by simp [mkV, GT.isAgg]⟩
      unfold retOwn at hret
      split at hret
      · have hv' : val = .slice none 0 0 := by simpa [Rep] using hv
        exact emp none hv' (Option.some.inj hret).symm
      · obtain ⟨base, hv'⟩ := hv
        simp only [List.cons.injEq, and_true] at hv'
        exact emp base hv' (Option.some.inj hret).symm
      · rename_i n
        split at hret
        · rename_i g xs' hn
          obtain ⟨eg, ex⟩ := castD_some hret
          cases eg
          cases ex
          obtain ⟨v0, q1, q2, q3⟩ := hv
          simp only [List.cons.injEq, and_true] at q2
          subst q2
          rcases H'.obj n _ hn with ⟨base, k1, k2⟩ | ⟨b, o, cap, cells, T, fz, k1, k2, k3, k4, k5, k6, k7, k8⟩
          · rw [q1] at k1
            cases k1
            exact emp base rfl k2
          · rw [q1] at k1
            cases k1
            have hblk : blkOf X' n = some b := by
              obtain ⟨c, rfl⟩ : ∃ c, cap = c + 1 := ⟨cap - 1, by omega⟩
              simp [blkOf, q1, Value.blk]
            have hge : X.w.heap.size ≤ b := by
              rcases H'.ownNew n _ b hn rfl hblk with h1 | h1
              · exact h1.elim
              · exact h1
            refine ⟨_, ⟨some ⟨b, o, none⟩, cap, rfl, k5, (fun e => by cases e), ?_⟩, by simp [mkV, GT.isAgg]⟩
            intro i y hy
            obtain ⟨cs, c1, c2⟩ := k8 i y hy
            refine ⟨cs, RepD_flat t y cs hflat c1, fun _ => ⟨.inr (hS b (.inr ⟨n, _, by simp [SV.owns], hn, rfl, hblk⟩) hge), rfl⟩, fun j w hj => ?_⟩
            simp only [cellAt, k3]
            exact c2 j w hj
        · cases hret
      · cases hret
    · cases hr
  · intro args h res l hr
    simp only [entryF] at hr ⊢
    obtain ⟨hflat, hr⟩ := bif_some hr
    split at hr
    · rename_i xs hxs
      rw [hflat, readL_app l _ _ _ _ hxs]
      exact hr
    · cases hr

end Go.Eng
