/- The engine, part 29: functions that return a slice of their own making. -/
import Derived.Test.YtondjihmmjjinaaE28
import Derived.Lib.SliceRun
namespace Go.Eng
open Go
set_option linter.unusedVariables false
set_option linter.unusedSimpArgs false

/-- The result, read as the elements of a slice of the call's own. -/
def retOwn (t : GT) (v : SV) (h : List SO) : Option (List t.ty) :=
  match v with
  | .nils => some []
  | .emp => some []
  | .own n => match nth h n with
    | some (.arr g xs) => castL g t xs
    | _ => none
  | _ => none

/-- A function of plain data that returns a slice of its own: the caller may write into it. -/
def ownE (f : Nat) (gs : List GT) (t : GT) (model : tyL gs → Option (List t.ty)) : CmE :=
  ⟨f, fun R args h K => bif Nat.beq (ownsAll args).length 0 || t.flat then (match coeL h args gs with
    | some xs => (model xs).bind fun ys => K (.own h.length) (h ++ [.arr t ys])
    | none => none) else none, true⟩

/-- What a call on plain data comes to. -/
def FRun (P : Program) (f : Nat) (gs : List GT) {A : Type} (ret : SV → List SO → Option A) (model : tyL gs → Option A) : Prop :=
  ∀ (xs : tyL gs) (a : A), model xs = some a → ∀ (B : Base) (X : HS), HRep B X [] → ∀ vals, RepL X (datL gs xs) vals →
    Calls P f vals.toArray X.w fun e w' => ∃ val X' h' v, X'.w = w' ∧ Ext X X' ∧ HRep B X' h' ∧ e = .returned val ∧ Rep X' v .val [val] ∧ ret v h' = some a

theorem frun_of {E : Env} (hE : EnvOk E) (hm : E.P.follows .mixedOrders = true) {C : Cfg} {f : Nat} {fn : Func} {gs : List GT} {A : Type} {ret : SV → List SO → Option A} {model : tyL gs → Option A}
    (hlm : ∀ c, fn.body = some c → LmOk E C fn.ntmps c) (hf : E.P.funcs[f]? = some fn) (heq : ∀ xs, execF E C fn (datL gs xs) [] ret = model xs) : FRun E.P f gs ret model := by
  intro xs a ha B X H vals hv
  exact execF_sound hE hm hlm hf ((heq xs).trans ha) H hv

theorem coeL_free {h h2 : List SO} : ∀ (args : List SV) (gs : List GT), ownsAll args = [] → coeL h2 args gs = coeL h args gs
  | [], [], _ => rfl
  | [], _ :: _, _ => rfl
  | _ :: _, [], _ => rfl
  | v :: l, g :: gs, hn => by
    simp only [ownsAll, List.append_eq_nil_iff] at hn
    simp only [coeL]
    simp only [rdV]
    rw [coe_free (h2 := h) v g hn.1, coeL_free (h := h) l gs hn.2]

theorem own_ok {P : Program} {f : Nat} {gs : List GT} {t : GT} {model : tyL gs → Option (List t.ty)} (hc : callable P f) (hr : FRun P f gs (retOwn t) model) : CmOk P (ownE f gs t model) := by
  constructor
  · intro R args h K r hk
    simp only [ownE] at hk ⊢
    obtain ⟨hflat, hk⟩ := bif_some hk
    split at hk
    · rename_i xs hxs
      obtain ⟨ys, hys, hk⟩ := Option.bind_eq_some_iff.1 hk
      refine ⟨hc, fun B X H vals hvals => ?_⟩
      have H0 : HRep ⟨X.w, fun _ => False, okS X h (ownsAll args)⟩ ⟨[], okS X h (ownsAll args), X.w⟩ [] := by
        refine ⟨rfl, ?_, ?_, ?_, ?_, ?_, fun _ hb => hb, fun _ hb => .inl hb, rfl, rfl, rfl, Nat.le_refl _, fun _ _ _ => rfl⟩
        · intro n o hn; simp [nth_eq] at hn
        · intro n m o o' hn; simp [nth_eq] at hn
        · intro n o hn; simp [nth_eq] at hn
        · rintro b (hb | ⟨n, o, _, h2, h3, h4⟩)
          · exact H.okLt b hb
          · exact H.lt h2 h3 h4
        · intro n o b hn; simp [nth_eq] at hn
      have ha := coeL_rep H args gs xs vals hxs hvals ⟨[], okS X h (ownsAll args), X.w⟩ (fun _ hb => hb) rfl
      refine (hr xs ys hys _ _ H0 vals ha).mono ?_
      rintro e w' ⟨val, X', h', v, rfl, _, H', rfl, hv, hret⟩
      have hlt : ∀ n o b, nth h n = some o → o.live = true → blkOf X n = some b → b < X.w.heap.size := fun n o b hn hl hb => H.lt hn hl hb
      have hfr : ∀ b : Nat, b < X.w.heap.size → X'.w.heap[b]? = X.w.heap[b]? := fun b hb => H'.fr b hb (fun h => h)
      obtain ⟨H1, E1⟩ := H.world (w' := X'.w) H'.os H'.tape H'.out H'.size (fun b hb => hfr b (H.okLt b hb)) (fun n o b hn hl hb => hfr b (hlt n o b hn hl hb)) (fun b hb _ => hfr b (Nat.lt_of_lt_of_le hb H.size))
      -- what is fixed, of the callee's
      obtain ⟨H2, E2⟩ := H1.okMore (fun b => X'.Ok b ∧ X.w.heap.size ≤ b) (fun b hb => H'.okLt b hb.1) (fun b hb => .inr (Nat.le_trans H.size hb.2)) (fun n o hn hl b hb hS => by
        have h1 := hlt n o b hn hl hb
        have h2 := hS.2
        omega)
      have hrow : ∀ (n : Nat) (cs : List Value) (y : t.ty), RepD X'.Ok X'.w.heap t y cs → RepD (fun b => X.Ok b ∨ (X'.Ok b ∧ X.w.heap.size ≤ b)) X'.w.heap t y cs := by
        intro _ cs y hd
        simp only [Bool.or_eq_true, Nat.beq_eq, List.length_eq_zero_iff] at hflat
        rcases hflat with e | e
        · refine RepD_mono (fun b hb => ?_) (fun _ _ => rfl) t y cs hd
          rcases Nat.lt_or_ge b X.w.heap.size with hl | hg
          · rcases H'.okNew b hb with (h1 | ⟨n, o, h1, _⟩) | h1 | h1
            · exact .inl h1
            · rw [e] at h1; cases h1
            · simp only at h1; omega
            · exact h1.elim
          · exact .inr ⟨hb, hg⟩
        · exact RepD_flat t y cs e hd
      let Y : Value → HS := fun u => ⟨X.ρ ++ [u], fun b => X.Ok b ∨ (X'.Ok b ∧ X.w.heap.size ≤ b), X'.w⟩
      unfold retOwn at hret
      split at hret
      · have hv' : val = .slice none 0 0 := by simpa [Rep] using hv
        subst hv'
        have : ys = [] := (Option.some.inj hret).symm
        subst this
        obtain ⟨H3, E3⟩ := H2.adopt (val := .slice none 0 0) (o := .arr t []) (fun b _ hb => by simp [Value.blk] at hb) (.inl ⟨none, new_rep H2.len _, rfl⟩)
        exact ⟨_, Y (.slice none 0 0), _, .own h.length, rfl, (E1.trans E2).trans E3, H3, rfl, ⟨_, new_rep H2.len _, rfl, rfl⟩, hk⟩
      · obtain ⟨base, hv'⟩ := hv
        simp only [List.cons.injEq, and_true] at hv'
        subst hv'
        have : ys = [] := (Option.some.inj hret).symm
        subst this
        obtain ⟨H3, E3⟩ := H2.adopt (val := .slice base 0 0) (o := .arr t []) (fun b _ hb => by cases base <;> simp [Value.blk] at hb) (.inl ⟨base, new_rep H2.len _, rfl⟩)
        exact ⟨_, Y (.slice base 0 0), _, .own h.length, rfl, (E1.trans E2).trans E3, H3, rfl, ⟨_, new_rep H2.len _, rfl, rfl⟩, hk⟩
      · rename_i n
        split at hret
        · rename_i g xs' hn
          obtain ⟨eg, ex⟩ := castD_some hret
          cases eg
          cases ex
          obtain ⟨v0, q1, q2, q3⟩ := hv
          simp only [List.cons.injEq, and_true] at q2
          subst q2
          have hob := H'.obj n _ hn
          have hblk : blkOf X' n = val.blk := by simp [blkOf, q1]
          have hfresh : ∀ b, val.blk = some b → X.w.heap.size ≤ b := by
            intro b hb
            rcases H'.ownNew n _ b hn rfl (by rw [hblk]; exact hb) with h1 | h1
            · exact h1.elim
            · exact h1
          obtain ⟨H3, E3⟩ := H2.adopt (val := val) (o := .arr _ xs') (fun b _ hb => by
            have hge := hfresh b hb
            refine ⟨?_, .inr (Nat.le_trans H.size hge), ?_⟩
            · rintro (h1 | h1)
              · have := H.okLt b h1; omega
              · exact H'.sep n _ hn rfl b (by rw [hblk]; exact hb) h1.1
            · intro m o' hm hl hb'
              have := hlt m o' b hm hl hb'
              omega) (by
            rcases hob with ⟨base, k1, k2⟩ | ⟨b, o, cap, cells, T, fz, k1, k2, k3, k4, k5, k6, k7⟩
            · rw [q1] at k1
              exact .inl ⟨base, by rw [new_rep H2.len]; exact k1, k2⟩
            · rw [q1] at k1
              refine .inr ⟨b, o, cap, cells, T, fz, by rw [new_rep H2.len]; exact k1, k2, k3, k4, k5, k6, k7.1, ?_⟩
              intro i y hi
              obtain ⟨cs, c1, c2⟩ := k7.2 i y hi
              exact ⟨cs, hrow 0 cs y c1, c2⟩)
          exact ⟨_, Y val, _, .own h.length, rfl, (E1.trans E2).trans E3, H3, rfl, ⟨_, new_rep H2.len _, rfl, q3⟩, hk⟩
        · cases hret
      · cases hret
    · cases hk
  · intro R args h K
    simp only [ownE]
    rw [cond_bind]
    congr 1
    split
    · rw [Option.bind_assoc]; rfl
    · rfl
  · intro _ args h v h' hn hr
    simp only [ownE] at hr ⊢
    obtain ⟨hc, hr⟩ := bif_some hr
    split at hr
    · rename_i xs hxs
      obtain ⟨ys, hys, hr⟩ := Option.bind_eq_some_iff.1 hr
      obtain ⟨rfl, rfl⟩ := pinj hr
      refine ⟨t, ys, rfl, rfl, fun h2 => ?_⟩
      rw [hc, coeL_free (h := h) args gs hn, hxs]
      simp only [cond_true, hys, Option.bind_some]
      rfl
    · cases hr

/-- What slices.Clone answers. -/
def cloneM {α : Type} (xs : List α) : Option (List α) := asrt true (decide (xs.length ≤ LIM)) (some xs)

/-! ### slices.Clone: it tells nil from empty, and makes a slice of its own -/

/-- The end of a function's code. -/
def finK {A : Type} (P : Program) (fn : Func) (ret : SV → List SO → Option A) : Ex → St → Option A := fun e s => match e with
  | .exit _ => none
  | _ => resK P fn.results.toList s ret

def cloneRest {A : Type} (E : Env) (fn : Func) (c2 c3 : Code) (ret : SV → List SO → Option A) (s : St) : Option A :=
  execC E noCfg fn.ntmps 0 (.cond (.tmp 4) c2 .skip) s fun e s' => match e with
    | .normal => execC E noCfg fn.ntmps 0 c3 s' (finK E.P fn ret)
    | e => finK E.P fn ret e s'

def emptyE (P : Program) : Env := mkEnv2 P [] []
theorem emptyE_ok {P : Program} : EnvOk (emptyE P) := mkEnv2_ok (by simp) (by simp)

theorem finK_post {A : Type} {P : Program} {fn : Func} {ret : SV → List SO → Option A} {r : A} {B : Base} {X0 X' : HS} {s' : St} {a' : Act} (h0 : X0.ρ = []) (hs' : StOk B fn.ntmps X' s' a') (hxn : ExtN 0 X0 X') : ∀ {e : Ex}, e = .ret → finK P fn ret e s' = some r →
    bodyPost P fn (fun e w' => ∃ val X' h' v, X'.w = w' ∧ Ext X0 X' ∧ HRep B X' h' ∧ e = .returned val ∧ Rep X' v .val [val] ∧ ret v h' = some r) .ret a' X'.w := by
  intro e he hr
  subst he
  have hx : Ext X0 X' := ExtN.all (by rw [h0]; exact hxn)
  refine ⟨hs'.defers, ?_⟩
  simp only [finK] at hr
  unfold resK at hr
  split at hr
  · rename_i v hv
    obtain ⟨rval, h1, h2⟩ := resVs_rep hs'.heap hs'.regs _ _ hv
    refine ⟨_, results_run rval h2, _, X', s'.heap, v, rfl, hx, hs'.heap, rfl, ?_, hr⟩
    match hl : fn.results.toList.map rval with
    | [y] => rw [hl] at h1; exact h1.1
    | [] => rw [hl] at h1; exact h1.elim
    | _ :: _ :: _ => rw [hl] at h1; exact h1.2.elim
  · rename_i vs hne hv
    obtain ⟨rval, h1, h2⟩ := resVs_rep hs'.heap hs'.regs _ _ hv
    refine ⟨_, results_run rval h2, _, X', s'.heap, _, rfl, hx, hs'.heap, rfl, ?_, hr⟩
    have hl := RepL_len h1
    rw [if_neg (fun e => by
      rw [e] at hl
      match vs, hl with
      | [v], _ => exact hne v rfl)]
    exact ⟨_, ofL_vals h1, rfl⟩
  · cases hr

theorem clone_run {P : Program} (hmx : P.follows .mixedOrders = true) {f : Nat} {fn : Func} {t t' tb tm e : TypeId} {g : GT} {i0 i1 : Nat} {o0 : Array Oper} {c2 c3 : Code} {ps pm : String} {ed em : Array Edge}
    (hf : P.funcs[f]? = some fn) (ht : P.underlying t = some (.slice e))
    (hb : fn.body = some (.seq (.region i0 o0 false) (.seq (.seq (.region i1 #[⟨some 3, .move (.tmp 0), tm, pm, em, none⟩, ⟨some 4, .binOp .eql t (.tmp 3) (.const (.slice none 0 0)) t', tb, ps, ed, none⟩] false) (.cond (.tmp 4) c2 .skip)) c3)))
    (hN : Nat.ble 5 fn.ntmps = true)
    (h0 : ∀ x : List g.ty, regionK (emptyE P) fn.ntmps o0.toList false ⟨[(0, .dat (.sl g) x)], []⟩ some = some ⟨[(2, .nils), (0, .dat (.sl g) x)], []⟩)
    (h1 : cloneRest (emptyE P) fn c2 c3 (retOwn g) ⟨[(4, .dat .bool true), (2, .nils), (0, .dat (.sl g) [])], []⟩ = some [])
    (h2 : ∀ x : List g.ty, cloneRest (emptyE P) fn c2 c3 (retOwn g) ⟨[(4, .dat .bool false), (2, .nils), (0, .dat (.sl g) x)], []⟩ = asrt true (decide (x.length ≤ LIM)) (some x)) :
    FRun P f [.sl g] (retOwn g) (fun x => cloneM x.1) := by
  intro xs ys hys B X H vals hv
  have hle : 5 ≤ fn.ntmps := Nat.le_of_ble_eq_true hN
  match vals, hv with
  | [val], hv =>
  obtain ⟨hv, _⟩ := hv
  have hX : X.ρ = [] := List.length_eq_zero_iff.1 H.len
  refine calls_of_wp hf hb ?_
  have S0 : StOk B fn.ntmps X ⟨[(0, .dat (.sl g) xs.1)], []⟩ ⟨([val].toArray ++ Array.replicate (fn.ntmps - [val].toArray.size) undef), []⟩ := by
    refine ⟨?_, H, by simp; omega, rfl⟩
    intro u v hl
    simp only [lk] at hl
    cases hbq : Nat.beq 0 u with
    | true =>
      rw [hbq] at hl
      simp only [cond_true, Option.some.injEq] at hl
      subst hl
      rw [← Nat.eq_of_beq_eq_true hbq]
      have e1 : ([val].toArray ++ Array.replicate (fn.ntmps - [val].toArray.size) undef).getD 0 undef = val := by
        rw [Array.getD_eq_getD_getElem?, Array.getElem?_append_left (by simp)]
        simp
      rw [e1]
      exact hv
    | false => rw [hbq] at hl; cases hl
  refine wp_seq (regionK_sound emptyE_ok hmx S0 (h0 xs.1) ?_)
  intro s1 a1 X1 S1 E1 hs1
  cases hs1
  simp only [Exit.then]
  refine wp_seq (wp_seq ?_)
  apply wp_region_list
  unfold wpList
  rw [if_pos (by simp [Region.wanted])]
  left
  have r0 := S1.regs 0 (.dat (.sl g) xs.1) rfl
  have r2 := S1.regs 2 .nils rfl
  generalize hv0 : a1.tmps.getD 0 undef = v0 at r0
  obtain ⟨cs, hd, e0⟩ := r0
  simp only [RepD] at hd
  obtain ⟨base, cap, rfl, hcap, hnil, hrow⟩ := hd
  have e0 : v0 = .slice base (List.length xs.1) cap := by simpa [mkV, GT.isAgg] using e0
  subst e0
  -- the copy into slot 3
  unfold Oper.wp
  have ex : execOp a1.eval ⟨some 3, .move (.tmp 0), tm, pm, em, none⟩ = (do pure (.value (← (pure (a1.eval (.tmp 0)) : Sem Value)))) := rfl
  rw [ex]
  simp only [Sem.run_bind, Sem.run_pure, Result.andThen_ok, Oper.upon]
  unfold wpList
  rw [if_pos (by simp [Region.wanted])]
  left
  have h3s : 3 < a1.tmps.size := by rw [S1.size]; omega
  have g3 : (a1.put (some 3) (a1.eval (.tmp 0))).tmps.getD 3 undef = .slice base (List.length xs.1) cap := by
    rw [put_get h3s, if_pos rfl]
    exact hv0
  unfold Oper.wp
  have ex2 : execOp (a1.put (some 3) (a1.eval (.tmp 0))).eval ⟨some 4, .binOp .eql t (.tmp 3) (.const (.slice none 0 0)) t', tb, ps, ed, none⟩ =
      (do pure (.value (← (do eqGuard .eql t (.tmp 3) (.const (.slice none 0 0)) (.slice base (List.length xs.1) cap) (.slice none 0 0); binOp .eql t (.slice base (List.length xs.1) cap) (.slice none 0 0) : Sem Value)))) := by
    rw [← g3]
    rfl
  have hrun : ((do eqGuard .eql t (.tmp 3) (.const (.slice none 0 0)) (.slice base (List.length xs.1) cap) (.slice none 0 0); binOp .eql t (.slice base (List.length xs.1) cap) (.slice none 0 0) : Sem Value)).run P X1.w = .ok (.bool base.isNone) X1.w := by
    have e3 : (eqGuard .eql t (.tmp 3) (.const (.slice none 0 0)) (.slice base (List.length xs.1) cap) (.slice none 0 0)).run P X1.w = .ok () X1.w := rfl
    simp only [Sem.run_bind, e3, Result.andThen_ok]
    exact Lib.run_eql_slice_nil X1.w t e base _ _ _ _ ht
  rw [ex2]
  simp only [Sem.run_bind, hrun, Sem.run_pure, Result.andThen_ok, Oper.upon]
  unfold wpList
  have fin : ∀ x : List g.ty, Rep X1 (.dat (.sl g) x) .val [.slice base (List.length xs.1) cap] → cloneRest (emptyE P) fn c2 c3 (retOwn g) ⟨[(4, .dat .bool base.isNone), (2, .nils), (0, .dat (.sl g) x)], []⟩ = some ys →
      (Code.cond (.tmp 4) c2 .skip).wp P (Exit.then (c3.wp P (bodyPost P fn fun e w' => ∃ val X' h' v, X'.w = w' ∧ Ext X X' ∧ HRep B X' h' ∧ e = .returned val ∧ Rep X' v .val [val] ∧ retOwn g v h' = some ys)) (bodyPost P fn fun e w' => ∃ val X' h' v, X'.w = w' ∧ Ext X X' ∧ HRep B X' h' ∧ e = .returned val ∧ Rep X' v .val [val] ∧ retOwn g v h' = some ys))
        ((a1.put (some 3) (a1.eval (.tmp 0))).put (some 4) (.bool base.isNone)) X1.w := by
    intro x hx hk
    have S2 : StOk B fn.ntmps X1 ⟨[(4, .dat .bool base.isNone), (2, .nils), (0, .dat (.sl g) x)], []⟩ ((a1.put (some 3) (a1.eval (.tmp 0))).put (some 4) (.bool base.isNone)) := by
      refine ⟨?_, S1.heap, by rw [put_size', put_size']; exact S1.size, by rw [put_defers', put_defers']; exact S1.defers⟩
      intro u v hl
      have h4s : 4 < (a1.put (some 3) (a1.eval (.tmp 0))).tmps.size := by rw [put_size', S1.size]; omega
      rw [put_get h4s]
      simp only [lk] at hl
      by_cases c4 : 4 = u
      · subst c4
        simp only [Nat.beq_refl, cond_true, Option.some.injEq] at hl
        subst hl
        rw [if_pos rfl]
        exact bool_rep
      · rw [if_neg (fun e => c4 e.symm), put_get h3s]
        have b4 : Nat.beq 4 u = false := by rw [Bool.eq_false_iff]; intro h; exact c4 (Nat.eq_of_beq_eq_true h)
        rw [b4] at hl
        by_cases c2' : 2 = u
        · subst c2'
          simp only [Nat.beq_refl, cond_true, cond_false, Option.some.injEq] at hl
          subst hl
          exact r2
        · have b2 : Nat.beq 2 u = false := by rw [Bool.eq_false_iff]; intro h; exact c2' (Nat.eq_of_beq_eq_true h)
          rw [b2] at hl
          by_cases c0 : 0 = u
          · subst c0
            simp only [Nat.beq_refl, cond_true, cond_false, Option.some.injEq] at hl
            subst hl
            rw [if_neg (by omega), hv0]
            exact hx
          · have b0 : Nat.beq 0 u = false := by rw [Bool.eq_false_iff]; intro h; exact c0 (Nat.eq_of_beq_eq_true h)
            rw [b0] at hl
            cases hl
    refine execC_sound emptyE_ok hmx (N := fn.ntmps) (H := 0) (C := noCfg) _ _ _ _ X1 _ noCfg_lm S2 hk ?_
    intro ee s' a' X' S' hxn hk'
    have EX : ExtN 0 X X' := (ExtN.of E1).trans hxn
    cases ee with
    | normal =>
      simp only [Exit.then, Ex.exit']
      refine execC_sound emptyE_ok hmx (N := fn.ntmps) (H := 0) (C := noCfg) _ _ _ _ X' _ noCfg_lm S' hk' ?_
      intro e2 s'' a'' X'' S'' hxn2 hk2
      cases e2 with
      | normal => exact finK_post hX S'' (EX.trans hxn2) (e := .ret) rfl hk2
      | exit id => cases hk2
      | ret => exact finK_post hX S'' (EX.trans hxn2) (e := .ret) rfl hk2
    | exit id => cases hk'
    | ret => exact finK_post hX S' EX (e := .ret) rfl hk'
  cases base with
  | none =>
    have hxs : xs.1 = [] := hrow
    have hy : ys = [] := by
      simp only [cloneM, hxs, asrt, List.length_nil] at hys
      exact (Option.some.inj hys).symm
    subst hy
    refine fin [] ?_ h1
    rw [hxs]
    exact ⟨_, ⟨none, cap, rfl, by simp, hnil, rfl⟩, by simp [mkV, GT.isAgg]⟩
  | some b =>
    refine fin xs.1 ?_ ((h2 xs.1).trans hys)
    exact ⟨_, ⟨some b, cap, rfl, hcap, hnil, hrow⟩, by simp [mkV, GT.isAgg]⟩

end Go.Eng
