/- The engine, part 24: contracts on plain data. -/
import Derived.Test.YtondjihmmjjinaaE23
namespace Go.Eng
open Go
set_option linter.unusedVariables false
set_option linter.unusedSimpArgs false

def tyL : List GT → Type
  | [] => Unit
  | g :: gs => g.ty × tyL gs

def datL : (gs : List GT) → tyL gs → List SV
  | [], _ => []
  | g :: gs, x => .dat g x.1 :: datL gs x.2

def coeL (h : List SO) : List SV → (gs : List GT) → Option (tyL gs)
  | [], [] => some ()
  | v :: l, g :: gs => match rdV h v g with
    | some x => (match coeL h l gs with
      | some xs => some (x, xs)
      | none => none)
    | none => none
  | _, _ => none

/-- Several results, read as plain data. -/
def coeT (h : List SO) : SV → (g : GT) → Option g.ty
  | .snil, .nil => some ()
  | .scons a b, .cons ga gb => match rdV h a ga with
    | some x => (match coeT h b gb with
      | some y => some (x, y)
      | none => none)
    | none => none
  | _, _ => none

/-- The result, read as plain data. -/
def retK (many : Bool) (g : GT) : Kont g.ty := fun v h => bif many then (match v with
  | .tup l => coeT h l g
  | _ => none) else rdV h v g

/-- A function that is taken by a contract. -/
structure PmE where
  f : Nat
  run : List SV → List SO → Option PRes

def entry (f : Nat) (gs : List GT) (many : Bool) (g : GT) (model : tyL gs → Option g.ty) : PmE :=
  ⟨f, fun args h => bif Nat.beq (ownsAll args).length 0 || g.flat then (match coeL h args gs with
    | some xs => some ⟨many, g, model xs⟩
    | none => none) else none⟩

def findE : List PmE → Nat → Option PmE
  | [], _ => none
  | e :: l, f => bif Nat.beq e.f f then some e else findE l f

def hasE : List PmE → Nat → Bool
  | [], _ => false
  | e :: l, f => bif Nat.beq e.f f then true else hasE l f

def runE (l : List PmE) (f : Nat) (args : List SV) (h : List SO) : Option PRes :=
  match findE l f with
  | some e => e.run args h
  | none => none

def mkEnv (P : Program) (l : List PmE) : Env := ⟨P, hasE l, runE l, fun _ _ _ _ _ => none, fun _ => false, fun _ => false, fun _ _ _ _ _ _ => none⟩

structure PmOk (P : Program) (e : PmE) : Prop where
  sound : ∀ args h res x, e.run args h = some res → res.m = some x → callable P e.f ∧
    ∀ B X, HRep B X h → ∀ vals, RepL X args vals → Calls P e.f vals.toArray X.w fun e w' => ∃ val X', X'.w = w' ∧ Ext X X' ∧ HRep B X' h ∧ e = .returned val ∧ Rep X' (toRes res.many res.g x) .val [val]
  mono : ∀ args h res l, e.run args h = some res → e.run args (h ++ l) = some res

theorem findE_some : ∀ {l : List PmE} {f : Nat} {e : PmE}, findE l f = some e → e ∈ l ∧ e.f = f
  | [], f, e, h => by simp [findE] at h
  | a :: l, f, e, h => by
    simp only [findE] at h
    cases hb : Nat.beq a.f f with
    | true =>
      rw [hb] at h
      simp only [cond_true, Option.some.injEq] at h
      subst h
      exact ⟨by simp, Nat.eq_of_beq_eq_true hb⟩
    | false =>
      rw [hb] at h
      obtain ⟨h1, h2⟩ := findE_some h
      exact ⟨by simp [h1], h2⟩

theorem mkEnv_ok {P : Program} {l : List PmE} (hl : ∀ e ∈ l, PmOk P e) : EnvOk (mkEnv P l) := by
  have key : ∀ {f args h res}, runE l f args h = some res → ∃ e ∈ l, e.f = f ∧ findE l f = some e ∧ e.run args h = some res := by
    intro f args h res hr
    unfold runE at hr
    split at hr
    · rename_i e he
      obtain ⟨h1, h2⟩ := findE_some he
      exact ⟨e, h1, h2, he, hr⟩
    · cases hr
  refine ⟨?_, ?_, ?_, ?_, (fun _ _ _ _ _ ho => by cases ho), (fun _ _ _ _ _ _ _ hk => by cases hk), fun _ _ _ _ _ _ => rfl⟩
  · intro f args h res x _ hr hx
    obtain ⟨e, h1, rfl, _, h3⟩ := key hr
    exact (hl e h1).sound args h res x h3 hx
  · intro R f args h K r hk
    cases hk
  · intro f args h res m _ hr
    obtain ⟨e, h1, rfl, h2, h3⟩ := key hr
    show runE l e.f args (h ++ m) = some res
    unfold runE
    rw [h2]
    exact (hl e h1).mono args h res m h3
  · intro R f args h K
    rfl

/-! ### Reading is the same in a longer heap -/

theorem coe_app {h : List SO} (r : List SO) : ∀ (v : SV) (g : GT) (x : g.ty), coe h v g = some x → coe (h ++ r) v g = some x
  | .dat g' y, g, x, hc => hc
  | .nils, g, x, hc => by cases g <;> exact hc
  | .emp, g, x, hc => by cases g <;> exact hc
  | .own n, g, x, hc => by
    cases g <;> simp only [coe] at hc ⊢ <;> try (cases hc; done)
    split at hc
    · rename_i g' xs hn
      rw [nth_app hn]
      exact hc
    · cases hc
  | .vw n g2 lo len, g, x, hc => by
    cases g <;> simp only [coe] at hc ⊢ <;> try (cases hc; done)
    split at hc
    · rename_i g' xs hn
      rw [nth_app hn]
      exact hc
    · cases hc
  | .agg l, g, x, hc => by
    simp only [coe] at hc ⊢
    exact coe_app r l g x hc
  | .scons a b, g, x, hc => by
    cases g <;> simp only [coe] at hc ⊢ <;> try (cases hc; done)
    rename_i ga gb
    split at hc
    · rename_i y hy
      split at hc
      · rename_i z hz
        rw [coe_app r a ga y hy, coe_app r b gb z hz]
        exact hc
      · cases hc
    · cases hc
  | .snil, g, x, hc => by cases g <;> exact hc
  | .nilp, g, x, hc => by cases g <;> simp [coe] at hc
  | .nilm, g, x, hc => by cases g <;> simp [coe] at hc
  | .nilfn, g, x, hc => by cases g <;> simp [coe] at hc
  | .nsl _ _, g, x, hc => by cases g <;> exact hc
  | .box _ _ _, g, x, hc => by cases g <;> simp [coe] at hc
  | .el _ _ _ _ _, g, x, hc => by cases g <;> simp [coe] at hc
  | .rd _ _, g, x, hc => by cases g <;> simp [coe] at hc
  | .mp _, g, x, hc => by cases g <;> simp [coe] at hc
  | .fn _ _, g, x, hc => by cases g <;> simp [coe] at hc
  | .tup _, g, x, hc => by cases g <;> simp [coe] at hc

theorem rdV_app {h : List SO} (r : List SO) {v : SV} {g : GT} {x : g.ty} (hc : rdV h v g = some x) : rdV (h ++ r) v g = some x := by
  unfold rdV at hc ⊢
  obtain ⟨h1, h2⟩ := bif_some hc
  rw [h1, coe_app r v g x h2]
  rfl

theorem coeL_app {h : List SO} (r : List SO) : ∀ (l : List SV) (gs : List GT) (xs : tyL gs), coeL h l gs = some xs → coeL (h ++ r) l gs = some xs
  | [], [], xs, hc => hc
  | v :: l, g :: gs, xs, hc => by
    simp only [coeL] at hc ⊢
    split at hc
    · rename_i x hx
      split at hc
      · rename_i ys hys
        rw [rdV_app r hx, coeL_app r l gs ys hys]
        exact hc
      · cases hc
    · cases hc
  | [], _ :: _, xs, hc => by cases hc
  | _ :: _, [], xs, hc => by cases hc

/-- A value that may stand in a variable, read as plain data. -/
theorem coeL_rep {B : Base} {X : HS} {h : List SO} (H : HRep B X h) : ∀ (l : List SV) (gs : List GT) (xs : tyL gs) (vals : List Value), coeL h l gs = some xs → RepL X l vals →
    ∀ (Y : HS), (∀ b, okS X h (ownsAll l) b → Y.Ok b) → Y.w = X.w → RepL Y (datL gs xs) vals
  | [], [], xs, vals, _, hr, Y, _, _ => by
    match vals, hr with
    | [], _ => trivial
  | v :: l, g :: gs, xs, vals, hc, hr, Y, hY, hw => by
    simp only [coeL] at hc
    split at hc
    · rename_i x hx
      split at hc
      · rename_i ys hys
        have hc := Option.some.inj hc
        subst hc
        match vals, hr with
        | val :: vals, hr =>
          obtain ⟨cs, k1, k2⟩ := rdV_rep H hx hr.1
          refine ⟨⟨cs, ?_, by rw [k2]⟩, coeL_rep H l gs ys vals hys hr.2 Y (fun b hb => hY b (okS_mono (by simp [ownsAll]; exact fun n hn => .inr hn) b hb)) hw⟩
          rw [hw]
          exact RepD_mono (fun b hb => hY b (okS_mono (by simp [ownsAll]; exact fun n hn => .inl hn) b hb)) (fun _ _ => rfl) g x cs k1
      · cases hc
    · cases hc
  | [], _ :: _, xs, vals, hc, _, _, _, _ => by cases hc
  | _ :: _, [], xs, vals, hc, _, _, _, _ => by cases hc

theorem coeT_rep {B : Base} {X : HS} {h : List SO} (H : HRep B X h) : ∀ (l : SV) (g : GT) (x : g.ty) (us : List Value), coeT h l g = some x → Rep X l .vals us →
    ∀ (Y : HS), (∀ (g' : GT) (y : g'.ty) cs, (g.flat = true → g'.flat = true) → RepD (okS X h l.owns) X.w.heap g' y cs → RepD Y.Ok Y.w.heap g' y cs) → Rep Y (parts g x) .vals us
  | .snil, .nil, x, us, _, hr, Y, _ => by
    simp only [Rep] at hr
    subst hr
    rfl
  | .scons a b, .cons ga gb, x, us, hc, hr, Y, hY => by
    simp only [coeT] at hc
    split at hc
    · rename_i y hy
      split at hc
      · rename_i z hz
        simp only [Option.some.injEq] at hc
        subst hc
        obtain ⟨v, c2, rfl, h1, h2⟩ := hr
        obtain ⟨cs, k1, k2⟩ := rdV_rep H hy h1
        refine ⟨v, c2, rfl, ⟨cs, ?_, by rw [k2]⟩, coeT_rep H b gb z c2 hz h2 Y ?_⟩
        · refine hY ga y cs (fun hf => ?_) (RepD_mono (fun b hb => okS_mono (by simp [SV.owns]; exact fun n hn => .inl hn) b hb) (fun _ _ => rfl) ga y cs k1)
          simp only [GT.flat, Bool.and_eq_true] at hf
          exact hf.1
        · intro g' y' cs' hf hd
          refine hY g' y' cs' (fun hf' => hf ?_) (RepD_mono (fun b hb => okS_mono (by simp [SV.owns]; exact fun n hn => .inr hn) b hb) (fun _ _ => rfl) g' y' cs' hd)
          simp only [GT.flat, Bool.and_eq_true] at hf'
          exact hf'.2
      · cases hc
    · cases hc
  | .snil, .int _, x, us, hc, _, _, _ => by simp [coeT] at hc
  | .snil, .bool, x, us, hc, _, _, _ => by simp [coeT] at hc
  | .snil, .str, x, us, hc, _, _, _ => by simp [coeT] at hc
  | .snil, .cons _ _, x, us, hc, _, _, _ => by simp [coeT] at hc
  | .snil, .sl _, x, us, hc, _, _, _ => by simp [coeT] at hc
  | .snil, .opq, x, us, hc, _, _, _ => by simp [coeT] at hc
  | .scons _ _, .int _, x, us, hc, _, _, _ => by simp [coeT] at hc
  | .scons _ _, .bool, x, us, hc, _, _, _ => by simp [coeT] at hc
  | .scons _ _, .str, x, us, hc, _, _, _ => by simp [coeT] at hc
  | .scons _ _, .nil, x, us, hc, _, _, _ => by simp [coeT] at hc
  | .scons _ _, .sl _, x, us, hc, _, _, _ => by simp [coeT] at hc
  | .scons _ _, .opq, x, us, hc, _, _, _ => by simp [coeT] at hc
  | .dat _ _, g, x, us, hc, _, _, _ => by simp [coeT] at hc
  | .nils, g, x, us, hc, _, _, _ => by simp [coeT] at hc
  | .emp, g, x, us, hc, _, _, _ => by simp [coeT] at hc
  | .nilp, g, x, us, hc, _, _, _ => by simp [coeT] at hc
  | .nilm, g, x, us, hc, _, _, _ => by simp [coeT] at hc
  | .nilfn, g, x, us, hc, _, _, _ => by simp [coeT] at hc
  | .nsl _ _, g, x, us, hc, _, _, _ => by simp [coeT] at hc
  | .box _ _ _, g, x, us, hc, _, _, _ => by simp [coeT] at hc
  | .el _ _ _ _ _, g, x, us, hc, _, _, _ => by simp [coeT] at hc
  | .rd _ _, g, x, us, hc, _, _, _ => by simp [coeT] at hc
  | .own _, g, x, us, hc, _, _, _ => by simp [coeT] at hc
  | .mp _, g, x, us, hc, _, _, _ => by simp [coeT] at hc
  | .fn _ _, g, x, us, hc, _, _, _ => by simp [coeT] at hc
  | .agg _, g, x, us, hc, _, _, _ => by simp [coeT] at hc
  | .tup _, g, x, us, hc, _, _, _ => by simp [coeT] at hc

/-- A function's typed run is a contract. -/
theorem pm_ok {E : Env} (hE : EnvOk E) (hm : E.P.follows .mixedOrders = true) {C : Cfg} {f : Nat} {fn : Func} {gs : List GT} {many : Bool} {g : GT} {model : tyL gs → Option g.ty}
    (hlm : ∀ c, fn.body = some c → LmOk E C fn.ntmps c) (hf : E.P.funcs[f]? = some fn) (hc : callable E.P f) (heq : ∀ xs, execF E C fn (datL gs xs) [] (retK many g) = model xs) : PmOk E.P (entry f gs many g model) := by
  constructor
  · intro args h res x hr hx
    simp only [entry] at hr ⊢
    obtain ⟨hflat, hr⟩ := bif_some hr
    split at hr
    · rename_i xs hxs
      simp only [Option.some.injEq] at hr
      subst hr
      simp only at hx x ⊢
      refine ⟨hc, fun B X H vals hvals => ?_⟩
      have H0 : HRep ⟨X.w, fun _ => False, okS X h (ownsAll args)⟩ ⟨[], okS X h (ownsAll args), X.w⟩ [] := by
        refine ⟨rfl, ?_, ?_, ?_, ?_, ?_, fun _ hb => hb, fun _ hb => .inl hb, rfl, rfl, rfl, Nat.le_refl _, fun _ _ _ => rfl⟩
        · intro n o hn; simp [nth_eq] at hn
        · intro n m o o' hn; simp [nth_eq] at hn
        · intro n o hn; simp [nth_eq] at hn
        · rintro b (hb | ⟨n, o, _, h2, h3, h4⟩)
          · exact H.okLt b hb
          · exact H.lt h2 h3 h4
        · intro n o b hn; simp [nth_eq] at hn
      have ha := coeL_rep H args gs xs vals hxs hvals ⟨[], okS X h (ownsAll args), X.w⟩ (fun _ hb => hb) rfl
      refine (execF_sound hE hm hlm hf ((heq xs).trans hx) H0 ha).mono ?_
      rintro e w' ⟨val, X', h', v, rfl, _, H', rfl, hv, hk⟩
      -- the caller's view of the end
      have hlt : ∀ n o b, nth h n = some o → o.live = true → blkOf X n = some b → b < X.w.heap.size := fun n o b hn hl hb => H.lt hn hl hb
      have hfr : ∀ b : Nat, b < X.w.heap.size → X'.w.heap[b]? = X.w.heap[b]? := fun b hb => H'.fr b hb (fun h => h)
      obtain ⟨H1, E1⟩ := H.world (w' := X'.w) H'.os H'.tape H'.out H'.size (fun b hb => hfr b (H.okLt b hb)) (fun n o b hn hl hb => hfr b (hlt n o b hn hl hb)) (fun b hb _ => hfr b (Nat.lt_of_lt_of_le hb H.size))
      have S0 : ∀ ns, ∃ S : Nat → Prop, (∀ b, S b → b < X'.w.heap.size) ∧ (∀ b, S b → X.w.heap.size ≤ b) ∧ (∀ b, okS X' h' ns b → b < X.w.heap.size ∨ S b) := by
        intro ns
        refine ⟨fun b => okS X' h' ns b ∧ X.w.heap.size ≤ b, ?_, fun b hb => hb.2, fun b hb => ?_⟩
        · rintro b ⟨hb | ⟨n, o, _, h2, h3, h4⟩, _⟩
          · exact H'.okLt b hb
          · exact H'.lt h2 h3 h4
        · rcases Nat.lt_or_ge b X.w.heap.size with hlt | hge
          · exact .inl hlt
          · exact .inr ⟨hb, hge⟩
      obtain ⟨S, s1, s2, s3⟩ := S0 v.owns
      obtain ⟨H2, E2⟩ := H1.okMore S s1 (fun b hb => .inr (Nat.le_trans H.size (s2 b hb))) (fun n o hn hl b hb hS => by
        have h1 := hlt n o b hn hl hb
        have h2 := s2 b hS
        omega)
      -- what is known to be fixed, of the result
      have hok : ownsAll args = [] → ∀ b, okS X' h' v.owns b → X.Ok b ∨ S b := by
        intro e b hb
        have hold : b < X.w.heap.size → X.Ok b := by
          intro hb'
          rcases hb with hb | ⟨n, o, _, h2, h3, h4⟩
          · rcases H'.okNew b hb with (h1 | ⟨n, o, h1, _⟩) | h1 | h1
            · exact h1
            · rw [e] at h1; cases h1
            · simp only at h1; omega
            · exact h1.elim
          · rcases H'.ownNew n o b h2 h3 h4 with h1 | h1
            · exact h1.elim
            · simp only at h1; omega
        rcases s3 b hb with h1 | h1
        · exact .inl (hold h1)
        · exact .inr h1
      have conv : ∀ (g' : GT) (y : g'.ty) cs, (g.flat = true → g'.flat = true) → RepD (okS X' h' v.owns) X'.w.heap g' y cs → RepD (fun b => X.Ok b ∨ S b) X'.w.heap g' y cs := by
        intro g' y cs hg hd
        simp only [Bool.or_eq_true, Nat.beq_eq, List.length_eq_zero_iff] at hflat
        rcases hflat with e | e
        · exact RepD_mono (hok e) (fun _ _ => rfl) g' y cs hd
        · exact RepD_flat g' y cs (hg e) hd
      refine ⟨val, ⟨X.ρ, fun b => X.Ok b ∨ S b, X'.w⟩, rfl, E1.trans E2, H2, rfl, ?_⟩
      unfold retK at hk
      cases many with
      | true =>
        simp only [cond_true] at hk
        split at hk
        · rename_i l
          obtain ⟨us, h1, h2⟩ := hv
          exact ⟨us, coeT_rep H' l g x us hk h1 _ conv, h2⟩
        · cases hk
      | false =>
        simp only [cond_false] at hk
        obtain ⟨cs, h1, h2⟩ := rdV_rep H' hk hv
        exact ⟨cs, conv g x cs (fun e => e) h1, by rw [h2]⟩
    · cases hr
  · intro args h res l hr
    simp only [entry] at hr ⊢
    obtain ⟨hflat, hr⟩ := bif_some hr
    split at hr
    · rename_i xs hxs
      rw [hflat, coeL_app l _ _ _ hxs]
      exact hr
    · cases hr

end Go.Eng
