/- The engine, part 38: code with regions whose run is shown by hand. -/
import Derived.Test.YtondjihmmjjinaaE37
namespace Go.Eng
open Go
set_option linter.unusedVariables false
set_option linter.unusedSimpArgs false

/-- What is known of some regions by hand. -/
def SP := Nat → Option ((R : Type) → St → (St → Option R) → Option R)

def execS {R : Type} (E : Env) (C : Cfg) (N H : Nat) (sp : SP) : Code → St → (Ex → St → Option R) → Option R
  | .region id ops draw, s, k => match sp id with
    | some f => f R s (k .normal)
    | none => execC E C N H (.region id ops draw) s k
  | .seq a b, s, k => execS E C N H sp a s fun e s' => match e with
    | .normal => bif isRegion a then execS E C N H sp b s' k else canonK (C.keep (keyOf b)) H s' fun s'' => execS E C N H sp b s'' k
    | e => k e s'
  | .cond c a b, s, k => (match getB s c with
    | some t => bif t then execS E C N H sp a s k else execS E C N H sp b s k
    | none => none)
  | .block id a, s, k => execS E C N H sp a s fun e s' => match e with
    | .exit i => bif Nat.beq i id then k .normal s' else k (.exit i) s'
    | e => k e s'
  | .exit id, s, k => k (.exit id) s
  | .skip, s, k => k .normal s
  | _, _, _ => none

def regionsOf : Code → List Code
  | .seq a b => regionsOf a ++ regionsOf b
  | .cond _ a b => regionsOf a ++ regionsOf b
  | .block _ a => regionsOf a
  | .region id ops draw => [.region id ops draw]
  | _ => []

structure SpOk (E : Env) (N H : Nat) (sp : SP) (c : Code) : Prop where
  sound : ∀ id ops draw f, Code.region id ops draw ∈ regionsOf c → sp id = some f → ∀ (R : Type) (B : Base) (s : St) (k : St → Option R) (r : R) (a : Act) (X : HS) (Q : Exit → Act → World → Prop), StOk B N X s a → f R s k = some r →
    (∀ s' a' X', StOk B N X' s' a' → ExtN H X X' → k s' = some r → Q .normal a' X'.w) → (Code.region id ops draw).wp E.P Q a X.w
  nat : ∀ id f, sp id = some f → ∀ (R S : Type) (g : S → Option R) (s : St) (k : St → Option S), f R s (fun s' => (k s').bind g) = (f S s k).bind g

theorem execS_sound {E : Env} (hE : EnvOk E) (hm : E.P.follows .mixedOrders = true) {R : Type} {B : Base} {C : Cfg} {N H : Nat} {sp : SP} {r : R} : ∀ (c : Code) (k : Ex → St → Option R) (s : St) (a : Act) (X : HS) (Q : Exit → Act → World → Prop),
    SpOk E N H sp c → StOk B N X s a → execS E C N H sp c s k = some r → (∀ e s' a' X', StOk B N X' s' a' → ExtN H X X' → k e s' = some r → Q e.exit' a' X'.w) → c.wp E.P Q a X.w
  | .skip, k, s, a, X, Q, hsp, hs, h, hq => wp_skip (hq .normal s a X hs (.refl _ _) h)
  | .region id ops draw, k, s, a, X, Q, hsp, hs, h, hq => by
    simp only [execS] at h
    split at h
    · rename_i f hf
      exact hsp.sound id ops draw f (by simp [regionsOf]) hf R B s _ r a X Q hs h (fun s' a' X' h1 h2 h3 => hq .normal s' a' X' h1 h2 h3)
    · exact execC_sound hE hm _ k s a X Q (fun b hb => by simp [loops] at hb) hs h hq
  | .seq x y, k, s, a, X, Q, hsp, hs, h, hq => by
    have h1 : SpOk E N H sp x := ⟨fun id ops draw f hm => hsp.sound id ops draw f (by simp [regionsOf, hm]), hsp.nat⟩
    have h2 : SpOk E N H sp y := ⟨fun id ops draw f hm => hsp.sound id ops draw f (by simp [regionsOf, hm]), hsp.nat⟩
    simp only [execS] at h
    refine wp_seq (execS_sound hE hm x _ s a X _ h1 hs h ?_)
    intro e s' a' X' hs' hx' hk'
    cases e with
    | normal =>
      simp only at hk'
      cases hr : isRegion x with
      | true =>
        rw [hr] at hk'
        exact execS_sound hE hm y k s' a' X' Q h2 hs' hk' (fun e s'' a'' X'' h1 h2 h3 => hq e s'' a'' X'' h1 (hx'.trans h2) h3)
      | false =>
        rw [hr] at hk'
        simp only [cond_false] at hk'
        obtain ⟨s1, X1, e1, hs1, hx1, hc1⟩ := canonK_sound hs' hk'
        simp only [Exit.then, Ex.exit']
        rw [← e1]
        exact execS_sound hE hm y k s1 a' X1 Q h2 hs1 hc1 (fun e s'' a'' X'' h2 h3 h4 => hq e s'' a'' X'' h2 (hx'.trans (hx1.trans h3)) h4)
    | exit id => exact hq (.exit id) s' a' X' hs' hx' hk'
    | ret => exact hq .ret s' a' X' hs' hx' hk'
  | .cond c x y, k, s, a, X, Q, hsp, hs, h, hq => by
    have h1 : SpOk E N H sp x := ⟨fun id ops draw f hm => hsp.sound id ops draw f (by simp [regionsOf, hm]), hsp.nat⟩
    have h2 : SpOk E N H sp y := ⟨fun id ops draw f hm => hsp.sound id ops draw f (by simp [regionsOf, hm]), hsp.nat⟩
    simp only [execS] at h
    split at h
    · rename_i t ht
      refine wp_cond (getB_eval hs.regs ht) ?_
      cases t with
      | true => exact execS_sound hE hm x k s a X Q h1 hs h hq
      | false => exact execS_sound hE hm y k s a X Q h2 hs h hq
    · cases h
  | .block id c, k, s, a, X, Q, hsp, hs, h, hq => by
    have h1 : SpOk E N H sp c := ⟨fun id ops draw f hm => hsp.sound id ops draw f (by simp [regionsOf, hm]), hsp.nat⟩
    simp only [execS] at h
    refine wp_block (execS_sound hE hm c _ s a X _ h1 hs h ?_)
    intro e s' a' X' hs' hx' hk'
    cases e with
    | normal => exact hq .normal s' a' X' hs' hx' hk'
    | exit i =>
      simp only at hk'
      simp only [Ex.exit', Exit.inBlock]
      cases hb : Nat.beq i id with
      | true =>
        rw [hb] at hk'
        rw [if_pos (Nat.eq_of_beq_eq_true hb)]
        exact hq .normal s' a' X' hs' hx' hk'
      | false =>
        rw [hb] at hk'
        rw [if_neg (fun e => by subst e; simp at hb)]
        exact hq (.exit i) s' a' X' hs' hx' hk'
    | ret => exact hq .ret s' a' X' hs' hx' hk'
  | .exit id, k, s, a, X, Q, hsp, hs, h, hq => wp_exit (hq (.exit id) s a X hs (.refl _ _) h)
  | .loop _, k, s, a, X, Q, hsp, hs, h, hq => by simp [execS] at h
  | .ret, k, s, a, X, Q, hsp, hs, h, hq => by simp [execS] at h
  | .rangeFunc _ _ _ _, k, s, a, X, Q, hsp, hs, h, hq => by simp [execS] at h
  | .scope _, k, s, a, X, Q, hsp, hs, h, hq => by simp [execS] at h
  | .label _, k, s, a, X, Q, hsp, hs, h, hq => by simp [execS] at h
  | .goto _, k, s, a, X, Q, hsp, hs, h, hq => by simp [execS] at h
  | .refuse _, k, s, a, X, Q, hsp, hs, h, hq => by simp [execS] at h

theorem execS_nat {E : Env} (hE : EnvOk E) {R S : Type} {C : Cfg} {N H : Nat} {sp : SP} (hn : ∀ id f, sp id = some f → ∀ (R S : Type) (g : S → Option R) (s : St) (k : St → Option S), f R s (fun s' => (k s').bind g) = (f S s k).bind g) (f : S → Option R) : ∀ (c : Code) (s : St) (k : Ex → St → Option S),
    execS E C N H sp c s (fun e s' => (k e s').bind f) = (execS E C N H sp c s k).bind f
  | .skip, s, k => rfl
  | .region id ops draw, s, k => by
    simp only [execS]
    split
    · rename_i g hg
      exact hn id g hg R S f s _
    · exact execC_nat hE f _ (fun b hb => by simp [loops] at hb) s k
  | .seq a b, s, k => by
    simp only [execS]
    rw [← execS_nat hE hn f a]
    congr 1
    funext e s'
    cases e with
    | normal =>
      simp only
      rw [cond_bind_both, ← execS_nat hE hn f b, ← canonK_nat]
      congr 1
      congr 1
      funext s''
      exact execS_nat hE hn f b s'' k
    | exit id => rfl
    | ret => rfl
  | .cond c a b, s, k => by
    simp only [execS]
    split
    · rw [cond_bind_both, ← execS_nat hE hn f a, ← execS_nat hE hn f b]
    · rfl
  | .block id a, s, k => by
    simp only [execS]
    rw [← execS_nat hE hn f a]
    congr 1
    funext e s'
    cases e with
    | normal => rfl
    | exit i => simp only [cond_bind_both]
    | ret => rfl
  | .exit id, s, k => rfl
  | .loop _, s, k => rfl
  | .ret, s, k => rfl
  | .rangeFunc _ _ _ _, s, k => rfl
  | .scope _, s, k => rfl
  | .label _, s, k => rfl
  | .goto _, s, k => rfl
  | .refuse _, s, k => rfl

/-! ### Loops of such code -/

def EOkS (E : Env) (C : Cfg) (N : Nat) (sp : SP) (a : Code) (e : LE) : Prop := ∀ (R : Type) (n : Nat) (x : e.F.ty) (k : Ex → St → Option R),
  loopK (C.keep (keyOf a)) (C.keepX (keyOf a)) e.H (fun s k => execS E C N e.H sp a s k) n (e.F.enc x) k = e.L R n x k

def roundS {R : Type} (E : Env) (C : Cfg) (N H : Nat) (sp : SP) (a : Code) (s : St) (Kn : St → Option R) (k : Ex → St → Option R) : Option R :=
  execS E C N H sp a s fun e s' => match e with
    | .normal => canonK (C.keep (keyOf a)) H s' Kn
    | e => canonK (C.keepX (keyOf a) e) H s' fun s'' => k e s''

theorem eokS_of {E : Env} {C : Cfg} {N : Nat} {sp : SP} {a : Code} {e : LE} (S : (R : Type) → e.F.ty → (e.F.ty → Option R) → (Ex → St → Option R) → Option R)
    (h0 : ∀ R x k, e.L R 0 x k = none) (hs : ∀ R n x k, e.L R (n + 1) x k = S R x (fun x' => e.L R n x' k) k)
    (hr : ∀ R x (Kn : St → Option R) k, roundS E C N e.H sp a (e.F.enc x) Kn k = S R x (fun x' => Kn (e.F.enc x')) k) : EOkS E C N sp a e := by
  intro R n
  induction n with
  | zero => intro x k; rw [h0]; rfl
  | succ n ih =>
    intro x k
    rw [hs]
    have h1 : loopK (C.keep (keyOf a)) (C.keepX (keyOf a)) e.H (fun s k => execS E C N e.H sp a s k) (n + 1) (e.F.enc x) k = roundS E C N e.H sp a (e.F.enc x) (fun s' => loopK (C.keep (keyOf a)) (C.keepX (keyOf a)) e.H (fun s k => execS E C N e.H sp a s k) n s' k) k := rfl
    rw [h1, hr]
    congr 1
    funext x'
    exact ih x' k

/-- A function with one loop, in which some regions are known by hand. -/
theorem lmOk_one {E : Env} (hE : EnvOk E) (hm : E.P.follows .mixedOrders = true) {fn : Func} {keep : List (Nat × Keep)} {keepX : List (Nat × (Keep × Keep))} {e : LE} {ex : List (Nat × Nat)} {pre : List (Nat × List (Nat × List Nat × GT))} {gh : List (Nat × Nat × Nat × List Nat)} {sp : SP} {a : Code}
    (hl : ∀ c, fn.body = some c → ∀ b ∈ loops c, b = a)
    (hsp : SpOk E fn.ntmps e.H sp a) (he : EOkS E (mkCfg keep keepX [e] ex pre gh) fn.ntmps sp a e) : ∀ c, fn.body = some c → LmOk E (mkCfg keep keepX [e] ex pre gh) fn.ntmps c := by
  intro c hc b hb H m hmm
  have hba := hl c hc b hb
  subst hba
  generalize hC : mkCfg keep keepX [e] ex pre gh = C at he hmm ⊢
  have hlm : C.lm = lmOf [e] := by rw [← hC]; rfl
  rw [hlm] at hmm
  unfold lmOf at hmm
  cases hh : hasL [e] H (keyOf b) with
  | false => rw [hh] at hmm; cases hmm
  | true =>
    rw [hh] at hmm
    have hm' := Option.some.inj hmm
    subst hm'
    simp only [hasL] at hh
    have hk : (Nat.beq e.key (keyOf b) && Nat.beq e.H H) = true := by
      cases hq : (Nat.beq e.key (keyOf b) && Nat.beq e.H H) with
      | true => rfl
      | false => rw [hq] at hh; cases hh
    have hH : e.H = H := by
      simp only [Bool.and_eq_true, Nat.beq_eq] at hk
      exact hk.2
    subst hH
    refine .inr ⟨?_, ?_⟩
    · intro R B s k r act X Q hs hr hq
      simp only [runLE, hk, cond_true] at hr
      split at hr
      · rename_i x hx
        rw [← he R FUEL x k, ← e.F.dec_enc s x hx] at hr
        exact loop_of_in (loopK_sound (fun k s a X Q hs h hq => execS_sound hE hm b k s a X Q hsp hs h hq) (X0 := X) hq FUEL s act X (.refl _ _) hs hr)
      · cases hr
    · intro R S f s k
      simp only [runLE, hk, cond_true]
      split
      · rename_i x hx
        rw [← he R FUEL x, ← he S FUEL x]
        exact loopK_nat f (fun s k => execS_nat hE hsp.nat f b s k) FUEL _
      · rfl

end Go.Eng
