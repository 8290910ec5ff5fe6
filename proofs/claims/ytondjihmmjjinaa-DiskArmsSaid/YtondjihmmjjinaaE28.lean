/- The engine, part 28: shapes of states; loop models. -/
import Derived.Test.YtondjihmmjjinaaE27
namespace Go.Eng
open Go
set_option linter.unusedVariables false
set_option linter.unusedSimpArgs false

/-- The shape of a symbolic value. -/
inductive SG where
  | dat (g : GT)
  | nils
  | emp
  | nilp
  | nilm
  | nilfn
  | nsl (g : GT)
  | box (n : Nat) (path : List Nat) (off : Nat)
  | rd (g : GT)
  | own (n : Nat)
  | mp (n : Nat)
  | vw (n : Nat) (g : GT)
  | fn (f : Nat) (caps : SG)
  | snil
  | scons (a b : SG)
  | agg (l : SG)
  | tup (l : SG)

@[reducible] def SG.ty : SG → Type
  | .dat g => g.ty
  | .rd g => g.ty
  | .nsl g => List g.ty
  | .vw _ _ => Nat × Nat
  | .fn _ c => c.ty
  | .scons a b => a.ty × b.ty
  | .agg l => l.ty
  | .tup l => l.ty
  | _ => Unit

def SG.enc : (σ : SG) → σ.ty → SV
  | .dat g, x => .dat g x
  | .rd g, x => .rd g x
  | .nils, _ => .nils
  | .emp, _ => .emp
  | .nilp, _ => .nilp
  | .nilm, _ => .nilm
  | .nilfn, _ => .nilfn
  | .nsl g, x => .nsl g x
  | .box n p o, _ => .box n p o
  | .own n, _ => .own n
  | .mp n, _ => .mp n
  | .vw n g, x => .vw n g x.1 x.2
  | .fn f c, x => .fn f (c.enc x)
  | .snil, _ => .snil
  | .scons a b, x => .scons (a.enc x.1) (b.enc x.2)
  | .agg l, x => .agg (l.enc x)
  | .tup l, x => .tup (l.enc x)

def eqNs : List Nat → List Nat → Bool
  | [], [] => true
  | a :: l, b :: r => Nat.beq a b && eqNs l r
  | _, _ => false

theorem eqNs_eq : ∀ {l r : List Nat}, eqNs l r = true → l = r
  | [], [], _ => rfl
  | a :: l, b :: r, h => by
    simp only [eqNs, Bool.and_eq_true, Nat.beq_eq] at h
    rw [h.1, eqNs_eq h.2]
  | [], _ :: _, h => by simp [eqNs] at h
  | _ :: _, [], h => by simp [eqNs] at h

def SG.dec : (σ : SG) → SV → Option σ.ty
  | .dat g, .dat g' x => castD g' g x
  | .rd g, .rd g' x => castD g' g x
  | .nils, .nils => some ()
  | .emp, .emp => some ()
  | .nilp, .nilp => some ()
  | .nilm, .nilm => some ()
  | .nilfn, .nilfn => some ()
  | .nsl g, .nsl g' x => castL g' g x
  | .box n p o, .box n' p' o' => bif Nat.beq n n' && eqNs p p' && Nat.beq o o' then some () else none
  | .own n, .own n' => bif Nat.beq n n' then some () else none
  | .mp n, .mp n' => bif Nat.beq n n' then some () else none
  | .vw n g, .vw n' g' lo len => bif Nat.beq n n' && GT.beq g g' then some (lo, len) else none
  | .fn f c, .fn f' v => bif Nat.beq f f' then c.dec v else none
  | .snil, .snil => some ()
  | .scons a b, .scons v u => (match a.dec v with
    | some x => (match b.dec u with
      | some y => some (x, y)
      | none => none)
    | none => none)
  | .agg l, .agg v => l.dec v
  | .tup l, .tup v => l.dec v
  | _, _ => none

theorem SG.dec_enc : ∀ (σ : SG) (v : SV) (x : σ.ty), σ.dec v = some x → v = σ.enc x := by
  intro σ
  induction σ with
  | dat g =>
    intro v x h
    cases v <;> simp only [SG.dec] at h <;> try (cases h; done)
    obtain ⟨rfl, rfl⟩ := castD_some h
    rfl
  | rd g =>
    intro v x h
    cases v <;> simp only [SG.dec] at h <;> try (cases h; done)
    obtain ⟨rfl, rfl⟩ := castD_some h
    rfl
  | nils => intro v x h; cases v <;> simp only [SG.dec] at h <;> first | (cases h; done) | rfl
  | emp => intro v x h; cases v <;> simp only [SG.dec] at h <;> first | (cases h; done) | rfl
  | nilp => intro v x h; cases v <;> simp only [SG.dec] at h <;> first | (cases h; done) | rfl
  | nilm => intro v x h; cases v <;> simp only [SG.dec] at h <;> first | (cases h; done) | rfl
  | nilfn => intro v x h; cases v <;> simp only [SG.dec] at h <;> first | (cases h; done) | rfl
  | nsl g =>
    intro v x h
    cases v <;> simp only [SG.dec] at h <;> try (cases h; done)
    obtain ⟨e, rfl⟩ := castD_some h
    cases e
    rfl
  | box n p o =>
    intro v x h
    cases v <;> simp only [SG.dec] at h <;> try (cases h; done)
    obtain ⟨hc, _⟩ := bif_some h
    simp only [Bool.and_eq_true, Nat.beq_eq] at hc
    obtain ⟨⟨rfl, h2⟩, rfl⟩ := hc
    rw [← eqNs_eq h2]
    rfl
  | own n =>
    intro v x h
    cases v <;> simp only [SG.dec] at h <;> try (cases h; done)
    obtain ⟨hc, _⟩ := bif_some h
    rw [← Nat.eq_of_beq_eq_true hc]
    rfl
  | mp n =>
    intro v x h
    cases v <;> simp only [SG.dec] at h <;> try (cases h; done)
    obtain ⟨hc, _⟩ := bif_some h
    rw [← Nat.eq_of_beq_eq_true hc]
    rfl
  | vw n g =>
    intro v x h
    cases v <;> simp only [SG.dec] at h <;> try (cases h; done)
    obtain ⟨hc, h⟩ := bif_some h
    simp only [Bool.and_eq_true] at hc
    cases h
    rw [← Nat.eq_of_beq_eq_true hc.1, ← GT.beq_eq hc.2]
    rfl
  | fn f c ih =>
    intro v x h
    cases v <;> simp only [SG.dec] at h <;> try (cases h; done)
    obtain ⟨hc, h⟩ := bif_some h
    rw [← Nat.eq_of_beq_eq_true hc, ih _ _ h]
    rfl
  | snil => intro v x h; cases v <;> simp only [SG.dec] at h <;> first | (cases h; done) | rfl
  | scons a b iha ihb =>
    intro v x h
    cases v <;> simp only [SG.dec] at h <;> try (cases h; done)
    split at h
    · rename_i y hy
      split at h
      · rename_i z hz
        cases h
        rw [iha _ _ hy, ihb _ _ hz]
        rfl
      · cases h
    · cases h
  | agg l ih =>
    intro v x h
    cases v <;> simp only [SG.dec] at h <;> try (cases h; done)
    rw [ih _ _ h]
    rfl
  | tup l ih =>
    intro v x h
    cases v <;> simp only [SG.dec] at h <;> try (cases h; done)
    rw [ih _ _ h]
    rfl

/-- The shape of an object. -/
inductive OG where
  | dead
  | box (σ : SG)
  | arr (g : GT)
  | map (k v : GT)

@[reducible] def OG.ty : OG → Type
  | .dead => Unit
  | .box σ => σ.ty
  | .arr g => List g.ty
  | .map k v => List (k.ty × v.ty)

def OG.enc : (σ : OG) → σ.ty → SO
  | .dead, _ => .dead
  | .box σ, x => .box (σ.enc x)
  | .arr g, x => .arr g x
  | .map k v, x => .map k v x

def castM (k v k' v' : GT) (x : List (k.ty × v.ty)) : Option (List (k'.ty × v'.ty)) :=
  if h : k.beq k' = true ∧ v.beq v' = true then some (GT.beq_eq h.1 ▸ GT.beq_eq h.2 ▸ x) else none

def OG.dec : (σ : OG) → SO → Option σ.ty
  | .dead, .dead => some ()
  | .box σ, .box v => σ.dec v
  | .arr g, .arr g' x => castL g' g x
  | .map k v, .map k' v' x => castM k' v' k v x
  | _, _ => none

theorem OG.dec_enc : ∀ (σ : OG) (v : SO) (x : σ.ty), σ.dec v = some x → v = σ.enc x := by
  intro σ v x h
  cases σ <;> cases v <;> simp only [OG.dec] at h <;> try (cases h; done)
  · rfl
  · rw [SG.dec_enc _ _ _ h]; rfl
  · obtain ⟨e, rfl⟩ := castD_some h
    cases e
    rfl
  · unfold castM at h
    split at h
    · rename_i hb
      have e1 := GT.beq_eq hb.1
      have e2 := GT.beq_eq hb.2
      subst e1; subst e2
      cases h
      rfl
    · cases h

@[reducible] def tyR : List (Nat × SG) → Type
  | [] => Unit
  | e :: l => e.2.ty × tyR l

def encR : (l : List (Nat × SG)) → tyR l → List (Nat × SV)
  | [], _ => []
  | e :: l, x => (e.1, e.2.enc x.1) :: encR l x.2

def decR : (l : List (Nat × SG)) → List (Nat × SV) → Option (tyR l)
  | [], [] => some ()
  | e :: l, f :: r => bif Nat.beq e.1 f.1 then (match e.2.dec f.2 with
    | some x => (match decR l r with
      | some y => some (x, y)
      | none => none)
    | none => none) else none
  | _, _ => none

theorem decR_enc : ∀ (l : List (Nat × SG)) (r : List (Nat × SV)) (x : tyR l), decR l r = some x → r = encR l x
  | [], [], x, _ => rfl
  | e :: l, f :: r, x, h => by
    simp only [decR] at h
    obtain ⟨hc, h⟩ := bif_some h
    split at h
    · rename_i y hy
      split at h
      · rename_i z hz
        cases h
        have := SG.dec_enc _ _ _ hy
        simp only [encR]
        rw [← decR_enc l r z hz, ← this, Nat.eq_of_beq_eq_true hc]
      · cases h
    · cases h
  | [], _ :: _, x, h => by cases h
  | _ :: _, [], x, h => by cases h

@[reducible] def tyO : List OG → Type
  | [] => Unit
  | e :: l => e.ty × tyO l

def encO : (l : List OG) → tyO l → List SO
  | [], _ => []
  | e :: l, x => e.enc x.1 :: encO l x.2

def decO : (l : List OG) → List SO → Option (tyO l)
  | [], [] => some ()
  | e :: l, f :: r => match e.dec f with
    | some x => (match decO l r with
      | some y => some (x, y)
      | none => none)
    | none => none
  | _, _ => none

theorem decO_enc : ∀ (l : List OG) (r : List SO) (x : tyO l), decO l r = some x → r = encO l x
  | [], [], x, _ => rfl
  | e :: l, f :: r, x, h => by
    simp only [decO] at h
    split at h
    · rename_i y hy
      split at h
      · rename_i z hz
        cases h
        simp only [encO]
        rw [← decO_enc l r z hz, ← OG.dec_enc _ _ _ hy]
      · cases h
    · cases h
  | [], _ :: _, x, h => by cases h
  | _ :: _, [], x, h => by cases h

/-- The shape of a state. -/
structure ShS where
  regs : List (Nat × SG)
  heap : List OG

@[reducible] def ShS.ty (σ : ShS) : Type := tyR σ.regs × tyO σ.heap

def ShS.enc (σ : ShS) (x : σ.ty) : St := ⟨encR σ.regs x.1, encO σ.heap x.2⟩

def ShS.dec (σ : ShS) (s : St) : Option σ.ty :=
  match decR σ.regs s.regs, decO σ.heap s.heap with
  | some x, some y => some (x, y)
  | _, _ => none

theorem ShS.dec_enc (σ : ShS) (s : St) (x : σ.ty) (h : σ.dec s = some x) : s = σ.enc x := by
  unfold ShS.dec at h
  split at h
  · rename_i a b ha hb
    cases h
    obtain ⟨r, hp⟩ := s
    simp only at ha hb
    simp only [ShS.enc]
    rw [← decR_enc _ _ _ ha, ← decO_enc _ _ _ hb]
  · cases h

/-! ### The table of a function's loops -/

theorem exFuel : ∃ n : Nat, n = 18446744073709551616 := ⟨_, rfl⟩
/-- How many rounds a loop's model may make. -/
noncomputable def FUEL : Nat := Classical.choose exFuel
theorem FUEL_eq : FUEL = 18446744073709551616 := Classical.choose_spec exFuel

/-- A loop's typed model: at which place, with how many objects kept, from which shape of states. -/
structure LE where
  key : Nat
  H : Nat
  F : ShS
  L : (R : Type) → Nat → F.ty → (Ex → St → Option R) → Option R

def hasL : List LE → Nat → Nat → Bool
  | [], _, _ => false
  | e :: l, H, key => bif Nat.beq e.key key && Nat.beq e.H H then true else hasL l H key

def runLE (n : Nat) : List LE → Nat → Nat → LM
  | [], _, _ => fun _ _ _ => none
  | e :: l, H, key => fun R s k => bif Nat.beq e.key key && Nat.beq e.H H then (match e.F.dec s with
    | some x => e.L R n x k
    | none => runLE n l H key R s k) else runLE n l H key R s k

noncomputable def lmOf (l : List LE) : Nat → Nat → Option LM := fun H key => bif hasL l H key then some (runLE FUEL l H key) else none

def assocK {α : Type} : List (Nat × α) → Nat → Option α
  | [], _ => none
  | e :: l, k => bif Nat.beq e.1 k then some e.2 else assocK l k

/-- A function's settings, from tables. -/
noncomputable def mkCfg (keep : List (Nat × Keep)) (keepX : List (Nat × (Keep × Keep))) (es : List LE) (ex : List (Nat × Nat) := []) (pre : List (Nat × List (Nat × List Nat × GT)) := []) (gh : List (Nat × Nat × Nat × List Nat) := []) (op : List (Nat × List (Nat × Nat)) := []) : Cfg :=
  ⟨assocK keep, fun n e => match assocK keepX n with
    | some p => (match e with
      | .ret => some p.2
      | _ => some p.1)
    | none => none, lmOf es, FUEL, fun id f => ex.any fun p => Nat.beq p.1 id && Nat.beq p.2 f, fun id => (assocK pre id).getD [], gh, fun id => (assocK op id).getD []⟩

/-- A model is the loop's run. -/
def EOk (E : Env) (C : Cfg) (N : Nat) (a : Code) (e : LE) : Prop := ∀ (R : Type) (n : Nat) (x : e.F.ty) (k : Ex → St → Option R),
  loopK (C.keep (keyOf a)) (C.keepX (keyOf a)) e.H (fun s k => execC E C N e.H a s k) n (e.F.enc x) k = e.L R n x k

def keysL : List Code → List Nat
  | [] => []
  | a :: l => keyOf a :: keysL l

theorem keysL_at : ∀ {l : List Code} {i : Nat} {a : Code}, l[i]? = some a → (keysL l)[i]? = some (keyOf a)
  | [], i, e, h => by simp at h
  | a :: l, 0, e, h => by
    simp only [List.getElem?_cons_zero, Option.some.injEq] at h
    subst h
    rfl
  | a :: l, i + 1, e, h => by
    simp only [keysL, List.getElem?_cons_succ] at h ⊢
    exact keysL_at h

/-- The loops of a function, by their places. -/
def bodyL (fn : Func) (i : Nat) : Code := match fn.body with
  | some c => (nth (loops c) i).getD .skip
  | none => .skip

/-- The entries are right, each for the loop at its index. -/
def EOkAll (E : Env) (C : Cfg) (fn : Func) : List (Nat × LE) → Prop
  | [] => True
  | p :: l => EOk E C fn.ntmps (bodyL fn p.1) p.2 ∧ EOkAll E C fn l

def idxOk (fn : Func) : List (Nat × LE) → Bool
  | [] => true
  | p :: l => (match fn.body with
    | some c => Nat.blt p.1 (loops c).length && Nat.beq (keyOf (bodyL fn p.1)) p.2.key
    | none => false) && idxOk fn l

theorem lmOk_of {E : Env} {fn : Func} {keep : List (Nat × Keep)} {keepX : List (Nat × (Keep × Keep))} {ps : List (Nat × LE)} {ex : List (Nat × Nat)} {pre : List (Nat × List (Nat × List Nat × GT))} {gh : List (Nat × Nat × Nat × List Nat)} {op : List (Nat × List (Nat × Nat))} (hn : nodupB (keysL (match fn.body with | some c => loops c | none => [])) = true) (hi : idxOk fn ps = true)
    (he : EOkAll E (mkCfg keep keepX (ps.map (·.2)) ex pre gh op) fn ps) : ∀ c, fn.body = some c → LmOk E (mkCfg keep keepX (ps.map (·.2)) ex pre gh op) fn.ntmps c := by
  intro c hc a ha H m hm
  refine .inl ?_
  rw [hc] at hn
  simp only at hn
  generalize hC : mkCfg keep keepX (ps.map (·.2)) ex pre gh op = C at he hm ⊢
  have hf : C.fuel = FUEL := by rw [← hC]; rfl
  have hlm : C.lm = lmOf (ps.map (·.2)) := by rw [← hC]; rfl
  rw [hlm] at hm
  unfold lmOf at hm
  have hm' : m = runLE FUEL (ps.map (·.2)) H (keyOf a) := by
    cases hb : hasL (ps.map (·.2)) H (keyOf a) with
    | true => rw [hb] at hm; exact (Option.some.inj hm).symm
    | false => rw [hb] at hm; cases hm
  clear hm
  subst hm'
  clear hlm hC
  induction ps with
  | nil => exact ⟨fun _ => false, fun R s k => rfl⟩
  | cons p l ih =>
    simp only [idxOk, hc, Bool.and_eq_true, Nat.beq_eq, Nat.blt_eq] at hi
    obtain ⟨⟨h1, h2⟩, h3⟩ := hi
    obtain ⟨ok, hok⟩ := ih h3 he.2
    by_cases hk : p.2.key = keyOf a ∧ p.2.H = H
    · obtain ⟨k1, rfl⟩ := hk
      have hb : bodyL fn p.1 = a := by
        unfold bodyL at h2 ⊢
        rw [hc] at h2 ⊢
        simp only [nth_eq] at h2 ⊢
        obtain ⟨j, hj⟩ := List.getElem?_of_mem ha
        rw [List.getElem?_eq_getElem h1] at h2 ⊢
        simp only [Option.getD_some] at h2 ⊢
        have e1 := keysL_at (List.getElem?_eq_getElem h1)
        have e2 := keysL_at hj
        rw [h2, k1] at e1
        have := nodupB_inj hn e1 e2
        subst this
        rw [List.getElem?_eq_getElem h1] at hj
        exact Option.some.inj hj
      refine ⟨fun s => (p.2.F.dec s).isSome || ok s, fun R s k => ?_⟩
      simp only [List.map_cons, runLE, k1, Nat.beq_refl, Bool.and_true, cond_true]
      cases hd : p.2.F.dec s with
      | none => simpa using hok R s k
      | some x =>
        simp only [Option.isSome_some, Bool.true_or, cond_true]
        have := he.1 R FUEL x k
        rw [hb] at this
        rw [← this, p.2.F.dec_enc s x hd]
        unfold runL
        rw [hf]
    · refine ⟨ok, fun R s k => ?_⟩
      have : (Nat.beq p.2.key (keyOf a) && Nat.beq p.2.H H) = false := by
        rw [Bool.eq_false_iff]
        intro h
        rw [Bool.and_eq_true, Nat.beq_eq, Nat.beq_eq] at h
        exact hk h
      simp only [List.map_cons, runLE, this, cond_false]
      exact hok R s k

/-- The step of a loop's round. -/
def roundK {R : Type} (E : Env) (C : Cfg) (N H : Nat) (a : Code) (s : St) (Kn : St → Option R) (k : Ex → St → Option R) : Option R :=
  execC E C N H a s fun e s' => match e with
    | .normal => canonK (C.keep (keyOf a)) H s' Kn
    | e => canonK (C.keepX (keyOf a) e) H s' fun s'' => k e s''

theorem eok_of {E : Env} {C : Cfg} {N : Nat} {a : Code} {e : LE} (S : (R : Type) → e.F.ty → (e.F.ty → Option R) → (Ex → St → Option R) → Option R)
    (h0 : ∀ R x k, e.L R 0 x k = none) (hs : ∀ R n x k, e.L R (n + 1) x k = S R x (fun x' => e.L R n x' k) k)
    (hr : ∀ R x (Kn : St → Option R) k, roundK E C N e.H a (e.F.enc x) Kn k = S R x (fun x' => Kn (e.F.enc x')) k) : EOk E C N a e := by
  intro R n
  induction n with
  | zero => intro x k; rw [h0]; rfl
  | succ n ih =>
    intro x k
    rw [hs]
    have h1 : loopK (C.keep (keyOf a)) (C.keepX (keyOf a)) e.H (fun s k => execC E C N e.H a s k) (n + 1) (e.F.enc x) k = roundK E C N e.H a (e.F.enc x) (fun s' => loopK (C.keep (keyOf a)) (C.keepX (keyOf a)) e.H (fun s k => execC E C N e.H a s k) n s' k) k := rfl
    rw [h1, hr]
    congr 1
    funext x'
    exact ih x' k

/-- A place where ways meet. -/
def cont {α R : Type} (t : (α → Option R) → Option R) (k : α → Option R) : Option R := t k

end Go.Eng
