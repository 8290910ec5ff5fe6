/- The engine, part 40: ranges over a function: a round's body run as the engine runs code; frames that hold a mark. -/
import Derived.Test.YtondjihmmjjinaaE39
import Derived.RangeFuncLeaves
import Derived.RangeFuncRecord
import Derived.OrdersIn
import Derived.TacticsIn
namespace Go.Eng
open Go
set_option linter.unusedVariables false
set_option linter.unusedSimpArgs false

/-- The wide fence, in a round or not. -/
def FR (ro : Option Nat) : Fence := { Fence.wide with round := ro }

theorem FR_none : FR none = Fence.wide := rfl
theorem FR_some (l : Nat) : FR (some l) = Fence.wide.inRound l := rfl

theorem rows_wide {n : Nat} {P : Program} {row : String} {args : Array Value} {w : World} {R : Value → World → Prop} (h : Rows P row args w R) : RowsIn Fence.wide n P row args w R :=
  fun c cs _ => let ⟨v, w', r, s⟩ := h c cs; ⟨v, w', r, stepsIn_wide.2 s⟩

theorem upon_in {P : Program} {o : Oper} {a : Act} {next : Act → World → Prop} {Q : Exit → Act → World → Prop} {ro : Option Nat} {n : Nat} {r : Result Next} (h : o.upon P a next Q r) : o.uponIn (FR ro) n P a next Q r := by
  cases r with
  | ok x w' =>
    cases x with
    | enter f args =>
      refine ⟨fun h => by simp [FR, Fence.wide] at h, ?_⟩
      exact (callsIn_wide (n := n - 1)).2 h
    | row row args =>
      refine ⟨fun h => by simp [FR, Fence.wide] at h, ?_⟩
      exact rows_wide (n := n - 1) h
    | value v => exact h
    | skip => exact h
    | defer d => exact h
    | _ => exact h.elim
  | halt x w' => cases x <;> first | exact h | exact h.elim

/-- No operation is a defer statement. -/
def noDefO (o : Oper) : Bool := match o.op with
  | .defer _ => false
  | _ => true

theorem noDefO_ne {o : Oper} (h : noDefO o = true) (c : Call) : o.op ≠ .defer c := by
  intro e
  unfold noDefO at h
  rw [e] at h
  cases h

theorem oper_in {P : Program} {o : Oper} {a : Act} {w : World} {next : Act → World → Prop} {Q : Exit → Act → World → Prop} (ro : Option Nat) (n : Nat) (hd : noDefO o = true) (h : o.wp P a w next Q) : o.wpIn (FR ro) n P a w next Q := by
  refine ⟨fun _ _ => trivial, ?_⟩
  rw [Oper.semAt_eq _ _ _ (fun c => noDefO_ne hd c)]
  exact upon_in h

theorem wpList_in {P : Program} {ops : Array Oper} {Q : Exit → Act → World → Prop} (ro : Option Nat) (n : Nat) (hQ : ¬ LetsOut Q) : ∀ (l : List Oper) (a : Act) (w : World), l.all noDefO = true → wpList P ops Q l a w → wpListIn (FR ro) n P ops Q l a w
  | [], a, w, _, h => h
  | o :: l, a, w, hd, h => by
    simp only [List.all_cons, Bool.and_eq_true] at hd
    unfold wpListIn
    unfold wpList at h
    split
    · rename_i hw
      rw [if_pos hw] at h
      rcases h with h | ⟨_, h⟩
      · exact Oper.wpIn_mono (fun a w q => wpList_in ro n hQ l a w hd.2 q) (oper_in ro n hd.1 h)
      · exact absurd h hQ
    · rename_i hw
      rw [if_neg hw] at h
      exact ⟨fun _ _ => trivial, wpList_in ro n hQ l _ w hd.2 h⟩

theorem all_at' {α : Type} {p : α → Bool} {l : List α} (h : l.all p = true) {i : Nat} {x : α} (hx : l[i]? = some x) : p x = true := List.all_eq_true.1 h x (List.mem_of_getElem? hx)

theorem wpAny_in {P : Program} {md : Region.Mode} {ops : Array Oper} {Q : Exit → Act → World → Prop} (ro : Option Nat) (n : Nat) (hQ : ¬ LetsOut Q) (hd : ops.toList.all noDefO = true) : ∀ (fuel : Nat) (listed : Array Bool) (a : Act) (w : World), wpAny P md ops Q fuel listed a w → wpAnyIn (FR ro) n P md ops Q fuel listed a w
  | 0, listed, a, w, h => h
  | fuel + 1, listed, a, w, h => by
    refine ⟨h.1, fun i hi => ?_⟩
    have h2 := h.2 i hi
    unfold wpOp at h2
    unfold wpOpIn
    split
    · rename_i ho
      rw [ho] at h2
      exact wpAny_in ro n hQ hd fuel _ a w h2
    · rename_i o ho
      rw [ho] at h2
      simp only at h2
      split
      · rename_i hw
        rw [if_pos hw] at h2
        rcases h2 with h2 | ⟨_, h2⟩
        · exact Oper.wpIn_mono (fun a w q => wpAny_in ro n hQ hd fuel _ a w q) (oper_in ro n (all_at' hd (i := i) (by simpa using ho)) h2)
        · exact absurd h2 hQ
      · rename_i hw
        rw [if_neg hw] at h2
        exact ⟨fun _ _ => trivial, wpAny_in ro n hQ hd fuel _ _ w h2⟩

/-- What the engine shows of a region, drawn or not. -/
def regionW (P : Program) (ops : Array Oper) (draw : Bool) (Q : Exit → Act → World → Prop) (a : Act) (w : World) : Prop :=
  match draw with
  | false => wpList P ops Q ops.toList a w
  | true => wpAny P .any ops Q ops.size (Array.replicate ops.size false) a { w with drawn := w.drawn + 1 }

theorem regionW_wp {P : Program} (hm : P.follows .mixedOrders = true) {ops : Array Oper} {id : Nat} {draw : Bool} {Q : Exit → Act → World → Prop} {a : Act} {w : World} (h : regionW P ops draw Q a w) : (Code.region id ops draw).wp P Q a w := by
  cases draw with
  | false => exact wp_region_list h
  | true => exact wp_region_any hm h

theorem regionW_in {P : Program} (hm : P.follows .mixedOrders = true) {ops : Array Oper} {id : Nat} {draw : Bool} {Q : Exit → Act → World → Prop} {a : Act} {w : World} (ro : Option Nat) (n : Nat) (hQ : ¬ LetsOut Q) (hd : ops.toList.all noDefO = true) (h : regionW P ops draw Q a w) : (Code.region id ops draw).wpIn (FR ro) n P Q a w := by
  cases draw with
  | false => exact wpIn_region_list (wpList_in ro n hQ _ a w hd h)
  | true => exact wpIn_region_any hm (wpAny_in ro n hQ hd _ _ a _ h)

/-! ### A frame's deferred calls do not matter -/

def Act.dfr (a : Act) (d : List Deferred) : Act := { a with defers := d }
/-- The same of a frame with deferred calls. -/
def QD (d : List Deferred) (Q : Exit → Act → World → Prop) : Exit → Act → World → Prop := fun e a w => a.defers = d ∧ ∃ d0, Q e (Act.dfr a d0) w

theorem put_dfr (a : Act) (dst : Option Tmp) (v : Value) (d : List Deferred) : (Act.dfr a d).put dst v = Act.dfr (a.put dst v) d := by cases dst <;> rfl
theorem dfr_dfr (a : Act) (d e : List Deferred) : Act.dfr (Act.dfr a d) e = Act.dfr a e := rfl
theorem dfr_self (a : Act) : Act.dfr a a.defers = a := rfl

/-- An operation that moves or loads. -/
def simpleO (o : Oper) : Bool := match o.op with
  | .move _ => true
  | .assign _ => true
  | .load _ _ => true
  | _ => false

theorem simple_run {P : Program} {ρ : Operand → Value} {o : Oper} {w : World} (h : simpleO o = true) : (∃ v w', (execOp ρ o).run P w = .ok (.value v) w') ∨ ∃ x w', (execOp ρ o).run P w = .halt x w' := by
  unfold simpleO at h
  unfold execOp
  split at h
  · rename_i x hx
    rw [hx]
    exact .inl ⟨_, _, rfl⟩
  · rename_i x hx
    rw [hx]
    exact .inl ⟨_, _, rfl⟩
  · rename_i t x hx
    rw [hx]
    simp only [Sem.run_bind]
    cases (Instr.loadAt t (ρ x)).run P w with
    | ok v w' => exact .inl ⟨v, w', rfl⟩
    | halt y w' => exact .inr ⟨y, w', rfl⟩
  · cases h

theorem oper_dfr {P : Program} {o : Oper} {a : Act} {w : World} {next : Act → World → Prop} {Q : Exit → Act → World → Prop} (d : List Deferred) (hd : simpleO o = true) (h : o.wp P a w next Q) : o.wp P (Act.dfr a d) w (fun a' w' => a'.defers = d ∧ ∃ d0, next (Act.dfr a' d0) w') (QD d Q) := by
  unfold Oper.wp at h ⊢
  have he : (Act.dfr a d).eval = a.eval := by funext x; cases x <;> rfl
  rw [he]
  rcases simple_run (P := P) (ρ := a.eval) (w := w) hd with ⟨v, w', hr⟩ | ⟨x, w', hr⟩
  · rw [hr] at h ⊢
    refine ⟨by rw [put_dfr]; rfl, (a.put o.dst v).defers, ?_⟩
    rw [put_dfr, dfr_dfr, dfr_self]
    exact h
  · rw [hr] at h ⊢
    cases x <;> first | exact ⟨rfl, a.defers, h⟩ | exact h.elim

theorem wpAny_dfr {P : Program} {md : Region.Mode} {ops : Array Oper} {Q : Exit → Act → World → Prop} (d : List Deferred) (hQ : ¬ LetsOut Q) (hd : ops.toList.all simpleO = true) : ∀ (fuel : Nat) (listed : Array Bool) (a : Act) (w : World), wpAny P md ops Q fuel listed a w → wpAny P md ops (QD d Q) fuel listed (Act.dfr a d) w
  | 0, listed, a, w, h => ⟨h.1, rfl, a.defers, h.2⟩
  | fuel + 1, listed, a, w, h => by
    refine ⟨fun e => ⟨rfl, a.defers, h.1 e⟩, fun i hi => ?_⟩
    have h2 := h.2 i hi
    unfold wpOp at h2 ⊢
    split
    · rename_i ho
      rw [ho] at h2
      exact wpAny_dfr d hQ hd fuel _ a w h2
    · rename_i o ho
      rw [ho] at h2
      simp only at h2
      split
      · rename_i hw
        rw [if_pos (show Region.wanted o (yielded ops a.tmps) = true from hw)] at h2
        rcases h2 with h2 | ⟨_, h2⟩
        · refine .inl (Oper.wp_mono ?_ (oper_dfr d (all_at' hd (i := i) (by simpa using ho)) h2))
          rintro a' w' ⟨e, d0, q⟩
          have := wpAny_dfr d hQ hd fuel _ _ w' q
          rw [dfr_dfr] at this
          rw [← e] at this ⊢
          exact this
        · exact absurd h2 hQ
      · rename_i hw
        rw [if_neg (show ¬ Region.wanted o (yielded ops a.tmps) = true from hw)] at h2
        have := wpAny_dfr d hQ hd fuel _ _ w h2
        rw [put_dfr]
        exact this

/-! ### The engine's runs, one region at a time -/
theorem regionK_soundW {E : Env} (hE : EnvOk E) (hm : E.P.follows .mixedOrders = true) {R : Type} {B : Base} {N : Nat} {X : HS} {ops : Array Oper} {draw : Bool} {s : St} {k : St → Option R} {r : R} {a : Act} {Q : Exit → Act → World → Prop}
    (hs : StOk B N X s a) (hk : regionK E N ops.toList draw s k = some r)
    (hq : ∀ s' a' X', StOk B N X' s' a' → Ext X X' → k s' = some r → Q .normal a' X'.w) : regionW E.P ops draw Q a X.w := by
  unfold regionK at hk
  obtain ⟨hd, hk⟩ := bif_some hk
  simp only [dstsOk, Bool.and_eq_true, List.all_eq_true] at hd
  obtain ⟨hlt, hnd⟩ := hd
  have hlt' : ∀ d ∈ dsts ops.toList, d < N := fun d hd => by have := hlt d hd; simpa [Nat.blt_eq] using this
  cases draw with
  | false =>
    show wpList E.P ops Q ops.toList a X.w
    have := runOps_sound hE (ops := ops.toList) (B := B) (Q := Q) ops.toList [] s.heap a X hs.regs.ok hs.heap (by intro t g v h; simp [lkR] at h) List.Pairwise.nil
      ⟨fun d hd => ⟨by rw [hs.size]; exact hlt' d hd, rfl⟩, hnd⟩ hs.defers hk (by
        intro rs' h' a' X' hP hR H hsz hdf hx hk'
        obtain ⟨_, hk'⟩ := bif_some hk'
        exact hq _ a' X' ⟨RegsC.after hP hR, H, hsz.trans hs.size, hdf⟩ hx hk')
    simpa using this
  | true =>
    show wpAny E.P .any ops Q ops.size (Array.replicate ops.size false) a { X.w with drawn := X.w.drawn + 1 }
    obtain ⟨recs, h1, h2, h3⟩ := runOps_lex hE ops.toList [] s.heap hk
    obtain ⟨ho, hk'⟩ := bif_some h3
    simp only [Bool.not_true, Bool.false_or, List.append_nil, List.map_reverse, List.reverse_reverse] at ho hk'
    simp only [Bool.and_eq_true] at ho
    obtain ⟨ho, hb, hsc⟩ := ho
    simp only [baseOk, Bool.and_eq_true, List.all_eq_true] at hb
    have hdst : ∀ (i : Nat) (rc : Rc), recs[i]? = some rc → ∃ o, ops.toList[i]? = some o ∧ rc.dst = o.dst := by
      intro i rc hr
      have hi : i < ops.toList.length := by rw [← h1]; exact (List.getElem?_eq_some_iff.1 hr).1
      exact ⟨_, List.getElem?_eq_getElem hi, (h2 i _ rc (List.getElem?_eq_getElem hi) hr).1⟩
    have hu : Uniq recs := by
      intro i j ri rj d hi hj di dj
      obtain ⟨oi, k1, k2⟩ := hdst i ri hi
      obtain ⟨oj, k3, k4⟩ := hdst j rj hj
      exact dsts_uniq hnd k1 k3 (by rw [← k2]; exact di) (by rw [← k4]; exact dj)
    unfold orderOk at ho
    simp only [Bool.and_eq_true, List.all_eq_true, List.mem_range] at ho
    obtain ⟨⟨hed, hpr⟩, _⟩ := ho
    have L : Lex E ops.toList s.regs recs s.heap := by
      refine ⟨hE, h1, ?_, hu, hed, ?_, fun e he n hn => inB_lt (hb.2 e he) n hn, heapOk_lt hb.1, (scope_at recs s.heap hsc).1, (scope_at recs s.heap hsc).2.1, (scope_at recs s.heap hsc).2.2⟩
      · intro i o rc hio hir
        have := h2 i o rc hio hir
        simpa using this
      · intro i j oi oj hij hi hj
        have hjl : j < ops.toList.length := (List.getElem?_eq_some_iff.1 hj).1
        have := hpr j hjl i hij
        rw [nth_eq, nth_eq, hi, hj] at this
        exact this
    have hw : ∀ t, look recs.reverse s.regs t = loS (fun _ => true) recs s.regs t := by
      intro t
      have e1 := look_lex hu (base := s.regs) recs.length t
      rw [List.take_length] at e1
      rw [e1]
      exact congrFun (loS_all hu (fun k r hk => by simpa using (List.getElem?_eq_some_iff.1 hk).1)) t
    obtain ⟨H', hx⟩ := hs.heap.world (w' := { X.w with drawn := X.w.drawn + 1 }) rfl rfl rfl (Nat.le_refl _) (fun _ _ => rfl) (fun _ _ _ _ _ _ => rfl) (fun _ _ _ => rfl)
    obtain ⟨X2, G2, c2, p1, p2, p3, p4⟩ := L.opens (S := fun k => (Array.replicate ops.size false).getD k false) (X1 := ⟨X.ρ, X.Ok, { X.w with drawn := X.w.drawn + 1 }⟩) (B := B) H'
      (fun k => by simp [Array.getElem?_replicate]; split <;> rfl)
    have hx2 : Ext X X2 := hx.trans p2
    have := any_sound L (B := B) (N := N) (X0 := X) (fun i o d ho hd => hlt' d (dsts_mem ho hd)) (Q := Q) hs.heap.len (by
        intro a' X' hX hR H hsz hdf
        refine hq _ a' X' ⟨RegsC.after (pw_of_uniq hu) ?_, H, hsz, hdf⟩ hX hk'
        intro t g v hl
        rw [hw] at hl
        exact hR t g v hl) ops.toList.length (Array.replicate ops.size false) a X2 G2 c2 hx2 (by simp)
        (by intro i o ho hi; simp [Array.getElem?_replicate] at hi; split at hi <;> simp at hi) (by
          intro t g v hl
          have e : loS (fun k => (Array.replicate ops.size false).getD k false) recs s.regs t = look [] s.regs t := by
            unfold loS
            rw [lkS_not (fun k r _ _ => by simp [Array.getElem?_replicate]; split <;> rfl)]
            rfl
          rw [e] at hl
          have h4 := hs.regs.ok t g v hl
          cases g with
          | none => exact Rep_mono hx2 _ _ _ h4
          | some g => exact ⟨fun e => Rep_mono hx2 _ _ _ (h4.1 e), h4.2⟩) p1 p4 hs.size hs.defers (by
          rw [List.countP_eq_length.2]
          · simp
          · intro k _; simp [Array.getElem?_replicate]; split <;> rfl)
    rw [p3] at this
    simpa using this

theorem region_case {E : Env} (hE : EnvOk E) (hm : E.P.follows .mixedOrders = true) {R : Type} {B : Base} {C : Cfg} {N H : Nat} {r : R} {id : Nat} {ops : Array Oper} {draw : Bool} {k : Ex → St → Option R} {s : St} {a : Act} {X : HS} {Q : Exit → Act → World → Prop}
    (hs : StOk B N X s a) (h : execC E C N H (.region id ops draw) s k = some r) (hq : ∀ s' a' X', StOk B N X' s' a' → ExtN H X X' → k .normal s' = some r → Q .normal a' X'.w) : ∃ X0 : HS, X0.w = X.w ∧ regionW E.P ops draw Q a X0.w := by
  simp only [execC] at h
  obtain ⟨s, hs, h⟩ := openK_sound (C.op id) s hs h
  obtain ⟨X0, e0, x0, s0⟩ := datn_sound (C.pre id) X s.regs s.heap hs
  exact ⟨X0, e0, regionK_soundW (E := (E.at (C.ex id)).told _) ((hE.at _).told _) hm s0 h (fun s' a' X' hs' hx' hk' => hq s' a' X' hs' (.of (x0.trans hx')) hk')⟩

/-- No defer statement in a code. -/
def noDef : Code → Bool
  | .region _ ops _ => ops.toList.all noDefO
  | .seq a b => noDef a && noDef b
  | .cond _ a b => noDef a && noDef b
  | .block _ a => noDef a
  | .exit _ => true
  | .skip => true
  | .ret => true
  | _ => false

/-- A run as the engine makes it, in a round. -/
theorem execC_soundIn {E : Env} (hE : EnvOk E) (hm : E.P.follows .mixedOrders = true) {R : Type} {B : Base} {C : Cfg} {N H : Nat} {r : R} (ro : Option Nat) (n : Nat) : ∀ (c : Code) (k : Ex → St → Option R) (s : St) (a : Act) (X : HS) (Q : Exit → Act → World → Prop),
    noDef c = true → ¬ LetsOut Q → StOk B N X s a → execC E C N H c s k = some r → (∀ e s' a' X', StOk B N X' s' a' → ExtN H X X' → k e s' = some r → Q e.exit' a' X'.w) → c.wpIn (FR ro) n E.P Q a X.w
  | .skip, k, s, a, X, Q, hnd, hQ, hs, h, hq => wpIn_skip (hq .normal s a X hs (.refl _ _) h)
  | .region id ops draw, k, s, a, X, Q, hnd, hQ, hs, h, hq => by
    obtain ⟨X0, e0, h0⟩ := region_case hE hm hs h (fun s' a' X' hs' hx' hk' => hq .normal s' a' X' hs' hx' hk')
    rw [← e0]
    exact regionW_in hm ro n hQ hnd h0
  | .seq x y, k, s, a, X, Q, hnd, hQ, hs, h, hq => by
    simp only [noDef, Bool.and_eq_true] at hnd
    simp only [execC] at h
    refine wpIn_seq (execC_soundIn hE hm ro n x _ s a X _ hnd.1 ?_ hs h ?_)
    · rintro ⟨a0, w0, h0⟩
      exact hQ ⟨a0, w0, h0⟩
    intro e s' a' X' hs' hx' hk'
    cases e with
    | normal =>
      simp only at hk'
      cases hr : isRegion x with
      | true =>
        rw [hr] at hk'
        exact execC_soundIn hE hm ro n y k s' a' X' Q hnd.2 hQ hs' hk' (fun e s'' a'' X'' h1 h2 h3 => hq e s'' a'' X'' h1 (hx'.trans h2) h3)
      | false =>
        rw [hr] at hk'
        simp only [cond_false] at hk'
        obtain ⟨s1, X1, e1, hs1, hx1, h1⟩ := canonK_sound hs' hk'
        simp only [Exit.then, Ex.exit']
        rw [← e1]
        exact execC_soundIn hE hm ro n y k s1 a' X1 Q hnd.2 hQ hs1 h1 (fun e s'' a'' X'' h2 h3 h4 => hq e s'' a'' X'' h2 (hx'.trans (hx1.trans h3)) h4)
    | exit id => exact hq (.exit id) s' a' X' hs' hx' hk'
    | ret => exact hq .ret s' a' X' hs' hx' hk'
  | .cond c x y, k, s, a, X, Q, hnd, hQ, hs, h, hq => by
    simp only [noDef, Bool.and_eq_true] at hnd
    simp only [execC] at h
    split at h
    · rename_i t ht
      refine wpIn_cond (getB_eval hs.regs ht) ?_
      cases t with
      | true => exact execC_soundIn hE hm ro n x k s a X Q hnd.1 hQ hs h hq
      | false => exact execC_soundIn hE hm ro n y k s a X Q hnd.2 hQ hs h hq
    · cases h
  | .block id c, k, s, a, X, Q, hnd, hQ, hs, h, hq => by
    simp only [noDef] at hnd
    simp only [execC] at h
    refine wpIn_block (execC_soundIn hE hm ro n c _ s a X _ hnd ?_ hs h ?_)
    · rintro ⟨a0, w0, h0⟩
      exact hQ ⟨a0, w0, h0⟩
    intro e s' a' X' hs' hx' hk'
    cases e with
    | normal => exact hq .normal s' a' X' hs' hx' hk'
    | exit i =>
      simp only at hk'
      simp only [Ex.exit', Exit.inBlock]
      cases hb : Nat.beq i id with
      | true =>
        rw [hb] at hk'
        rw [if_pos (Nat.eq_of_beq_eq_true hb)]
        exact hq .normal s' a' X' hs' hx' hk'
      | false =>
        rw [hb] at hk'
        rw [if_neg (fun e => by subst e; simp at hb)]
        exact hq (.exit i) s' a' X' hs' hx' hk'
    | ret => exact hq .ret s' a' X' hs' hx' hk'
  | .exit id, k, s, a, X, Q, hnd, hQ, hs, h, hq => wpIn_exit (hq (.exit id) s a X hs (.refl _ _) h)
  | .ret, k, s, a, X, Q, hnd, hQ, hs, h, hq => wpIn_ret (hq .ret s a X hs (.refl _ _) h)
  | .loop _, k, s, a, X, Q, hnd, hQ, hs, h, hq => by cases hnd
  | .rangeFunc _ _ _ _, k, s, a, X, Q, hnd, hQ, hs, h, hq => by cases hnd
  | .scope _, k, s, a, X, Q, hnd, hQ, hs, h, hq => by cases hnd
  | .label _, k, s, a, X, Q, hnd, hQ, hs, h, hq => by cases hnd
  | .goto _, k, s, a, X, Q, hnd, hQ, hs, h, hq => by cases hnd
  | .refuse _, k, s, a, X, Q, hnd, hQ, hs, h, hq => by cases hnd

/-! ### The engine's heap and what lies beside it -/

theorem size_putObj (w : World) (b : Nat) (o : Obj) : (w.putObj b o).heap.size = w.heap.size := by simp [World.putObj]

/-- Something was turned that is no object, and turned back after a run. -/
theorem round_back {B : Base} {X X3 : HS} {hp hp' : List SO} (H : HRep B X hp) {L : Nat} {oL o2 : Obj} (hL : X.w.heap[L]? = some oL) (hok : ¬ X.Ok L) (hno : ∀ n o, nth hp n = some o → o.live = true → blkOf X n ≠ some L)
    (hx : Ext ⟨X.ρ, X.Ok, X.w.putObj L o2⟩ X3) (H3 : HRep (maskB ⟨X.ρ, X.Ok, X.w.putObj L o2⟩ hp) X3 hp') :
    HRep B ⟨X3.ρ, X3.Ok, X3.w.putObj L oL⟩ hp' ∧ Ext X ⟨X3.ρ, X3.Ok, X3.w.putObj L oL⟩ := by
  have hsz : L < X.w.heap.size := (Array.getElem?_eq_some_iff.1 hL).1
  have hs2 : (X.w.putObj L o2).heap.size = X.w.heap.size := size_putObj _ _ _
  have h2 : ∀ b : Nat, b ≠ L → (X.w.putObj L o2).heap[b]? = X.w.heap[b]? := fun b hb => World.putObj_heap_other hb
  have hmo : ¬ (maskB ⟨X.ρ, X.Ok, X.w.putObj L o2⟩ hp).own L := fun ⟨n, o, q1, q2, q3⟩ => hno n o q1 q2 q3
  have hs3 : X.w.heap.size ≤ X3.w.heap.size := by have := H3.size; rw [show (maskB ⟨X.ρ, X.Ok, X.w.putObj L o2⟩ hp).w.heap.size = X.w.heap.size from hs2] at this; exact this
  have hok3 : ¬ X3.Ok L := fun q => by
    rcases H3.okNew L q with q | q | q
    · exact hok q
    · rw [show (maskB ⟨X.ρ, X.Ok, X.w.putObj L o2⟩ hp).w.heap.size = X.w.heap.size from hs2] at q; omega
    · exact hmo q
  have h4 : ∀ b : Nat, b ≠ L → (X3.w.putObj L oL).heap[b]? = X3.w.heap[b]? := fun b hb => World.putObj_heap_other hb
  have h4L : (X3.w.putObj L oL).heap[L]? = some oL := World.putObj_heap_same (by omega)
  have hown : ∀ n o b, nth hp' n = some o → o.live = true → blkOf X3 n = some b → (maskB X hp).own b ∨ X.w.heap.size ≤ b := fun n o b q1 q2 q3 => by
    rcases H3.ownNew n o b q1 q2 q3 with q | q
    · exact .inl q
    · rw [show (maskB ⟨X.ρ, X.Ok, X.w.putObj L o2⟩ hp).w.heap.size = X.w.heap.size from hs2] at q; exact .inr q
  have hneL : ∀ n o b, nth hp' n = some o → o.live = true → blkOf X3 n = some b → b ≠ L := fun n o b q1 q2 q3 e => by
    subst e
    rcases hown n o b q1 q2 q3 with q | q
    · exact hmo q
    · omega
  have E34 : Ext X3 ⟨X3.ρ, X3.Ok, X3.w.putObj L oL⟩ := ⟨fun _ _ e => e, fun _ e => e, fun b hb => h4 b (fun e => hok3 (e ▸ hb))⟩
  have hfr : ∀ b : Nat, b < X.w.heap.size → ¬ (maskB X hp).own b → (X3.w.putObj L oL).heap[b]? = X.w.heap[b]? := fun b hb ho => by
    by_cases e : b = L
    · subst e; rw [h4L, hL]
    · rw [h4 b e]
      exact (H3.fr b (by rw [show (maskB ⟨X.ρ, X.Ok, X.w.putObj L o2⟩ hp).w.heap.size = X.w.heap.size from hs2]; exact hb) ho).trans (h2 b e)
  have Hm : HRep (maskB X hp) ⟨X3.ρ, X3.Ok, X3.w.putObj L oL⟩ hp' := {
    len := H3.len
    obj := fun n o hn => RepO_mono E34 (fun b hl hb => h4 b (hneL n o b hn hl hb)) (H3.obj n o hn)
    inj := H3.inj
    sep := H3.sep
    okLt := fun b hb => by rw [size_putObj]; exact H3.okLt b hb
    ownNew := hown
    okOld := H3.okOld
    okNew := fun b hb => by
      rcases H3.okNew b hb with q | q | q
      · exact .inl q
      · rw [show (maskB ⟨X.ρ, X.Ok, X.w.putObj L o2⟩ hp).w.heap.size = X.w.heap.size from hs2] at q; exact .inr (.inl q)
      · exact .inr (.inr q)
    os := H3.os
    tape := H3.tape
    out := H3.out
    size := by rw [size_putObj]; exact hs3
    fr := hfr }
  have hxx : Ext X ⟨X3.ρ, X3.Ok, X3.w.putObj L oL⟩ := ⟨fun n v e => hx.ρ n v e, fun b e => hx.ok b e, fun b hb => by
    have hb' : b ≠ L := fun e => hok (e ▸ hb)
    rw [h4 b hb']
    exact (hx.st b hb).trans (h2 b hb')⟩
  exact ⟨H.unmask (M := hp) rfl (fun _ _ h _ => h) hxx Hm rfl (fun n o hn _ => .inl hn), hxx⟩

/-- Two new blocks. -/
theorem enter_two {B : Base} {X : HS} {h : List SO} (H : HRep B X h) (o1 o2 : Obj) : HRep B ⟨X.ρ, X.Ok, (X.w.alloc o1).alloc o2⟩ h ∧ Ext X ⟨X.ρ, X.Ok, (X.w.alloc o1).alloc o2⟩ := by
  have key : ∀ b : Nat, b < X.w.heap.size → ((X.w.alloc o1).alloc o2).heap[b]? = X.w.heap[b]? := fun b hb => by
    have one : ∀ (w : World) (o : Obj) (b : Nat), b < w.heap.size → (w.alloc o).heap[b]? = w.heap[b]? := fun w o b hb => by
      show (w.heap.push o)[b]? = w.heap[b]?
      rw [Array.getElem?_push, if_neg (by omega)]
    rw [one _ _ _ (by rw [World.size_alloc]; omega), one _ _ _ hb]
  refine H.world rfl rfl rfl (by rw [World.size_alloc, World.size_alloc]; omega) (fun b hb => key b (H.okLt b hb)) (fun n o b hn hl hb => key b (H.lt hn hl hb)) (fun b hb _ => key b (Nat.lt_of_lt_of_le hb H.size))

/-- Something is turned that is no object and was not there at first. -/
theorem turn_one {B : Base} {X : HS} {h : List SO} (H : HRep B X h) {L : Nat} (o : Obj) (hB : B.w.heap.size ≤ L) (hok : ¬ X.Ok L) (hno : ∀ n o, nth h n = some o → o.live = true → blkOf X n ≠ some L) :
    HRep B ⟨X.ρ, X.Ok, X.w.putObj L o⟩ h ∧ Ext X ⟨X.ρ, X.Ok, X.w.putObj L o⟩ :=
  H.world rfl rfl rfl (by rw [size_putObj]; exact Nat.le_refl _) (fun b hb => World.putObj_heap_other (fun e => hok (e ▸ hb))) (fun n ob b hn hl hb => World.putObj_heap_other (fun e => hno n ob hn hl (e ▸ hb)))
    (fun b hb _ => World.putObj_heap_other (by omega))

theorem wpInQ {F : Fence} {n : Nat} {P : Program} {o : Oper} {a : Act} {w : World} {K K2 : Act → World → Prop} {Q : Exit → Act → World → Prop} (h : o.wpIn F n P a w K (Exit.then K2 Q)) : o.wpIn F n P a w K Q := by
  refine ⟨h.1, ?_⟩
  have h2 := h.2
  generalize (o.semAt F.round a.eval).run P w = r at h2
  cases r with
  | ok x w' =>
    cases x with
    | enter f args => exact ⟨h2.1, h2.2.mono fun e w'' he => by cases e <;> exact he⟩
    | round l f tmps assign body => exact ⟨h2.1, h2.2.mono fun e w'' he => by cases e <;> exact he⟩
    | row row args => exact h2
    | value v => exact h2
    | skip => exact h2
    | defer d => exact h2
    | _ => exact h2.elim
  | halt x w' => cases x <;> first | exact h2 | exact h2.elim

theorem wpListIn_app {F : Fence} {n : Nat} {P : Program} {ops : Array Oper} {Q : Exit → Act → World → Prop} {l2 : List Oper} : ∀ (l1 : List Oper) (a : Act) (w : World), wpListIn F n P ops (Exit.then (wpListIn F n P ops Q l2) Q) l1 a w → wpListIn F n P ops Q (l1 ++ l2) a w
  | [], a, w, h => h
  | o :: l1, a, w, h => by
    simp only [List.cons_append]
    unfold wpListIn at h ⊢
    split
    · rename_i hw
      rw [if_pos hw] at h
      refine wpInQ (Oper.wpIn_mono (fun a w q => wpListIn_app l1 a w q) h)
    · rename_i hw
      rw [if_neg hw] at h
      exact ⟨h.1, wpListIn_app l1 _ w h.2⟩

/-! ### Code up to a place -/

/-- The code that begins at a place of a function's spine. -/
def tailOf (key : Nat) : Code → Code
  | .seq a b => bif Nat.beq (keyOf (.seq a b)) key then .seq a b else tailOf key b
  | c => c

def execV {R : Type} (E : Env) (C : Cfg) (N H key : Nat) : Code → St → (Option Ex → St → Option R) → Option R
  | .seq a b, s, k => bif Nat.beq (keyOf (.seq a b)) key then k none s else execC E C N H a s fun e s' => match e with
    | .normal => bif isRegion a then execV E C N H key b s' k else canonK (C.keep (keyOf b)) H s' fun s'' => execV E C N H key b s'' k
    | e => k (some e) s'
  | _, _, _ => none

theorem execV_sound {E : Env} (hE : EnvOk E) (hm : E.P.follows .mixedOrders = true) {R : Type} {B : Base} {C : Cfg} {N H key : Nat} {r : R} : ∀ (c : Code) (k : Option Ex → St → Option R) (s : St) (a : Act) (X : HS) (Q : Exit → Act → World → Prop),
    LmOk E C N c → StOk B N X s a → execV E C N H key c s k = some r → (∀ e s' a' X', e ≠ Ex.normal → StOk B N X' s' a' → ExtN H X X' → k (some e) s' = some r → Q e.exit' a' X'.w) →
    (∀ s' a' X', StOk B N X' s' a' → ExtN H X X' → k none s' = some r → (tailOf key c).wp E.P Q a' X'.w) → c.wp E.P Q a X.w
  | .seq x y, k, s, a, X, Q, hlm, hs, h, hq, ht => by
    have hl1 : LmOk E C N x := fun b hb => hlm b (by simp [loops, hb])
    have hl2 : LmOk E C N y := fun b hb => hlm b (by simp [loops, hb])
    simp only [execV] at h
    cases hk : Nat.beq (keyOf (.seq x y)) key with
    | true =>
      rw [hk] at h
      have := ht s a X hs (.refl _ _) h
      simp only [tailOf, hk, cond_true] at this
      exact this
    | false =>
      rw [hk] at h
      have ht' : ∀ s' a' X', StOk B N X' s' a' → ExtN H X X' → k none s' = some r → (tailOf key y).wp E.P Q a' X'.w := by
        intro s' a' X' q1 q2 q3
        have := ht s' a' X' q1 q2 q3
        simp only [tailOf, hk, cond_false] at this
        exact this
      simp only [cond_false] at h
      refine wp_seq (execC_sound hE hm x _ s a X _ hl1 hs h ?_)
      intro e s' a' X' hs' hx' hk'
      cases e with
      | normal =>
        simp only at hk'
        cases hr : isRegion x with
        | true =>
          rw [hr] at hk'
          exact execV_sound hE hm y k s' a' X' Q hl2 hs' hk' (fun e s'' a'' X'' h0 h1 h2 h3 => hq e s'' a'' X'' h0 h1 (hx'.trans h2) h3) (fun s'' a'' X'' h1 h2 h3 => ht' s'' a'' X'' h1 (hx'.trans h2) h3)
        | false =>
          rw [hr] at hk'
          simp only [cond_false] at hk'
          obtain ⟨s1, X1, e1, hs1, hx1, h1⟩ := canonK_sound hs' hk'
          simp only [Exit.then, Ex.exit']
          rw [← e1]
          exact execV_sound hE hm y k s1 a' X1 Q hl2 hs1 h1 (fun e s'' a'' X'' h0 h2 h3 h4 => hq e s'' a'' X'' h0 h2 (hx'.trans (hx1.trans h3)) h4) (fun s'' a'' X'' h2 h3 h4 => ht' s'' a'' X'' h2 (hx'.trans (hx1.trans h3)) h4)
      | exit id => exact hq (.exit id) s' a' X' (fun e => by cases e) hs' hx' hk'
      | ret => exact hq .ret s' a' X' (fun e => by cases e) hs' hx' hk'
  | .skip, k, s, a, X, Q, hlm, hs, h, hq, ht => by simp [execV] at h
  | .region _ _ _, k, s, a, X, Q, hlm, hs, h, hq, ht => by simp [execV] at h
  | .cond _ _ _, k, s, a, X, Q, hlm, hs, h, hq, ht => by simp [execV] at h
  | .block _ _, k, s, a, X, Q, hlm, hs, h, hq, ht => by simp [execV] at h
  | .loop _, k, s, a, X, Q, hlm, hs, h, hq, ht => by simp [execV] at h
  | .exit _, k, s, a, X, Q, hlm, hs, h, hq, ht => by simp [execV] at h
  | .ret, k, s, a, X, Q, hlm, hs, h, hq, ht => by simp [execV] at h
  | .rangeFunc _ _ _ _, k, s, a, X, Q, hlm, hs, h, hq, ht => by simp [execV] at h
  | .scope _, k, s, a, X, Q, hlm, hs, h, hq, ht => by simp [execV] at h
  | .label _, k, s, a, X, Q, hlm, hs, h, hq, ht => by simp [execV] at h
  | .goto _, k, s, a, X, Q, hlm, hs, h, hq, ht => by simp [execV] at h
  | .refuse _, k, s, a, X, Q, hlm, hs, h, hq, ht => by simp [execV] at h

/-- A function's typed run is a contract. -/
theorem pm_of {P : Program} {f : Nat} {gs : List GT} {many : Bool} {g : GT} {model : tyL gs → Option g.ty}
    (hc : callable P f) (hr : FRun P f gs (retK many g) model) : PmOk P (entry f gs many g model) := by
  constructor
  · intro args h res x hr0 hx
    simp only [entry] at hr0 ⊢
    obtain ⟨hflat, hr0⟩ := bif_some hr0
    split at hr0
    · rename_i xs hxs
      simp only [Option.some.injEq] at hr0
      subst hr0
      simp only at hx x ⊢
      refine ⟨hc, fun B X H vals hvals => ?_⟩
      have H0 : HRep ⟨X.w, fun _ => False, okS X h (ownsAll args)⟩ ⟨[], okS X h (ownsAll args), X.w⟩ [] := by
        refine ⟨rfl, ?_, ?_, ?_, ?_, ?_, fun _ hb => hb, fun _ hb => .inl hb, rfl, rfl, rfl, Nat.le_refl _, fun _ _ _ => rfl⟩
        · intro n o hn; simp [nth_eq] at hn
        · intro n m o o' hn; simp [nth_eq] at hn
        · intro n o hn; simp [nth_eq] at hn
        · rintro b (hb | ⟨n, o, _, h2, h3, h4⟩)
          · exact H.okLt b hb
          · exact H.lt h2 h3 h4
        · intro n o b hn; simp [nth_eq] at hn
      have ha := coeL_rep H args gs xs vals hxs hvals ⟨[], okS X h (ownsAll args), X.w⟩ (fun _ hb => hb) rfl
      refine (hr xs _ hx _ _ H0 _ ha).mono ?_
      rintro e w' ⟨val, X', h', v, rfl, _, H', rfl, hv, hk⟩
      -- the caller's view of the end
      have hlt : ∀ n o b, nth h n = some o → o.live = true → blkOf X n = some b → b < X.w.heap.size := fun n o b hn hl hb => H.lt hn hl hb
      have hfr : ∀ b : Nat, b < X.w.heap.size → X'.w.heap[b]? = X.w.heap[b]? := fun b hb => H'.fr b hb (fun h => h)
      obtain ⟨H1, E1⟩ := H.world (w' := X'.w) H'.os H'.tape H'.out H'.size (fun b hb => hfr b (H.okLt b hb)) (fun n o b hn hl hb => hfr b (hlt n o b hn hl hb)) (fun b hb _ => hfr b (Nat.lt_of_lt_of_le hb H.size))
      have S0 : ∀ ns, ∃ S : Nat → Prop, (∀ b, S b → b < X'.w.heap.size) ∧ (∀ b, S b → X.w.heap.size ≤ b) ∧ (∀ b, okS X' h' ns b → b < X.w.heap.size ∨ S b) := by
        intro ns
        refine ⟨fun b => okS X' h' ns b ∧ X.w.heap.size ≤ b, ?_, fun b hb => hb.2, fun b hb => ?_⟩
        · rintro b ⟨hb | ⟨n, o, _, h2, h3, h4⟩, _⟩
          · exact H'.okLt b hb
          · exact H'.lt h2 h3 h4
        · rcases Nat.lt_or_ge b X.w.heap.size with hlt | hge
          · exact .inl hlt
          · exact .inr ⟨hb, hge⟩
      obtain ⟨S, s1, s2, s3⟩ := S0 v.owns
      obtain ⟨H2, E2⟩ := H1.okMore S s1 (fun b hb => .inr (Nat.le_trans H.size (s2 b hb))) (fun n o hn hl b hb hS => by
        have h1 := hlt n o b hn hl hb
        have h2 := s2 b hS
        omega)
      -- what is known to be fixed, of the result
      have hok : ownsAll args = [] → ∀ b, okS X' h' v.owns b → X.Ok b ∨ S b := by
        intro e b hb
        have hold : b < X.w.heap.size → X.Ok b := by
          intro hb'
          rcases hb with hb | ⟨n, o, _, h2, h3, h4⟩
          · rcases H'.okNew b hb with (h1 | ⟨n, o, h1, _⟩) | h1 | h1
            · exact h1
            · rw [e] at h1; cases h1
            · simp only at h1; omega
            · exact h1.elim
          · rcases H'.ownNew n o b h2 h3 h4 with h1 | h1
            · exact h1.elim
            · simp only at h1; omega
        rcases s3 b hb with h1 | h1
        · exact .inl (hold h1)
        · exact .inr h1
      have conv : ∀ (g' : GT) (y : g'.ty) cs, (g.flat = true → g'.flat = true) → RepD (okS X' h' v.owns) X'.w.heap g' y cs → RepD (fun b => X.Ok b ∨ S b) X'.w.heap g' y cs := by
        intro g' y cs hg hd
        simp only [Bool.or_eq_true, Nat.beq_eq, List.length_eq_zero_iff] at hflat
        rcases hflat with e | e
        · exact RepD_mono (hok e) (fun _ _ => rfl) g' y cs hd
        · exact RepD_flat g' y cs (hg e) hd
      refine ⟨val, ⟨X.ρ, fun b => X.Ok b ∨ S b, X'.w⟩, rfl, E1.trans E2, H2, rfl, ?_⟩
      unfold retK at hk
      cases many with
      | true =>
        simp only [cond_true] at hk
        split at hk
        · rename_i l
          obtain ⟨us, h1, h2⟩ := hv
          exact ⟨us, coeT_rep H' l g x us hk h1 _ conv, h2⟩
        · cases hk
      | false =>
        simp only [cond_false] at hk
        obtain ⟨cs, h1, h2⟩ := rdV_rep H' hk hv
        exact ⟨cs, conv g x cs (fun e => e) h1, by rw [h2]⟩
    · cases hr0
  · intro args h res l hr
    simp only [entry] at hr ⊢
    obtain ⟨hflat, hr⟩ := bif_some hr
    split at hr
    · rename_i xs hxs
      rw [hflat, coeL_app l _ _ _ hxs]
      exact hr
    · cases hr

end Go.Eng
