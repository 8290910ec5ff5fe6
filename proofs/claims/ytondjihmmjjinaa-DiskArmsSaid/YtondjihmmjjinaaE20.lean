/- The engine, part 20: whatever order a region draws: the proof; regions whole. -/
import Derived.Test.YtondjihmmjjinaaE19D
namespace Go.Eng
open Go
set_option linter.unusedVariables false
set_option linter.unusedSimpArgs false

theorem RegsOk.put2 {X Y : HS} {a : Act} {lo lo' : Nat → Option (Option (Nat × Bool) × SV)} {r : Rc} {val : Value} (hR : RegsOk X a lo) (hx : ExtW X Y) (hd : ∀ d, r.dst = some d → d < a.tmps.size)
    (hlo : ∀ t, lo' t = if r.dst = some t then some (r.g, r.v) else lo t) (hgs : ∀ t g v d, lo t = some (some g, v) → r.dst = some d → g.1 ≠ d) (hgr : ∀ g d, r.g = some g → r.dst = some d → g.1 ≠ d)
    (hv : ∀ d, r.dst = some d → match r.g with
      | none => Rep Y r.v .val [val]
      | some g => (a.tmps.getD g.1 undef = .bool g.2 → Rep Y r.v .val [val]) ∧ (a.tmps.getD g.1 undef ≠ .bool g.2 → val = undef)) :
    RegsOk Y (a.put r.dst val) lo' := by
  intro t g v hl
  rw [hlo] at hl
  cases hdd : r.dst with
  | none =>
    rw [if_neg (by rw [hdd]; simp)] at hl
    simp only [Act.put]
    have := hR t g v hl
    cases g with
    | none => exact Rep_weak hx _ _ _ this
    | some g => exact ⟨fun e => Rep_weak hx _ _ _ (this.1 e), this.2⟩
  | some d =>
    have hds := hd d hdd
    by_cases e : d = t
    · subst e
      rw [if_pos hdd] at hl
      simp only [Option.some.injEq, Prod.mk.injEq] at hl
      obtain ⟨rfl, rfl⟩ := hl
      have hv' := hv d hdd
      cases hgg : r.g with
      | none =>
        rw [hgg] at hv'
        simp only at hv' ⊢
        rw [put_get hds, if_pos rfl]
        exact hv'
      | some g =>
        rw [hgg] at hv'
        simp only at hv' ⊢
        rw [put_get hds, put_get hds, if_neg (hgr g d hgg hdd), if_pos rfl]
        exact hv'
    · rw [if_neg (by rw [hdd]; simpa using e)] at hl
      have := hR t g v hl
      cases g with
      | none =>
        simp only at this ⊢
        rw [put_get hds, if_neg (fun h => e h.symm)]
        exact Rep_weak hx _ _ _ this
      | some g =>
        simp only at this ⊢
        rw [put_get hds, put_get hds, if_neg (hgs t g v d hl hdd), if_neg (fun h => e h.symm)]
        exact ⟨fun e => Rep_weak hx _ _ _ (this.1 e), this.2⟩

section
variable {E : Env} {ops : List Oper} {base : List (Nat × SV)} {recs : List Rc} {h0 : List SO} {S : Nat → Bool}

theorem Lex.gin (L : Lex E ops base recs h0) (hc : Closed ops S) {k : Nat} {rc : Rc} {g : Nat × Bool} (hr : recs[k]? = some rc) (hg : rc.g = some g) (hk : S k = true) : ∃ j rj, recs[j]? = some rj ∧ rj.dst = some g.1 ∧ S j = true := by
  obtain ⟨j, rj, j1, j2, j3, ok, j4, j5⟩ := L.guards hr hg
  refine ⟨j, rj, j1, j2, ?_⟩
  obtain ⟨oj, hoj⟩ := L.oper j1
  have hdj : oj.dst = some g.1 := by rw [← (L.step j oj rj hoj j1).1]; exact j2
  have hp := L.pairs j k oj ok j3 hoj j4
  simp only [pairOk, Bool.or_eq_true, Bool.and_eq_true] at hp
  rcases hp with hp | hp
  · exact bef_listed L.edges hc k ok j j4 hp (hc k ok j4 hk)
  · have := hp.1.1
    simp [hdj, beq_any j5] at this

theorem loS_entry {t : Nat} {g : Nat × Bool} {v : SV} (hl : loS S recs base t = some (some g, v)) : ∃ k rc, recs[k]? = some rc ∧ rc.dst = some t ∧ S k = true ∧ rc.g = some g := by
  unfold loS at hl
  cases e : lkS S recs 0 t with
  | some x =>
    rw [e] at hl
    simp only [Option.some.injEq] at hl
    subst hl
    obtain ⟨k, r, h1, h2, h3, h4⟩ := lkS_some recs 0 t _ e
    rw [Nat.zero_add] at h3
    simp only [Prod.mk.injEq] at h4
    exact ⟨k, r, h1, h2, h3, h4.1.symm⟩
  | none =>
    rw [e] at hl
    simp only at hl
    split at hl <;> simp at hl

/-- One operation more is listed. -/
theorem loS_add (hu : Uniq recs) {S' : Nat → Bool} {i : Nat} {rc : Rc} (hr : recs[i]? = some rc) (hS : ∀ k, S' k = true ↔ (S k = true ∨ k = i)) (t : Nat) :
    loS S' recs base t = if rc.dst = some t then some (rc.g, rc.v) else loS S recs base t := by
  by_cases hd : rc.dst = some t
  · rw [if_pos hd]
    unfold loS
    rw [lkS_at hu hr hd, if_pos ((hS i).2 (.inr rfl))]
  · rw [if_neg hd]
    unfold loS
    have e : lkS S' recs 0 t = lkS S recs 0 t := by
      cases h : lkS S recs 0 t with
      | some e =>
        obtain ⟨k, r, h1, h2, h3, h4⟩ := lkS_some recs 0 t e h
        rw [Nat.zero_add] at h3
        rw [lkS_at hu h1 h2, if_pos ((hS k).2 (.inl h3)), h4]
      | none =>
        rw [lkS_not]
        intro k r h1 h2
        have := lkS_none recs 0 t h k r h1 h2
        rw [Nat.zero_add] at this
        cases hs : S' k with
        | false => rfl
        | true =>
          rcases (hS k).1 hs with h3 | h3
          · rw [this] at h3; cases h3
          · subst h3
            rw [hr] at h1
            cases h1
            exact absurd h2 hd
    rw [e]

theorem loS_all {S' : Nat → Bool} (hu : Uniq recs) (h : ∀ k r, recs[k]? = some r → S k = S' k) : loS S recs base = loS S' recs base := by
  funext t
  unfold loS
  have e : lkS S recs 0 t = lkS S' recs 0 t := by
    cases hq : lkS S' recs 0 t with
    | some e =>
      obtain ⟨k, r, h1, h2, h3, h4⟩ := lkS_some recs 0 t e hq
      rw [Nat.zero_add] at h3
      rw [lkS_at hu h1 h2, if_pos (by rw [h k r h1]; exact h3), h4]
    | none =>
      rw [lkS_not]
      intro k r h1 h2
      have := lkS_none recs 0 t hq k r h1 h2
      rw [Nat.zero_add] at this
      rw [h k r h1, this]
  rw [e]

theorem footK_congr {E : Env} {o : Op} {ev ev' : Operand → Option SV} {h : List SO} (he : ∀ x ∈ o.operands, ev x = ev' x) : footK E o ev h = footK E o ev' h := by
  cases o <;> simp only [footK] <;> (try rfl) <;> simp only [Op.operands] at he
  case load t a => rw [he a (by simp)]
  case store t a x => rw [he a (by simp), he x (by simp)]
  case indexAddr t x i => rw [he x (by simp)]
  case slice t x lo hi mx => rw [he x (by simp)]
  case call c =>
    obtain ⟨callee, args, tys⟩ := c
    simp only [Call.operands] at he
    cases callee with
    | value f => simp only; rw [he f (by simp), evs_congr args.toList (fun x hx => he x (by simp at hx ⊢; exact .inr hx))]
    | invoke _ _ => rfl
    | builtin b =>
      cases b <;> try rfl
      simp only
      rw [evs_congr args.toList (fun x hx => he x (by simpa using hx))]

/-- The step of an operation over the table of what is listed. -/
theorem Lex.conv (L : Lex E ops base recs h0) (hc : Closed ops S) {i : Nat} {o : Oper} {rc : Rc} (ho : ops[i]? = some o) (hr : recs[i]? = some rc) (hi : S i = false) (hall : ∀ e ∈ o.after, Region.binds .any e = true → S e.on = true)
    {gc un : Bool} {gs : List (Nat × Bool)} (hcls : rc.cls = clsK E o.op (opnd (look ((recs.take i).reverse) base) gs) ∧ rc.foot = footK E o.op (opnd (look ((recs.take i).reverse) base) gs) (heapAt h0 recs i))
    (hk : opK E o gc un (opnd (look ((recs.take i).reverse) base) gs) (fun t w => opnd (look ((recs.take i).reverse) base) ((t, w) :: gs)) (heapAt h0 recs i) pair = some (rc.v, rc.h)) :
    opK E o gc un (opnd (loS S recs base) gs) (fun t w => opnd (loS S recs base) ((t, w) :: gs)) (heapAt h0 recs i) pair = some (rc.v, rc.h) ∧ rc.cls = clsK E o.op (opnd (loS S recs base) gs) ∧ rc.foot = footK E o.op (opnd (loS S recs base) gs) (heapAt h0 recs i) ∧ (∀ x ∈ o.op.operands, ∀ gs u, opnd (loS S recs base) gs x = some u → ∀ n ∈ u.names, n < (heapAt h0 recs i).length) := by
  have hlk : look ((recs.take i).reverse) base = loS (fun k => decide (k < i)) recs base := funext (look_lex L.uniq i)
  have hsame : ∀ x ∈ o.op.operands, ∀ gs, opnd (look ((recs.take i).reverse) base) gs x = opnd (loS S recs base) gs x := by
    intro x hx gs
    cases x with
    | tmp t =>
      have ht : t ∈ looksAt ops o := by
        simp only [looksAt, List.mem_append, List.mem_filterMap]
        exact .inl ⟨.tmp t, by simpa using hx, rfl⟩
      simp only [opnd]
      rw [hlk, (L.sees hc ho hi hall ht).1]
    | _ => rfl
  have hil : i < ops.length := (List.getElem?_eq_some_iff.1 ho).1
  refine ⟨?_, ?_, ?_, fun x hx gs u hu => L.argNames (i := i) (by omega) (gs := gs) (x := x) (by rw [hsame x hx gs]; exact hu)⟩
  · rw [← opK_congr (fun x hx => hsame x hx gs) (fun c t x hx => hsame x hx _)]
    exact hk
  · rw [hcls.1]; exact clsK_congr (fun x hx => hsame x hx gs)
  · rw [hcls.2]; exact footK_congr (fun x hx => hsame x hx gs)

end

theorem countP_set {n i : Nat} {p q : Nat → Bool} (hi : i < n) (hp : p i = true) (hq : q i = false) (h : ∀ k, k ≠ i → q k = p k) : (List.range n).countP p = (List.range n).countP q + 1 := by
  induction n with
  | zero => omega
  | succ n ih =>
    rw [List.range_succ, List.countP_append, List.countP_append]
    by_cases e : i = n
    · subst e
      have : (List.range i).countP p = (List.range i).countP q := by
        apply List.countP_congr
        intro k hk
        rw [h k (by have := List.mem_range.1 hk; omega)]
      simp [this, hp, hq]
    · rw [ih (by omega)]
      simp only [List.countP_cons, List.countP_nil, Nat.zero_add]
      rw [h n (fun e' => e e'.symm)]
      omega

theorem any_sound {E : Env} {ops : List Oper} {base : List (Nat × SV)} {recs : List Rc} {h0 : List SO} (L : Lex E ops base recs h0) {B : Base} {N : Nat} (hN : ∀ (i : Nat) (o : Oper) (d : Nat), ops[i]? = some o → o.dst = some d → d < N)
    {Q : Exit → Act → World → Prop} {X0 : HS} (hlen0 : X0.ρ.length = h0.length) (hq : ∀ a X, Ext X0 X → RegsOk X a (loS (fun _ => true) recs base) → HRep B X (heapAt h0 recs ops.length) → a.tmps.size = N → a.defers = [] → Q .normal a X.w) :
    ∀ (fuel : Nat) (listed : Array Bool) (a : Act) (X : HS) (G : List SO) (c : Nat), Ext X0 X → listed.size = ops.length → Closed ops (fun k => listed.getD k false) → RegsOk X a (loS (fun k => listed.getD k false) recs base) → HRep B X G →
    Grp ops recs h0 (fun k => listed.getD k false) X G c → a.tmps.size = N → a.defers = [] → (List.range ops.length).countP (fun k => !listed.getD k false) = fuel →
    wpAny E.P .any ops.toArray Q fuel listed a X.w := by
  -- nothing is ready: everything is listed
  have done : ∀ (listed : Array Bool), listed.size = ops.length → Region.ready .any ops.toArray listed = [] → ∀ k, k < ops.length → listed.getD k false = true := by
    intro listed hsz hr k
    induction k using Nat.strongRecOn with
    | _ k ih =>
      intro hk
      cases hs : listed.getD k false with
      | true => rfl
      | false =>
        exfalso
        have : k ∈ Region.ready .any ops.toArray listed := by
          rw [mem_ready]
          refine ⟨?_, ops[k], by simp [hk], fun e he hb => ?_⟩
          · have hks : k < listed.size := by omega
            simp [hks] at hs ⊢
            exact hs
          · have := edgesOk_spec ops 0 L.edges k _ (List.getElem?_eq_getElem hk) e he hb
            exact ih e.on (by omega) (by omega)
        rw [hr] at this
        cases this
  have finish : ∀ (listed : Array Bool) (a : Act) (X : HS) (G : List SO) (c : Nat), Ext X0 X → listed.size = ops.length → RegsOk X a (loS (fun k => listed.getD k false) recs base) → HRep B X G →
      Grp ops recs h0 (fun k => listed.getD k false) X G c → a.tmps.size = N → a.defers = [] → Region.ready .any ops.toArray listed = [] → Q .normal a X.w := by
    intro listed a X G c hX0 hsz hR H g hsize hdef hr
    have hall := done listed hsz hr
    have hlt : ∀ (k : Nat) (r : Rc), recs[k]? = some r → k < ops.length := fun k r hk => by rw [← L.len]; exact (List.getElem?_eq_some_iff.1 hk).1
    rw [loS_all (S' := fun _ => true) L.uniq (fun k r hk => hall k (hlt k r hk))] at hR
    refine hq a X hX0 hR ?_ hsize hdef
    rw [← g.all L hall]
    exact H
  intro fuel
  induction fuel with
  | zero =>
    intro listed a X G c hX0 hsz hcl hR H hg hsize hdef hcnt
    have hr : Region.ready .any ops.toArray listed = [] := by
      cases hrr : Region.ready .any ops.toArray listed with
      | nil => rfl
      | cons i l =>
        exfalso
        have hi : i ∈ Region.ready .any ops.toArray listed := by rw [hrr]; simp
        obtain ⟨h1, o, h2, _⟩ := mem_ready.1 hi
        have hil : i < ops.length := by
          have := (Array.getElem?_eq_some_iff.1 h2).1
          simpa using this
        have := List.countP_eq_zero.1 hcnt i (List.mem_range.2 hil)
        have hks : i < listed.size := by omega
        simp [hks] at h1 this
        rw [h1] at this; cases this
    exact ⟨hr, finish listed a X G c hX0 hsz hR H hg hsize hdef hr⟩
  | succ fuel ih =>
    intro listed a X G c hX0 hsz hcl hR H hg hsize hdef hcnt
    refine ⟨finish listed a X G c hX0 hsz hR H hg hsize hdef, fun i hi => ?_⟩
    obtain ⟨hun, o, ho', hall⟩ := mem_ready.1 hi
    have ho : ops[i]? = some o := by simpa using ho'
    have hil : i < ops.length := (List.getElem?_eq_some_iff.1 ho).1
    have his : i < listed.size := by omega
    have hi0 : listed.getD i false = false := by simp [his] at hun ⊢; exact hun
    obtain ⟨rc, hr⟩ := L.rcd ho
    have hS : ∀ k, (listed.setIfInBounds i true).getD k false = true ↔ (listed.getD k false = true ∨ k = i) := by
      intro k
      by_cases e : i = k
      · subst e; simp [his]
      · rw [getD_set_ne false e]
        constructor
        · exact .inl
        · rintro (h | h)
          · exact h
          · exact absurd h.symm e
    have hst := L.step i o rc ho hr
    have hdst := hst.1
    -- what follows, from any state in which the operation's result stands
    have next : ∀ (X' : HS) (G' : List SO) (c' : Nat) (val : Value), ExtW X X' → Ext X0 X' → HRep B X' G' → Grp ops recs h0 (fun k => (listed.setIfInBounds i true).getD k false) X' G' c' →
        (∀ d, rc.dst = some d → match rc.g with
          | none => Rep X' rc.v .val [val]
          | some g => (a.tmps.getD g.1 undef = .bool g.2 → Rep X' rc.v .val [val]) ∧ (a.tmps.getD g.1 undef ≠ .bool g.2 → val = undef)) →
        wpAny E.P .any ops.toArray Q fuel (listed.setIfInBounds i true) (a.put o.dst val) X'.w := by
      intro X' G' c' val hx hx0 H' hg' hv
      refine ih (listed.setIfInBounds i true) (a.put o.dst val) X' G' c' hx0 (by simpa using hsz) ?_ ?_ H' hg' (by rw [put_size']; exact hsize) (by rw [put_defers']; exact hdef) ?_
      · intro k ok hok hk e he hb
        rcases (hS k).1 hk with h | h
        · exact (hS e.on).2 (.inl (hcl k ok hok h e he hb))
        · subst h
          rw [ho] at hok
          cases hok
          exact (hS e.on).2 (.inl (hall e he hb))
      · rw [← hdst]
        refine hR.put2 (r := rc) hx (fun d hd => ?_) (loS_add L.uniq hr hS) ?_ ?_ hv
        · rw [hsize]
          exact hN i o d ho (by rw [← hdst]; exact hd)
        · intro t g v d hl hd e
          obtain ⟨k, rk, k1, k2, k3, k4⟩ := loS_entry hl
          obtain ⟨j, rj, j1, j2, j3⟩ := L.gin hcl k1 k4 k3
          have : i = j := L.uniq i j rc rj d hr j1 hd (by rw [j2, e])
          subst this
          rw [hi0] at j3; cases j3
        · intro g d hg hd e
          obtain ⟨j, rj, j1, j2, j3, _⟩ := L.guards hr hg
          have : i = j := L.uniq i j rc rj d hr j1 hd (by rw [j2, e])
          omega
      · have := countP_set (n := ops.length) (i := i) (p := fun k => !listed.getD k false) (q := fun k => !(listed.setIfInBounds i true).getD k false) hil (by simp only [hi0, Bool.not_false])
          (by simp only [(hS i).2 (.inr rfl), Bool.not_true]) (fun k hk => by simp only [getD_set_ne false (Ne.symm hk)])
        omega
    unfold wpOp
    rw [ho']
    simp only
    rcases hst.2 with ⟨s1, s2, s3, s4⟩ | ⟨j, w, t, cc, gs, s1, s2, s3, s4, s5, s6, s7⟩
    · rw [if_pos (by simp [Region.wanted, s1])]
      left
      obtain ⟨hk, k1, k2, k3⟩ := L.conv hcl ho hr hi0 hall s3 s4
      obtain ⟨Br, Xr, Gr, ev', evg', v', h'', Hr, wr, t1, t2, e1, e2⟩ := hg.step L H hX0 hlen0 hcl ho hr hi0 hall hS k1 k2 (fun x v hv => ⟨_, opnd_rep hR (by simp) hv⟩) (fun x hx u hu => k3 x hx _ u hu) (fun t w x hx u hu => k3 x hx _ u hu) hk
      rw [← wr]
      refine op_sound L.ok Hr (fun x v hv => (t1 x v hv).2 _ (opnd_rep hR (by simp) (t1 x v hv).1)) (fun c t x v hv hc => (t2 c t x v hv).2 _ (opnd_rep hR (gs := [(c, t)]) (by intro g hg; simp only [List.mem_singleton] at hg; subst hg; exact hc) (t2 c t x v hv).1)) e1 ?_
      intro X' h3 v val hx H' hv hk'
      obtain ⟨rfl, rfl⟩ := pinj hk'
      obtain ⟨X2, G2, c2, w2, x2, x3, H2, g2, rv⟩ := e2 X' val hx H' hv
      rw [← w2]
      exact next X2 G2 c2 val x2 x3 H2 g2 (fun d _ => by rw [s2]; exact rv)
    · have hlk : look ((recs.take i).reverse) base = loS (fun k => decide (k < i)) recs base := funext (look_lex L.uniq i)
      have ht : t ∈ looksAt ops o := by simp [looksAt, s1, s2]
      have hgc : gcOf (loS (fun k => listed.getD k false) recs base) 6 (t, w) = some (cc, gs) := by
        rw [L.gc hcl ho hi0 hall ht 6 w, ← hlk]; exact s3
      obtain ⟨c1, c2⟩ := gcOf_sound hR 6 t w cc gs hgc
      have hw := wanted_iff (a := a) s1 s2
      cases cc with
      | true =>
        have hsat := c1.1 rfl
        rw [if_pos (hw.2 hsat)]
        left
        obtain ⟨hk, k1, k2, k3⟩ := L.conv hcl ho hr hi0 hall s6 s7
        obtain ⟨Br, Xr, Gr, ev', evg', v', h'', Hr, wr, t1, t2, e1, e2⟩ := hg.step L H hX0 hlen0 hcl ho hr hi0 hall hS k1 k2 (fun x v hv => ⟨_, opnd_rep hR (c2 rfl) hv⟩) (fun x hx u hu => k3 x hx _ u hu) (fun t w x hx u hu => k3 x hx _ u hu) hk
        rw [← wr]
        refine op_sound L.ok Hr (fun x v hv => (t1 x v hv).2 _ (opnd_rep hR (c2 rfl) (t1 x v hv).1)) (fun c t x v hv hc => (t2 c t x v hv).2 _ (opnd_rep hR (gs := (c, t) :: gs) (by
          intro g hg
          rcases List.mem_cons.1 hg with rfl | hg
          · exact hc
          · exact c2 rfl g hg) (t2 c t x v hv).1)) e1 ?_
        intro X' h3 v val hx H' hv hk'
        obtain ⟨rfl, rfl⟩ := pinj hk'
        obtain ⟨X2, G2, c2', w2, x2, x3, H2, g2, rv⟩ := e2 X' val hx H' hv
        rw [← w2]
        exact next X2 G2 c2' val x2 x3 H2 g2 (fun d _ => by rw [s5]; exact ⟨fun _ => rv, fun hne => absurd hsat hne⟩)
      | false =>
        have hns : ¬ a.tmps.getD t undef = .bool w := fun e => by have := c1.2 e; cases this
        rw [if_neg (fun e => hns (hw.1 e))]
        obtain ⟨v, hk'⟩ := opK_skip s7
        obtain ⟨e0, e⟩ := pinj hk'
        obtain ⟨X2, G2, c2', w2, x2, x3, H2, g2⟩ := hg.skip L H hX0 hcl ho hr hi0 hall hS e
        rw [← w2]
        exact next X2 G2 c2' undef x2 x3 H2 g2 (fun d _ => by rw [s5]; exact ⟨fun e => absurd e hns, fun _ => rfl⟩)

end Go.Eng
