/- The engine, part 19: whatever order a region draws. -/
import Derived.Test.YtondjihmmjjinaaE18D
namespace Go.Eng
open Go
set_option linter.unusedVariables false
set_option linter.unusedSimpArgs false

theorem opK_zero {E : Env} (hE : EnvOk E) {o : Oper} {gc un : Bool} {ev : Operand → Option SV} {evg : Nat → Bool → Operand → Option SV} {h h' : List SO} {v : SV} (hc : clsK E o.op ev = 0)
    (hk : opK E o gc un ev evg h pair = some (v, h')) : h' = h ∧ ∀ h2, opK E o gc un ev evg h2 pair = some (v, h2) := by
  have key : ∀ h2, opK E o gc un ev evg h2 pair = some (v, h2) ∧ h' = h := by
    intro h2
    rw [opK_ind hc h h2, opK_nat hE] at hk
    obtain ⟨⟨u, k⟩, e1, e2⟩ := Option.bind_eq_some_iff.1 hk
    obtain ⟨rfl, rfl⟩ := pinj e2
    have e3 := e1
    rw [opK_ind hc h2 h2, opK_nat hE] at e3
    obtain ⟨⟨u', k'⟩, e4, e5⟩ := Option.bind_eq_some_iff.1 e3
    obtain ⟨e6, e7⟩ := pinj e5
    subst e7
    exact ⟨e1, rfl⟩
  exact ⟨(key h).2, fun h2 => (key h2).1⟩

theorem gcOf_congr {lo lo' : Nat → Option (Option (Nat × Bool) × SV)} {A : Nat → Prop} (h1 : ∀ t, A t → lo t = lo' t) (h2 : ∀ t g v, A t → lo t = some (some g, v) → A g.1) : ∀ (n t : Nat) (w : Bool), A t → gcOf lo n (t, w) = gcOf lo' n (t, w)
  | 0, t, w, _ => rfl
  | n + 1, t, w, hA => by
    simp only [gcOf]
    rw [← h1 t hA]
    cases e : lo t with
    | none => rfl
    | some x =>
      obtain ⟨g, v⟩ := x
      cases g with
      | none =>
        cases v <;> try rfl
        rename_i gt x
        cases gt <;> rfl
      | some g =>
        cases v <;> try rfl
        rename_i gt x
        cases gt <;> try rfl
        simp only
        rw [gcOf_congr h1 h2 n g.1 g.2 (h2 t g _ hA e)]

section
variable {E : Env} {ops : List Oper} {base : List (Nat × SV)} {recs : List Rc} {h0 : List SO}

/-- What the region's check and its lexical run say. -/
structure Lex (E : Env) (ops : List Oper) (base : List (Nat × SV)) (recs : List Rc) (h0 : List SO) : Prop where
  ok : EnvOk E
  len : recs.length = ops.length
  step : ∀ (i : Nat) (o : Oper) (rc : Rc), ops[i]? = some o → recs[i]? = some rc → StepR E ops base o ((recs.take i).reverse) (heapAt h0 recs i) rc
  uniq : Uniq recs
  edges : edgesOk ops 0 = true
  pairs : ∀ (i j : Nat) (oi oj : Oper), i < j → ops[i]? = some oi → ops[j]? = some oj → pairOk (masks ops []) ops (recs.map (·.cls)) (recs.map (·.foot)) i j oi oj = true
  bnames : ∀ e ∈ base, ∀ n ∈ e.2.names, n < h0.length
  h0names : ∀ n o, nth h0 n = some o → ∀ k ∈ o.names, k < h0.length
  grow : ∀ (i : Nat) (rc : Rc), recs[i]? = some rc → (heapAt h0 recs i).length ≤ rc.h.length
  rnames : ∀ (i : Nat) (rc : Rc), recs[i]? = some rc → ∀ n ∈ rc.v.names, n < rc.h.length
  hnames : ∀ (i : Nat) (rc : Rc), recs[i]? = some rc → ∀ n o, nth rc.h n = some o → ∀ k ∈ o.names, k < rc.h.length

theorem Lex.rcd (L : Lex E ops base recs h0) {i : Nat} {o : Oper} (ho : ops[i]? = some o) : ∃ rc, recs[i]? = some rc := by
  have := (List.getElem?_eq_some_iff.1 ho).1
  rw [← L.len] at this
  exact ⟨_, List.getElem?_eq_getElem this⟩

theorem Lex.oper (L : Lex E ops base recs h0) {i : Nat} {rc : Rc} (hr : recs[i]? = some rc) : ∃ o, ops[i]? = some o := by
  have := (List.getElem?_eq_some_iff.1 hr).1
  rw [L.len] at this
  exact ⟨_, List.getElem?_eq_getElem this⟩

/-- A quiet step leaves the objects. -/
theorem Lex.quiet (L : Lex E ops base recs h0) {i : Nat} {o : Oper} {rc : Rc} (ho : ops[i]? = some o) (hr : recs[i]? = some rc) (hc : rc.cls ≤ 1) : rc.h = heapAt h0 recs i := by
  obtain ⟨_, h | ⟨j, w, t, c, gs, h1, h2, h3, h4, h5, h6, h7⟩⟩ := L.step i o rc ho hr
  · obtain ⟨h1, h2, h3, h4⟩ := h
    rcases Nat.lt_or_ge rc.cls 1 with hlt | hge
    · exact (opK_zero L.ok (by rw [← h3.1]; omega) h4).1
    · exact (opK_one L.ok (by rw [← h3.1]; omega) h4).1
  · rcases Nat.lt_or_ge rc.cls 1 with hlt | hge
    · exact (opK_zero L.ok (by rw [← h6.1]; omega) h7).1
    · exact (opK_one L.ok (by rw [← h6.1]; omega) h7).1

theorem Lex.makes (L : Lex E ops base recs h0) {i : Nat} {o : Oper} {rc : Rc} (ho : ops[i]? = some o) (hr : recs[i]? = some rc) (hc : rc.cls = 2) : ∃ l, rc.h = heapAt h0 recs i ++ l := by
  obtain ⟨_, h | ⟨j, w, t, c, gs, h1, h2, h3, h4, h5, h6, h7⟩⟩ := L.step i o rc ho hr
  · obtain ⟨h1, h2, h3, h4⟩ := h
    exact opK_two L.ok (by rw [← h3.1]; exact hc) h4
  · exact opK_two L.ok (by rw [← h6.1]; exact hc) h7

theorem Lex.wr (L : Lex E ops base recs h0) {i : Nat} {o : Oper} {rc : Rc} {F : List Nat} (ho : ops[i]? = some o) (hr : recs[i]? = some rc) (hc : rc.cls = 3) (hf : rc.foot = some F) : ∀ n x, n ∉ F → nth (heapAt h0 recs i) n = some x → nth rc.h n = some x := by
  obtain ⟨_, h | ⟨j, w, t, c, gs, h1, h2, h3, h4, h5, h6, h7⟩⟩ := L.step i o rc ho hr
  · obtain ⟨h1, h2, h3, h4⟩ := h
    exact opK_wr L.ok (by rw [← h3.1]; exact hc) (by rw [← h3.2]; exact hf) h4
  · exact opK_wr L.ok (by rw [← h6.1]; exact hc) (by rw [← h6.2]; exact hf) h7

/-- No effect between: the same objects. -/
theorem Lex.same (L : Lex E ops base recs h0) {i : Nat} : ∀ (d : Nat), i + d ≤ ops.length → (∀ (k : Nat) (rc : Rc), i ≤ k → k < i + d → recs[k]? = some rc → rc.cls ≤ 1) → heapAt h0 recs (i + d) = heapAt h0 recs i
  | 0, _, _ => rfl
  | d + 1, hl, h => by
    have ih := L.same (i := i) d (by omega) (fun k rc h1 h2 hr => h k rc h1 (by omega) hr)
    have hlt : i + d < ops.length := by omega
    obtain ⟨rc, hr⟩ := L.rcd (List.getElem?_eq_getElem hlt)
    rw [show i + (d + 1) = i + d + 1 by omega, heapAt_succ recs h0 _ rc hr, L.quiet (List.getElem?_eq_getElem hlt) hr (h _ rc (by omega) (by omega) hr), ih]

/-- Only new objects between: more objects. -/
theorem Lex.more (L : Lex E ops base recs h0) {i : Nat} : ∀ (d : Nat), i + d ≤ ops.length → (∀ (k : Nat) (rc : Rc), i ≤ k → k < i + d → recs[k]? = some rc → rc.cls ≤ 2) → ∃ l, heapAt h0 recs (i + d) = heapAt h0 recs i ++ l
  | 0, _, _ => ⟨[], by simp⟩
  | d + 1, hl, h => by
    obtain ⟨l, ih⟩ := L.more (i := i) d (by omega) (fun k rc h1 h2 hr => h k rc h1 (by omega) hr)
    have hlt : i + d < ops.length := by omega
    obtain ⟨rc, hr⟩ := L.rcd (List.getElem?_eq_getElem hlt)
    rw [show i + (d + 1) = i + d + 1 by omega, heapAt_succ recs h0 _ rc hr]
    have hc := h _ rc (by omega) (by omega) hr
    rcases Nat.lt_or_ge rc.cls 2 with h1 | h1
    · exact ⟨l, by rw [L.quiet (List.getElem?_eq_getElem hlt) hr (by omega), ih]⟩
    · obtain ⟨l', e⟩ := L.makes (List.getElem?_eq_getElem hlt) hr (by omega)
      exact ⟨l ++ l', by rw [e, ih]; simp⟩

theorem beq_any {d : Nat} {l : List Nat} (h : d ∈ l) : l.any (Nat.beq d) = true := List.any_eq_true.2 ⟨d, h, by simp⟩

theorem foot_at {i : Nat} {rc : Rc} (hr : recs[i]? = some rc) : (nth (recs.map (·.foot)) i).getD none = rc.foot := by
  rw [nth_eq, List.getElem?_map, hr]; rfl

theorem cls_at {i : Nat} {rc : Rc} (hr : recs[i]? = some rc) : (nth (recs.map (·.cls)) i).getD 3 = rc.cls := by
  rw [nth_eq, List.getElem?_map, hr]; rfl

variable {S : Nat → Bool}

/-- What an operation that may come looks at is as in the text's order. -/
theorem Lex.sees (L : Lex E ops base recs h0) (hc : Closed ops S) {i : Nat} {o : Oper} (ho : ops[i]? = some o) (hi : S i = false) (hall : ∀ e ∈ o.after, Region.binds .any e = true → S e.on = true) {t : Nat} (ht : t ∈ looksAt ops o) :
    loS S recs base t = loS (fun k => decide (k < i)) recs base t ∧ ∀ k rc, recs[k]? = some rc → rc.dst = some t → (S k = true ↔ k < i) := by
  have main : ∀ (k : Nat) (rc : Rc), recs[k]? = some rc → rc.dst = some t → (S k = true ↔ k < i) := by
    intro k rc hr hd
    obtain ⟨ok, hok⟩ := L.oper hr
    have hdk : ok.dst = some t := by rw [← (L.step k ok rc hok hr).1]; exact hd
    rcases Nat.lt_trichotomy k i with hlt | rfl | hgt
    · have hp := L.pairs k i ok o hlt hok ho
      simp only [pairOk, Bool.or_eq_true, Bool.and_eq_true] at hp
      rcases hp with hp | hp
      · exact ⟨fun _ => hlt, fun _ => bef_listed L.edges hc i o k ho hp hall⟩
      · have := hp.1.1
        simp [hdk, beq_any ht] at this
    · simp [hi]
    · have hp := L.pairs i k o ok hgt ho hok
      simp only [pairOk, Bool.or_eq_true, Bool.and_eq_true] at hp
      rcases hp with hp | hp
      · refine ⟨fun hs => ?_, fun h => by omega⟩
        have := bef_listed L.edges hc k ok i hok hp (hc k ok hok hs)
        rw [hi] at this; cases this
      · have := hp.1.2
        simp [hdk, beq_any ht] at this
  refine ⟨?_, main⟩
  unfold loS
  have e : lkS S recs 0 t = lkS (fun k => decide (k < i)) recs 0 t := by
    cases h : lkS S recs 0 t with
    | some e =>
      obtain ⟨k, r, h1, h2, h3, h4⟩ := lkS_some recs 0 t e h
      rw [Nat.zero_add] at h3
      rw [lkS_at L.uniq h1 h2, if_pos (by simpa using (main k r h1 h2).1 h3), h4]
    | none =>
      rw [lkS_not]
      intro k r h1 h2
      have := lkS_none recs 0 t h k r h1 h2
      rw [Nat.zero_add] at this
      have hn := main k r h1 h2
      rw [this] at hn
      simpa using hn
  rw [e]

/-- The guard's slot of an entry was written before the entry. -/
theorem Lex.guards (L : Lex E ops base recs h0) {k : Nat} {rc : Rc} {g : Nat × Bool} (hr : recs[k]? = some rc) (hg : rc.g = some g) : ∃ j rj, recs[j]? = some rj ∧ rj.dst = some g.1 ∧ j < k ∧ ∃ o, ops[k]? = some o ∧ g.1 ∈ looksAt ops o := by
  obtain ⟨o, ho⟩ := L.oper hr
  obtain ⟨_, h | ⟨j, w, t, c, gs, h1, h2, h3, h4, h5, h6, h7⟩⟩ := L.step k o rc ho hr
  · rw [h.2.1] at hg; cases hg
  · rw [h5] at hg
    simp only [Option.some.injEq] at hg
    subst hg
    obtain ⟨rj, hm, hd⟩ := hasDst_mem _ h4
    rw [List.mem_reverse] at hm
    obtain ⟨j', hj'⟩ := List.getElem?_of_mem hm
    rw [List.getElem?_take] at hj'
    split at hj'
    · rename_i hlt
      refine ⟨j', rj, hj', hd, hlt, o, ho, ?_⟩
      simp [looksAt, h1, h2]
    · cases hj'

/-- The same for all guards that hang together with it. -/
theorem Lex.gc (L : Lex E ops base recs h0) (hc : Closed ops S) {i : Nat} {o : Oper} (ho : ops[i]? = some o) (hi : S i = false) (hall : ∀ e ∈ o.after, Region.binds .any e = true → S e.on = true) {t : Nat} (ht : t ∈ looksAt ops o) (n : Nat) (w : Bool) :
    gcOf (loS S recs base) n (t, w) = gcOf (loS (fun k => decide (k < i)) recs base) n (t, w) := by
  -- A: slots of which both tables say the same, with all their guards
  refine gcOf_congr (A := fun t => loS S recs base t = loS (fun k => decide (k < i)) recs base t ∧ ∀ k rc, recs[k]? = some rc → rc.dst = some t → (S k = true ↔ k < i)) (fun t h => h.1) ?_ n t w (L.sees hc ho hi hall ht)
  intro t g v ⟨hA, hA2⟩ hl
  -- the entry is a record's
  have hrec : ∃ k rc, recs[k]? = some rc ∧ rc.dst = some t ∧ S k = true ∧ rc.g = some g := by
    unfold loS at hl
    cases e : lkS S recs 0 t with
    | some x =>
      rw [e] at hl
      simp only [Option.some.injEq] at hl
      subst hl
      obtain ⟨k, r, h1, h2, h3, h4⟩ := lkS_some recs 0 t _ e
      rw [Nat.zero_add] at h3
      simp only [Prod.mk.injEq] at h4
      exact ⟨k, r, h1, h2, h3, h4.1.symm⟩
    | none =>
      rw [e] at hl
      simp only at hl
      split at hl <;> simp at hl
  obtain ⟨k, rc, h1, h2, h3, h4⟩ := hrec
  have hki := (hA2 k rc h1 h2).1 h3
  obtain ⟨j, rj, j1, j2, j3, ok, j4, j5⟩ := L.guards h1 h4
  -- the guard's own record comes before k, and is listed
  have hsj : S j = true := by
    obtain ⟨oj, hoj⟩ := L.oper j1
    have hdj : oj.dst = some g.1 := by rw [← (L.step j oj rj hoj j1).1]; exact j2
    have hp := L.pairs j k oj ok j3 hoj j4
    simp only [pairOk, Bool.or_eq_true, Bool.and_eq_true] at hp
    rcases hp with hp | hp
    · exact bef_listed L.edges hc k ok j j4 hp (hc k ok j4 h3)
    · have := hp.1.1
      simp [hdj, beq_any j5] at this
  have hall2 : ∀ k' rc', recs[k']? = some rc' → rc'.dst = some g.1 → (S k' = true ↔ k' < i) := by
    intro k' rc' hr' hd'
    have : k' = j := L.uniq k' j rc' rj g.1 hr' j1 hd' j2
    subst this
    exact ⟨fun _ => by omega, fun _ => hsj⟩
  refine ⟨?_, hall2⟩
  unfold loS
  rw [lkS_at L.uniq j1 j2, lkS_at L.uniq j1 j2, if_pos hsj, if_pos (by simp; omega)]

theorem apart_nil {l m : List Nat} (h : apartB (some l) (some m) = true) : ∀ n ∈ m, n ∉ l := by
  intro n hm hl
  simp only [apartB, Bool.not_eq_true'] at h
  have h2 := List.any_eq_false.1 h n hl
  have h3 : (m.any (Nat.beq n)) = true := List.any_eq_true.2 ⟨n, hm, Nat.beq_refl n⟩
  rw [h3] at h2
  exact h2 rfl

theorem apart_ne {a : Option (List Nat)} {n : Nat} (h : apartB a (some [n]) = true) : ∃ F, a = some F ∧ n ∉ F := by
  cases a with
  | none => cases h
  | some l => exact ⟨l, rfl, apart_nil h n (by simp)⟩

theorem apart_ne' {a : Option (List Nat)} {n : Nat} (h : apartB (some [n]) a = true) : ∃ F, a = some F ∧ n ∉ F := by
  cases a with
  | none => cases h
  | some l =>
    refine ⟨l, rfl, fun hn => ?_⟩
    exact apart_nil h n hn (by simp)

/-- Steps that do not touch an object: it stays. -/
theorem Lex.keepsObj (L : Lex E ops base recs h0) {i n : Nat} : ∀ (d : Nat), i + d ≤ ops.length → (∀ (k : Nat) (rc : Rc), i ≤ k → k < i + d → recs[k]? = some rc → rc.cls ≤ 2 ∨ (rc.cls = 3 ∧ ∃ F, rc.foot = some F ∧ n ∉ F)) →
    ∀ x, nth (heapAt h0 recs i) n = some x → nth (heapAt h0 recs (i + d)) n = some x
  | 0, _, _, x, hx => hx
  | d + 1, hl, h, x, hx => by
    have ih := L.keepsObj (i := i) d (by omega) (fun k rc h1 h2 hr => h k rc h1 (by omega) hr) x hx
    have hlt : i + d < ops.length := by omega
    obtain ⟨rc, hr⟩ := L.rcd (List.getElem?_eq_getElem hlt)
    rw [show i + (d + 1) = i + d + 1 by omega, heapAt_succ recs h0 _ rc hr]
    rcases h _ rc (by omega) (by omega) hr with hc | ⟨hc, F, hf, hm⟩
    · rcases Nat.lt_or_ge rc.cls 2 with h1 | h1
      · rw [L.quiet (List.getElem?_eq_getElem hlt) hr (by omega)]; exact ih
      · obtain ⟨l', e⟩ := L.makes (List.getElem?_eq_getElem hlt) hr (by omega)
        rw [e]; exact nth_app ih
    · exact L.wr (List.getElem?_eq_getElem hlt) hr hc hf n x hm ih

/-- Effects before an operation that may come. -/
theorem Lex.beforeE (L : Lex E ops base recs h0) (hc : Closed ops S) {i k : Nat} {o : Oper} {rc r : Rc} (ho : ops[i]? = some o) (hr : recs[i]? = some rc) (hall : ∀ e ∈ o.after, Region.binds .any e = true → S e.on = true) (hcl : 1 ≤ rc.cls)
    (hk : recs[k]? = some r) (h2 : 2 ≤ r.cls) (hlt : k < i) : S k = true ∨ (r.cls = 2 ∧ rc.cls = 2) ∨ (r.cls = 2 ∧ rc.cls = 1 ∧ rc.foot.isSome = true) ∨ (r.cls = 3 ∧ rc.cls = 1 ∧ apartB r.foot rc.foot = true) ∨ (r.cls = 3 ∧ rc.cls = 2) := by
  obtain ⟨ok, hok⟩ := L.oper hk
  have hp := L.pairs k i ok o hlt hok ho
  simp only [pairOk, Bool.or_eq_true, Bool.and_eq_true] at hp
  rcases hp with hp | hp
  · exact .inl (bef_listed L.edges hc i o k ho hp hall)
  · have h3 := hp.2
    rw [cls_at hk, cls_at hr, foot_at hk, foot_at hr] at h3
    match hk' : r.cls, hi' : rc.cls, h3 with
    | 0, _, _ => omega
    | 1, _, _ => omega
    | k2 + 2, 0, _ => omega
    | 2, 1, h3 => exact .inr (.inr (.inl ⟨rfl, rfl, h3⟩))
    | 2, 2, h3 => exact .inr (.inl ⟨rfl, rfl⟩)
    | 3, 1, h3 => exact .inr (.inr (.inr (.inl ⟨rfl, rfl, h3⟩)))
    | 3, 2, h3 => exact .inr (.inr (.inr (.inr ⟨rfl, rfl⟩)))
    | k2 + 4, 1, h3 => simp at h3
    | k2 + 4, 2, h3 => simp at h3
    | k2 + 3, j + 3, h3 => simp at h3
    | 2, j + 3, h3 => simp at h3

/-- Effects behind an operation that may come. -/
theorem Lex.behindE (L : Lex E ops base recs h0) (hc : Closed ops S) {i k : Nat} {o : Oper} {rc r : Rc} (ho : ops[i]? = some o) (hr : recs[i]? = some rc) (hi : S i = false) (hcl : 1 ≤ rc.cls)
    (hk : recs[k]? = some r) (h2 : 2 ≤ r.cls) (hlt : i < k) : S k = false ∨ (rc.cls = 1 ∧ r.cls = 2) ∨ (rc.cls = 2 ∧ r.cls = 2) ∨ (rc.cls = 1 ∧ r.cls = 3 ∧ apartB rc.foot r.foot = true) ∨ (rc.cls = 3 ∧ r.cls = 2) := by
  obtain ⟨ok, hok⟩ := L.oper hk
  have hp := L.pairs i k o ok hlt ho hok
  simp only [pairOk, Bool.or_eq_true, Bool.and_eq_true] at hp
  rcases hp with hp | hp
  · cases hs : S k with
    | false => exact .inl rfl
    | true =>
      have := bef_listed L.edges hc k ok i hok hp (hc k ok hok hs)
      rw [hi] at this; cases this
  · have h3 := hp.2
    rw [cls_at hk, cls_at hr, foot_at hk, foot_at hr] at h3
    match hi' : rc.cls, hk' : r.cls, h3 with
    | 0, _, _ => omega
    | j + 1, 0, _ => omega
    | j + 1, 1, _ => omega
    | 1, 2, _ => exact .inr (.inl ⟨rfl, rfl⟩)
    | 2, 2, _ => exact .inr (.inr (.inl ⟨rfl, rfl⟩))
    | 1, 3, h3 => exact .inr (.inr (.inr (.inl ⟨rfl, rfl, h3⟩)))
    | 3, 2, h3 => exact .inr (.inr (.inr (.inr ⟨rfl, rfl⟩)))
    | 1, k2 + 4, h3 => simp at h3
    | j + 4, 2, h3 => simp at h3
    | j + 3, k2 + 3, h3 => simp at h3
    | 2, k2 + 3, h3 => simp at h3

/-- The operation whose objects lie there. -/
def born (recs : List Rc) (h0 : List SO) (k n : Nat) : Prop := (heapAt h0 recs k).length ≤ n ∧ n < (heapAt h0 recs (k + 1)).length

/-- The objects while a region runs: all that it will have, each in its place; c is the place of the next effect that has to come alone. -/
structure Grp (ops : List Oper) (recs : List Rc) (h0 : List SO) (S : Nat → Bool) (X : HS) (G : List SO) (c : Nat) : Prop where
  cl : c ≤ ops.length
  stop : c = ops.length ∨ ∃ r, recs[c]? = some r ∧ 3 ≤ r.cls
  done : ∀ k r, k < c → recs[k]? = some r → 3 ≤ r.cls → S k = true
  rest : ∀ k r, c ≤ k → recs[k]? = some r → 3 ≤ r.cls → S k = false
  len : G.length = (heapAt h0 recs ops.length).length
  old : ∀ n, n < h0.length → nth G n = nth (heapAt h0 recs c) n
  there : ∀ k n, k < ops.length → born recs h0 k n → S k = true → nth G n = nth (heapAt h0 recs (max c (k + 1))) n
  free : ∀ k n, k < ops.length → born recs h0 k n → S k = false → nth G n = some .dead ∧ ∀ v, X.ρ[n]? = some v → v.oneC = false

theorem Lex.growTo (L : Lex E ops base recs h0) {i : Nat} : ∀ (d : Nat), i + d ≤ ops.length → (heapAt h0 recs i).length ≤ (heapAt h0 recs (i + d)).length
  | 0, _ => Nat.le_refl _
  | d + 1, hl => by
    have ih := L.growTo (i := i) d (by omega)
    have hlt : i + d < ops.length := by omega
    obtain ⟨rc, hr⟩ := L.rcd (List.getElem?_eq_getElem hlt)
    have := L.grow _ rc hr
    rw [show i + (d + 1) = i + d + 1 by omega, heapAt_succ recs h0 _ rc hr]
    omega

theorem Lex.lenLe (L : Lex E ops base recs h0) {i j : Nat} (hij : i ≤ j) (hj : j ≤ ops.length) : (heapAt h0 recs i).length ≤ (heapAt h0 recs j).length := by
  have := L.growTo (i := i) (j - i) (by omega)
  rwa [show i + (j - i) = j by omega] at this

theorem heapAt_zero : ∀ (recs : List Rc) (h0 : List SO), heapAt h0 recs 0 = h0
  | [], _ => rfl
  | _ :: _, _ => rfl

theorem Lex.lenBase (L : Lex E ops base recs h0) {i : Nat} (hi : i ≤ ops.length) : h0.length ≤ (heapAt h0 recs i).length := by
  have := L.lenLe (Nat.zero_le i) hi
  rwa [heapAt_zero] at this

/-- One operation alone. -/
theorem Lex.once (L : Lex E ops base recs h0) {k k' n : Nat} (hk : k < ops.length) (hk' : k' < ops.length) (h : born recs h0 k n) (h' : born recs h0 k' n) : k = k' := by
  obtain ⟨a, b⟩ := h
  obtain ⟨a', b'⟩ := h'
  rcases Nat.lt_trichotomy k k' with q | q | q
  · have := L.lenLe (i := k + 1) (j := k') (by omega) (by omega); omega
  · exact q
  · have := L.lenLe (i := k' + 1) (j := k) (by omega) (by omega); omega

theorem inter (f : Nat → Nat) (n : Nat) : ∀ (d b : Nat), f b ≤ n → n < f (b + d) → ∃ k, b ≤ k ∧ k < b + d ∧ f k ≤ n ∧ n < f (k + 1)
  | 0, b, h1, h2 => by simp only [Nat.add_zero] at h2; omega
  | d + 1, b, h1, h2 => by
    by_cases h : n < f (b + 1)
    · exact ⟨b, Nat.le_refl _, by omega, h1, h⟩
    · obtain ⟨k, k1, k2, k3, k4⟩ := inter f n d (b + 1) (by omega) (by rw [show b + 1 + d = b + (d + 1) by omega]; exact h2)
      exact ⟨k, by omega, by omega, k3, k4⟩

/-- Every place is old, or some operation's. -/
theorem Lex.birth (L : Lex E ops base recs h0) {i n : Nat} (hi : i ≤ ops.length) (hn : n < (heapAt h0 recs i).length) : n < h0.length ∨ ∃ k, k < i ∧ born recs h0 k n := by
  by_cases h : n < h0.length
  · exact .inl h
  · obtain ⟨k, k1, k2, k3, k4⟩ := inter (fun k => (heapAt h0 recs k).length) n i 0 (by rw [heapAt_zero]; omega) (by rw [Nat.zero_add]; exact hn)
    exact .inr ⟨k, by omega, k3, k4⟩

/-- A quiet operation has no objects. -/
theorem Lex.noBirth (L : Lex E ops base recs h0) {k n : Nat} {rc : Rc} (hr : recs[k]? = some rc) (he : rc.h = heapAt h0 recs k) : ¬ born recs h0 k n := by
  rintro ⟨a, b⟩
  rw [heapAt_succ recs h0 k rc hr, he] at b
  omega

theorem Lex.scope (L : Lex E ops base recs h0) : ∀ (i : Nat), i ≤ ops.length → ∀ n o, nth (heapAt h0 recs i) n = some o → ∀ k ∈ o.names, k < (heapAt h0 recs i).length
  | 0, _ => by rw [heapAt_zero]; exact L.h0names
  | i + 1, hi => by
    obtain ⟨rc, hr⟩ := L.rcd (List.getElem?_eq_getElem (show i < ops.length by omega))
    rw [heapAt_succ recs h0 i rc hr]
    exact L.hnames i rc hr

theorem lk_mem {α : Type} : ∀ {l : List (Nat × α)} {t : Nat} {v : α}, lk l t = some v → (t, v) ∈ l
  | [], t, v, h => by cases h
  | (a, b) :: l, t, v, h => by
    unfold lk at h
    cases e : Nat.beq a t with
    | true =>
      rw [e] at h
      simp only [cond_true, Option.some.injEq] at h
      have := Nat.eq_of_beq_eq_true e
      subst this; subst h
      simp
    | false =>
      rw [e] at h
      exact List.mem_cons_of_mem _ (lk_mem h)

theorem const_names {c : Value} {v : SV} (h : constSV c = some v) : v.names = [] := by
  unfold constSV at h
  split at h
  all_goals first
    | (simp only [Option.some.injEq] at h; subst h; simp [SV.names])
    | cases h

/-- What an operation is given is there when its turn comes in the text. -/
theorem Lex.argNames (L : Lex E ops base recs h0) {i : Nat} (hi : i ≤ ops.length) {gs : List (Nat × Bool)} {x : Operand} {v : SV} (hv : opnd (look ((recs.take i).reverse) base) gs x = some v) : ∀ n ∈ v.names, n < (heapAt h0 recs i).length := by
  have key : ∀ t e, look ((recs.take i).reverse) base t = some e → ∀ n ∈ e.2.names, n < (heapAt h0 recs i).length := by
    intro t e he n hn
    unfold look at he
    cases hl : lkR ((recs.take i).reverse) t with
    | some e' =>
      rw [hl] at he
      simp only [Option.some.injEq] at he
      subst he
      obtain ⟨r, hm, _, rfl⟩ := lkR_some _ _ hl
      rw [List.mem_reverse] at hm
      obtain ⟨k, hk⟩ := List.getElem?_of_mem hm
      rw [List.getElem?_take] at hk
      split at hk
      · rename_i hki
        have h1 := L.rnames k r hk n hn
        have h2 := L.lenLe (i := k + 1) (j := i) (by omega) hi
        rw [heapAt_succ recs h0 k r hk] at h2
        omega
      · cases hk
    | none =>
      rw [hl] at he
      simp only at he
      cases hb : lk base t with
      | none => rw [hb] at he; cases he
      | some u =>
        rw [hb] at he
        simp only [Option.some.injEq] at he
        subst he
        have h1 := L.bnames _ (lk_mem hb) n hn
        have h2 := L.lenBase hi
        omega
  cases x with
  | const c =>
    intro n hn
    rw [const_names (show constSV c = some v from hv)] at hn
    cases hn
  | func f =>
    simp only [opnd, Option.some.injEq] at hv
    subst hv
    intro n hn
    simp [SV.names] at hn
  | global _ => simp [opnd] at hv
  | tmp t =>
    simp only [opnd] at hv
    split at hv
    · rename_i u he
      simp only [Option.some.injEq] at hv
      subst hv
      exact key t _ he
    · rename_i g u he
      cases hb : gs.any (sameG g) with
      | false => rw [hb] at hv; cases hv
      | true =>
        rw [hb] at hv
        simp only [cond_true, Option.some.injEq] at hv
        subst hv
        exact key t _ he
    · cases hv

/-- The next effect that has to come alone. -/
theorem Lex.next (L : Lex E ops base recs h0) (b : Nat) (hb : b ≤ ops.length) : ∃ c, b ≤ c ∧ c ≤ ops.length ∧ (∀ k r, b ≤ k → k < c → recs[k]? = some r → r.cls ≤ 2) ∧ (c = ops.length ∨ ∃ r, recs[c]? = some r ∧ 3 ≤ r.cls) := by
  have key : ∀ d b, b + d = ops.length → ∃ c, b ≤ c ∧ c ≤ ops.length ∧ (∀ k r, b ≤ k → k < c → recs[k]? = some r → r.cls ≤ 2) ∧ (c = ops.length ∨ ∃ r, recs[c]? = some r ∧ 3 ≤ r.cls) := by
    intro d
    induction d with
    | zero => intro b hb; exact ⟨b, Nat.le_refl _, by omega, fun k r h1 h2 => by omega, .inl (by omega)⟩
    | succ d ih =>
      intro b hb
      have hlt : b < ops.length := by omega
      obtain ⟨rc, hr⟩ := L.rcd (List.getElem?_eq_getElem hlt)
      by_cases h : 3 ≤ rc.cls
      · exact ⟨b, Nat.le_refl _, by omega, fun k r h1 h2 => by omega, .inr ⟨rc, hr, h⟩⟩
      · obtain ⟨c, c1, c2, c3, c4⟩ := ih (b + 1) (by omega)
        refine ⟨c, by omega, c2, fun k r h1 h2 hk => ?_, c4⟩
        by_cases e : k = b
        · subst e; rw [hr] at hk; cases hk; omega
        · exact c3 k r (by omega) h2 hk
  exact key (ops.length - b) b (by omega)

/-- Lengths, where objects are only added. -/
theorem Lex.lenMono (L : Lex E ops base recs h0) {i j : Nat} (hij : i ≤ j) (hj : j ≤ ops.length) (h : ∀ k r, i ≤ k → k < j → recs[k]? = some r → r.cls ≤ 2) : ∃ l, heapAt h0 recs j = heapAt h0 recs i ++ l := by
  have := L.more (i := i) (j - i) (by omega) (fun k r h1 h2 hk => h k r h1 (by omega) hk)
  rwa [show i + (j - i) = j by omega] at this

end

end Go.Eng
