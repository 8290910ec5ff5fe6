/- The engine, part 19c: a region's objects, step by step. -/
import Derived.Test.YtondjihmmjjinaaE19
namespace Go.Eng
open Go
set_option linter.unusedVariables false
set_option linter.unusedSimpArgs false

section
variable {E : Env} {ops : List Oper} {base : List (Nat × SV)} {recs : List Rc} {h0 : List SO} {S : Nat → Bool}

/-- Where objects are only added, what was there stays. -/
theorem Lex.stay (L : Lex E ops base recs h0) {i j n : Nat} (hij : i ≤ j) (hj : j ≤ ops.length) (h : ∀ k r, i ≤ k → k < j → recs[k]? = some r → r.cls ≤ 2) (hn : n < (heapAt h0 recs i).length) : nth (heapAt h0 recs j) n = nth (heapAt h0 recs i) n := by
  obtain ⟨l, e⟩ := L.lenMono hij hj h
  rw [nth_eq, nth_eq, e, List.getElem?_append_left hn]

/-- The objects when a region begins. -/
theorem Lex.opens (L : Lex E ops base recs h0) {B : Base} {X1 : HS} (H : HRep B X1 h0) (hrest : ∀ k, S k = false) : ∃ X G c, HRep B X G ∧ Ext X1 X ∧ X.w = X1.w ∧ Grp ops recs h0 S X G c := by
  obtain ⟨c, c1, c2, c3, c4⟩ := L.next 0 (Nat.zero_le _)
  have hT := L.lenBase (Nat.le_refl ops.length)
  obtain ⟨H', E'⟩ := H.pad ((heapAt h0 recs ops.length).length - h0.length)
  have hlen := H.len
  refine ⟨_, _, c, H', E', rfl, c2, c4, fun k r h1 h2 h3 => ?_, fun k r _ _ _ => hrest k, ?_, fun n hn => ?_, fun k n _ _ hs => (by rw [hrest k] at hs; cases hs), fun k n hk hb _ => ?_⟩
  · have := c3 k r (Nat.zero_le _) h1 h2; omega
  · rw [List.length_append, List.length_replicate]; omega
  · have h1 := L.stay (Nat.zero_le c) c2 c3 (n := n) (by rw [heapAt_zero]; exact hn)
    rw [h1, heapAt_zero, nth_eq, nth_eq, List.getElem?_append_left hn]
  · have h1 := L.lenBase (i := k) (by omega)
    have h2 := L.lenLe (i := k + 1) (j := ops.length) (by omega) (Nat.le_refl _)
    obtain ⟨b1, b2⟩ := hb
    refine ⟨?_, fun v hv => ?_⟩
    · rw [nth_eq, List.getElem?_append_right (by omega), List.getElem?_replicate, if_pos (by omega)]
    · have : (X1.ρ ++ List.replicate ((heapAt h0 recs ops.length).length - h0.length) holeV)[n]? = some v := hv
      rw [List.getElem?_append_right (by omega), List.getElem?_replicate] at this
      split at this
      · cases this; rfl
      · cases this

/-- All is listed: the objects are those of the text's order. -/
theorem Grp.all {X : HS} {G : List SO} {c : Nat} (L : Lex E ops base recs h0) (g : Grp ops recs h0 S X G c) (h : ∀ k, k < ops.length → S k = true) : G = heapAt h0 recs ops.length := by
  have hc : c = ops.length := by
    rcases g.stop with e | ⟨r, hr, h3⟩
    · exact e
    · have hlt : c < ops.length := by rw [← L.len]; exact (List.getElem?_eq_some_iff.1 hr).1
      have := g.rest c r (Nat.le_refl _) hr (by omega)
      rw [h c hlt] at this; cases this
  subst hc
  apply List.ext_getElem?
  intro n
  by_cases hn : n < G.length
  · rw [g.len] at hn
    rcases L.birth (Nat.le_refl _) hn with q | ⟨k, k1, k2⟩
    · have := g.old n q
      rwa [nth_eq, nth_eq] at this
    · have := g.there k n k1 k2 (h k k1)
      rwa [Nat.max_eq_left (by omega), nth_eq, nth_eq] at this
  · rw [List.getElem?_eq_none (by omega), List.getElem?_eq_none (by have := g.len; omega)]

theorem footK_names {E : Env} {o : Op} {ev : Operand → Option SV} {h0 : List SO} {n : Nat} (hc : clsK E o ev = 1) (h : footK E o ev h0 = some [n]) : ∃ x v, ev x = some v ∧ n ∈ v.names := by
  cases o <;> simp only [footK] at h <;> try (cases h; done)
  case load t a =>
    split at h
    · rename_i hx
      cases h
      exact ⟨a, _, hx, by simp [SV.names]⟩
    · rename_i hx
      cases h
      exact ⟨a, _, hx, by simp [SV.names]⟩
    · cases h
  case store t a x => simp [clsK] at hc
  case indexAddr t x i =>
    split at h
    · rename_i hx
      cases h
      exact ⟨x, _, hx, by simp [SV.names]⟩
    · cases h
  case slice t x lo hi mx =>
    split at h
    · rename_i hx
      obtain ⟨_, h⟩ := bif_some h
      cases h
      exact ⟨x, _, hx, by simp [SV.names]⟩
    · cases h
  case call c =>
    exfalso
    simp only [clsK] at hc
    split at h
    · rename_i f hcal
      split at h
      · rename_i hff haa
        simp only [hcal, hff, haa] at hc
        cases hp : E.isPm _ with
        | true => rw [hp] at h; cases h
        | false =>
          rw [hp] at hc
          simp only [cond_false] at hc
          revert hc
          cases (E.isO _ && _) <;> simp
      · cases h
    · rename_i hcal
      split at h
      · rename_i haa
        simp only [hcal, haa] at hc
        cases hc
      · cases h
    · cases h

/-- A reader's step, taken where it comes. -/
theorem Grp.read {X : HS} {G : List SO} {c : Nat} {B : Base} (L : Lex E ops base recs h0) (g : Grp ops recs h0 S X G c) (H : HRep B X G) (hc : Closed ops S) {i : Nat} {o : Oper} {rc : Rc} (ho : ops[i]? = some o) (hr : recs[i]? = some rc) (hi : S i = false)
    (hall : ∀ e ∈ o.after, Region.binds .any e = true → S e.on = true) (hcl : rc.cls = 1) {gc un : Bool} {ev : Operand → Option SV} {evg : Nat → Bool → Operand → Option SV} (hcls : rc.cls = clsK E o.op ev) (hft : rc.foot = footK E o.op ev (heapAt h0 recs i))
    (hev : ∀ x v, ev x = some v → ∃ vs, Rep X v .val vs) (hk : opK E o gc un ev evg (heapAt h0 recs i) pair = some (rc.v, rc.h)) : opK E o gc un ev evg G pair = some (rc.v, G) := by
  have hil : i < ops.length := (List.getElem?_eq_some_iff.1 ho).1
  have gcl := g.cl
  cases hf : rc.foot with
  | none =>
    have h2 : i ≤ c := by
      by_cases h : i ≤ c
      · exact h
      · exfalso
        rcases g.stop with e | ⟨r, hb, h3⟩
        · omega
        · have hs := g.rest c r (Nat.le_refl _) hb (by omega)
          rcases L.beforeE hc ho hr hall (by omega) hb (by omega) (by omega) with q | ⟨q, _⟩ | ⟨q, _⟩ | ⟨q, _, q2⟩ | ⟨_, q⟩
          · rw [hs] at q; cases q
          · omega
          · omega
          · rw [hf] at q2
            cases hrf : r.foot <;> rw [hrf] at q2 <;> cases q2
          · omega
    have hmid : ∀ k r, i ≤ k → k < c → recs[k]? = some r → r.cls ≤ 2 := by
      intro k r h1 h3 hkr
      by_cases h4 : r.cls ≤ 2
      · exact h4
      · exfalso
        have hs := g.done k r h3 hkr (by omega)
        have hik : i < k := by
          by_cases e : k = i
          · rw [e, hr] at hkr; cases hkr; omega
          · omega
        rcases L.behindE hc ho hr hi (by omega) hkr (by omega) hik with q | ⟨_, q⟩ | ⟨q, _⟩ | ⟨_, q, q2⟩ | ⟨q, _⟩
        · rw [q] at hs; cases hs
        · omega
        · omega
        · rw [hf] at q2; cases q2
        · omega
    have hpre : G = heapAt h0 recs i ++ G.drop (heapAt h0 recs i).length := by
      conv => lhs; rw [← List.take_append_drop (heapAt h0 recs i).length G]
      congr 1
      have glen := g.len
      have hle := L.lenLe (i := i) (j := ops.length) (by omega) (Nat.le_refl _)
      apply List.ext_getElem?
      intro n
      by_cases hn : n < (heapAt h0 recs i).length
      · rw [List.getElem?_take_of_lt hn]
        have e1 := L.stay h2 gcl hmid hn
        have e2 : nth G n = nth (heapAt h0 recs c) n := by
          rcases L.birth (by omega) hn with q | ⟨k, k1, k2⟩
          · exact g.old n q
          · have hk : k < ops.length := by omega
            obtain ⟨rk, hrk⟩ := L.rcd (List.getElem?_eq_getElem hk)
            have hs : S k = true := by
              by_cases hck : 2 ≤ rk.cls
              · rcases L.beforeE hc ho hr hall (by omega) hrk hck k1 with q | ⟨_, q⟩ | ⟨_, _, q⟩ | ⟨_, _, q2⟩ | ⟨_, q⟩
                · exact q
                · omega
                · rw [hf] at q; cases q
                · rw [hf] at q2
                  cases hrf : rk.foot <;> rw [hrf] at q2 <;> cases q2
                · omega
              · exact absurd k2 (L.noBirth hrk (L.quiet (List.getElem?_eq_getElem hk) hrk (by omega)))
            have := g.there k n hk k2 hs
            rwa [Nat.max_eq_left (by omega)] at this
        rw [e1] at e2
        rwa [nth_eq, nth_eq] at e2
      · rw [List.getElem?_eq_none (by rw [List.length_take]; omega), List.getElem?_eq_none (by omega)]
    rw [hpre]
    exact (opK_one L.ok (by rw [← hcls]; exact hcl) hk).2 _
  | some F =>
    obtain ⟨n, x, hF, x1, x2⟩ := opK_rd (by rw [← hcls]; exact hcl) (by rw [← hft]; exact hf) hk
    subst hF
    refine x2 G ?_
    obtain ⟨y, v, hy, hn⟩ := footK_names (by rw [← hcls]; exact hcl) (by rw [← hft]; exact hf)
    obtain ⟨vs, hv⟩ := hev y v hy
    obtain ⟨u, u1, u2⟩ := Rep_names v _ vs hv n hn
    have hlt : n < (heapAt h0 recs i).length := by rw [nth_eq] at x1; exact (List.getElem?_eq_some_iff.1 x1).1
    -- the object, at the place up to which all effects on it are listed
    have main : ∀ m, m ≤ ops.length → nth G n = nth (heapAt h0 recs m) n → n < (heapAt h0 recs m).length → (∀ k r, i ≤ k → k < m → recs[k]? = some r → 3 ≤ r.cls → S k = true) → (∀ k r, m ≤ k → k < i → recs[k]? = some r → 3 ≤ r.cls → S k = false) → nth G n = some x := by
      intro m hm hg hnm ha hb
      rw [hg]
      rcases Nat.le_total i m with him | him
      · have := L.keepsObj (i := i) (n := n) (m - i) (by omega) (fun k r g1 g2 hk => by
          by_cases h2 : r.cls ≤ 2
          · exact .inl h2
          · have hs := ha k r g1 (by omega) hk (by omega)
            have hik : i < k := by
              by_cases e : k = i
              · subst e; rw [hi] at hs; cases hs
              · omega
            rcases L.behindE hc ho hr hi (by omega) hk (by omega) hik with q | ⟨_, q⟩ | ⟨q, _⟩ | ⟨_, q, q2⟩ | ⟨q, _⟩
            · rw [q] at hs; cases hs
            · omega
            · omega
            · rw [hf] at q2
              exact .inr ⟨q, apart_ne' q2⟩
            · omega) x x1
        rwa [show i + (m - i) = m by omega] at this
      · have hz : nth (heapAt h0 recs m) n = some ((heapAt h0 recs m)[n]) := by rw [nth_eq]; exact List.getElem?_eq_getElem hnm
        have := L.keepsObj (i := m) (n := n) (i - m) (by omega) (fun k r g1 g2 hk => by
          by_cases h2 : r.cls ≤ 2
          · exact .inl h2
          · have hs := hb k r g1 (by omega) hk (by omega)
            rcases L.beforeE hc ho hr hall (by omega) hk (by omega) (by omega) with q | ⟨q, _⟩ | ⟨q, _⟩ | ⟨q, _, q2⟩ | ⟨_, q⟩
            · rw [hs] at q; cases q
            · omega
            · omega
            · rw [hf] at q2
              exact .inr ⟨q, apart_ne q2⟩
            · omega) _ hz
        rw [show m + (i - m) = i by omega] at this
        rw [this] at x1
        rw [hz, x1]
    rcases L.birth (by omega) hlt with q | ⟨k, k1, k2⟩
    · refine main c gcl (g.old n q) (by have := L.lenBase gcl; omega) (fun k r _ h2 hk h3 => g.done k r h2 hk h3) (fun k r h1 _ hk h3 => g.rest k r h1 hk h3)
    · have hk : k < ops.length := by omega
      have hs : S k = true := by
        cases hs : S k with
        | true => rfl
        | false =>
          have := (g.free k n hk k2 hs).2 u u1
          rw [u2] at this; cases this
      have hg := g.there k n hk k2 hs
      have hnk : n < (heapAt h0 recs (k + 1)).length := k2.2
      rcases Nat.le_total (k + 1) c with hkc | hkc
      · rw [Nat.max_eq_left hkc] at hg
        exact main c gcl hg (by have := L.lenLe hkc gcl; omega) (fun k r _ h2 hk h3 => g.done k r h2 hk h3) (fun k r h1 _ hk h3 => g.rest k r h1 hk h3)
      · rw [Nat.max_eq_right hkc] at hg
        exact main (k + 1) (by omega) hg hnk (fun k' r h1 h2 _ _ => by omega) (fun k' r h1 _ hk h3 => g.rest k' r (by omega) hk h3)

/-- One that is ordered among all effects: what was there in the text is there. -/
theorem Grp.alone {X : HS} {G : List SO} {c : Nat} (L : Lex E ops base recs h0) (g : Grp ops recs h0 S X G c) (hc : Closed ops S) {i : Nat} {o : Oper} {rc : Rc} (ho : ops[i]? = some o) (hr : recs[i]? = some rc) (hi : S i = false)
    (hall : ∀ e ∈ o.after, Region.binds .any e = true → S e.on = true) (hcl : 3 ≤ rc.cls) : i = c ∧ G.take (heapAt h0 recs c).length = heapAt h0 recs c ∧ (∀ k r, k < c → recs[k]? = some r → 2 ≤ r.cls → S k = true) := by
  have hil : i < ops.length := (List.getElem?_eq_some_iff.1 ho).1
  have hbef : ∀ k r, k < i → recs[k]? = some r → 2 ≤ r.cls → S k = true := fun k r hki hk h2 => by
    rcases L.beforeE hc ho hr hall (by omega) hk h2 hki with q | ⟨_, q⟩ | ⟨_, q, _⟩ | ⟨_, q, _⟩ | ⟨_, q⟩
    · exact q
    · omega
    · omega
    · omega
    · omega
  have hci : c ≤ i := by
    by_cases h : c ≤ i
    · exact h
    · exfalso
      have := g.done i rc (by omega) hr (by omega)
      rw [hi] at this; cases this
  have hic : i = c := by
    rcases g.stop with e | ⟨r, hb, h3⟩
    · omega
    · by_cases e : i = c
      · exact e
      · have h1 := hbef c r (by omega) hb (by omega)
        have h2 := g.rest c r (Nat.le_refl _) hb (by omega)
        rw [h1] at h2; cases h2
  refine ⟨hic, ?_, fun k r h1 h2 h3 => hbef k r (by omega) h2 h3⟩
  have glen := g.len
  have hle := L.lenLe (i := c) (j := ops.length) g.cl (Nat.le_refl _)
  apply List.ext_getElem?
  intro n
  by_cases hn : n < (heapAt h0 recs c).length
  · rw [List.getElem?_take_of_lt hn]
    rcases L.birth g.cl hn with q | ⟨k, k1, k2⟩
    · have := g.old n q
      rwa [nth_eq, nth_eq] at this
    · have hk : k < ops.length := by omega
      obtain ⟨rk, hrk⟩ := L.rcd (List.getElem?_eq_getElem hk)
      have hs : S k = true := by
        by_cases hck : 2 ≤ rk.cls
        · exact hbef k rk (by omega) hrk hck
        · exact absurd k2 (L.noBirth hrk (L.quiet (List.getElem?_eq_getElem hk) hrk (by omega)))
      have := g.there k n hk k2 hs
      rwa [Nat.max_eq_left (by omega), nth_eq, nth_eq] at this
  · rw [List.getElem?_eq_none (by rw [List.length_take]; omega), List.getElem?_eq_none (by omega)]

theorem grp_f {S S' : Nat → Bool} {i : Nat} (hS : ∀ k, S' k = true ↔ (S k = true ∨ k = i)) : (∀ k, S' k = false → S k = false ∧ k ≠ i) ∧ (∀ k, k ≠ i → S' k = S k) := by
  have h1 : ∀ k, k ≠ i → S' k = S k := fun k hk => by
    cases h : S k with
    | true => exact (hS k).2 (.inl h)
    | false =>
      cases h' : S' k with
      | false => rfl
      | true =>
        rcases (hS k).1 h' with q | q
        · rw [h] at q; cases q
        · exact absurd q hk
  refine ⟨fun k h => ?_, h1⟩
  have hk : k ≠ i := fun e => by rw [(hS k).2 (.inr e)] at h; cases h
  exact ⟨by rw [← h1 k hk]; exact h, hk⟩

/-- A step without a new object, and without an effect that has to come alone. -/
theorem Grp.quiet {X X' : HS} {G : List SO} {c : Nat} {B : Base} {S' : Nat → Bool} (L : Lex E ops base recs h0) (g : Grp ops recs h0 S X G c) (H : HRep B X G) (hx : Ext X X') {i : Nat} {rc : Rc} (hr : recs[i]? = some rc) (hS : ∀ k, S' k = true ↔ (S k = true ∨ k = i))
    (he : rc.h = heapAt h0 recs i) (hcl : rc.cls ≤ 2) : Grp ops recs h0 S' X' G c := by
  obtain ⟨f1, f2⟩ := grp_f hS
  refine ⟨g.cl, g.stop, fun k r h1 h2 h3 => (hS k).2 (.inl (g.done k r h1 h2 h3)), fun k r h1 h2 h3 => ?_, g.len, g.old, fun k n hk hb hs => ?_, fun k n hk hb hs => ?_⟩
  · have : k ≠ i := fun e => by subst e; rw [hr] at h2; cases h2; omega
    rw [f2 k this]; exact g.rest k r h1 h2 h3
  · have : k ≠ i := fun e => by subst e; exact L.noBirth hr he hb
    exact g.there k n hk hb (by rw [← f2 k this]; exact hs)
  · obtain ⟨q1, q2⟩ := g.free k n hk hb (f1 k hs).1
    refine ⟨q1, fun v hv => ?_⟩
    have hl : n < X.ρ.length := by
      rw [H.len]
      have : nth G n = some .dead := q1
      rw [nth_eq] at this
      exact (List.getElem?_eq_some_iff.1 this).1
    have h1 := List.getElem?_eq_getElem hl
    have h2 := hx.ρ n _ h1
    rw [hv] at h2
    cases h2
    exact q2 _ h1

/-- A step with a new object. -/
theorem Grp.made {X X1 : HS} {G : List SO} {c : Nat} {B : Base} {S' : Nat → Bool} (L : Lex E ops base recs h0) (g : Grp ops recs h0 S X G c) (H : HRep B X G) (hx : Ext X X1) (hc : Closed ops S) {i : Nat} {o : Oper} {rc : Rc} (ho : ops[i]? = some o) (hr : recs[i]? = some rc) (hi : S i = false)
    (hcl : rc.cls = 2) (hS : ∀ k, S' k = true ↔ (S k = true ∨ k = i)) {obj : SO} (he : rc.h = heapAt h0 recs i ++ [obj]) (H1 : HRep B X1 (G ++ [obj])) (hobj : ∀ n ∈ obj.names, ∃ v, X.ρ[n]? = some v ∧ v.oneC = true) {u : Value} (hu : X1.ρ[G.length]? = some u) :
    HRep B ⟨X.ρ.set (heapAt h0 recs i).length u, X1.Ok, X1.w⟩ (G.set (heapAt h0 recs i).length obj) ∧ ExtW X ⟨X.ρ.set (heapAt h0 recs i).length u, X1.Ok, X1.w⟩ ∧
      (∀ X0, Ext X0 X → X0.ρ.length = h0.length → Ext X0 ⟨X.ρ.set (heapAt h0 recs i).length u, X1.Ok, X1.w⟩) ∧ Grp ops recs h0 S' ⟨X.ρ.set (heapAt h0 recs i).length u, X1.Ok, X1.w⟩ (G.set (heapAt h0 recs i).length obj) c ∧
      (X.ρ.set (heapAt h0 recs i).length u)[(heapAt h0 recs i).length]? = some u := by
  have hil : i < ops.length := (List.getElem?_eq_some_iff.1 ho).1
  have gcl := g.cl
  have glen := g.len
  have hsz : heapAt h0 recs (i + 1) = heapAt h0 recs i ++ [obj] := by rw [heapAt_succ recs h0 i rc hr, he]
  have hsl : (heapAt h0 recs (i + 1)).length = (heapAt h0 recs i).length + 1 := by rw [hsz]; simp
  have hle := L.lenLe (i := i + 1) (j := ops.length) (by omega) (Nat.le_refl _)
  have hp : (heapAt h0 recs i).length < G.length := by omega
  have hborn : born recs h0 i (heapAt h0 recs i).length := ⟨Nat.le_refl _, by omega⟩
  obtain ⟨q1, q2⟩ := g.free i _ hil hborn hi
  obtain ⟨r1, r2, r3⟩ := H.fill hx H1 hp q2 hobj hu
  have hge := L.lenBase (i := i) (by omega)
  obtain ⟨f1, f2⟩ := grp_f hS
  have other : ∀ k n, k < ops.length → born recs h0 k n → k ≠ i → (heapAt h0 recs i).length ≠ n := fun k n hk hb hne e => hne (L.once hk hil hb (by rw [← e]; exact hborn))
  refine ⟨r1, r2, fun X0 h1 h2 => r3 X0 h1 (by omega), ⟨gcl, g.stop, fun k r h1 h2 h3 => (hS k).2 (.inl (g.done k r h1 h2 h3)), fun k r h1 h2 h3 => ?_, by rw [List.length_set]; exact glen, fun n hn => ?_, fun k n hk hb hs => ?_, fun k n hk hb hs => ?_⟩, List.getElem?_set_self (by rw [H.len]; exact hp)⟩
  · have : k ≠ i := fun e => by subst e; rw [hr] at h2; cases h2; omega
    rw [f2 k this]; exact g.rest k r h1 h2 h3
  · rw [nth_eq, List.getElem?_set_ne (by omega), ← nth_eq]; exact g.old n hn
  · by_cases e : k = i
    · subst e
      have hn : n = (heapAt h0 recs k).length := by have := hb.1; have := hb.2; omega
      subst hn
      rw [nth_eq, List.getElem?_set_self hp]
      have hobj1 : nth (heapAt h0 recs (k + 1)) (heapAt h0 recs k).length = some obj := by
        rw [hsz, nth_eq, List.getElem?_append_right (Nat.le_refl _)]; simp
      rcases Nat.le_total (k + 1) c with hkc | hkc
      · rw [Nat.max_eq_left hkc, L.stay hkc gcl (fun k' r h1 h2 hk' => by
          by_cases h4 : r.cls ≤ 2
          · exact h4
          · exfalso
            have hs' := g.done k' r h2 hk' (by omega)
            rcases L.behindE hc ho hr hi (by omega) hk' (by omega) (by omega) with q | ⟨q, _⟩ | ⟨_, q⟩ | ⟨q, _⟩ | ⟨q, _⟩
            · rw [q] at hs'; cases hs'
            · omega
            · omega
            · omega
            · omega) (by omega), hobj1]
      · rw [Nat.max_eq_right hkc, hobj1]
    · rw [nth_eq, List.getElem?_set_ne (other k n hk hb e), ← nth_eq]
      exact g.there k n hk hb (by rw [← f2 k e]; exact hs)
  · obtain ⟨k1, k2⟩ := f1 k hs
    obtain ⟨f3, f4⟩ := g.free k n hk hb k1
    have hne := other k n hk hb k2
    refine ⟨by rw [nth_eq, List.getElem?_set_ne hne, ← nth_eq]; exact f3, fun v hv => f4 v ?_⟩
    have : (X.ρ.set (heapAt h0 recs i).length u)[n]? = some v := hv
    rwa [List.getElem?_set_ne hne] at this

/-- Behind an effect that had to come alone. -/
theorem Grp.wrote {X X2 : HS} {G G1 : List SO} {c : Nat} {S' : Nat → Bool} (L : Lex E ops base recs h0) (g : Grp ops recs h0 S X G c) {rc : Rc} (hr : recs[c]? = some rc) (h3 : 3 ≤ rc.cls) (hS : ∀ k, S' k = true ↔ (S k = true ∨ k = c)) (hG : G1 = heapAt h0 recs (c + 1)) (hbef : ∀ k r, k < c → recs[k]? = some r → 2 ≤ r.cls → S k = true)
    (hρ : ∀ n, G1.length ≤ n → X2.ρ[n]? = X.ρ[n]?) : ∃ c2, Grp ops recs h0 S' X2 (G1 ++ G.drop G1.length) c2 := by
  have hcl : c < ops.length := by rw [← L.len]; exact (List.getElem?_eq_some_iff.1 hr).1
  obtain ⟨c2, d1, d2, d3, d4⟩ := L.next (c + 1) (by omega)
  obtain ⟨f1, f2⟩ := grp_f hS
  have hle := L.lenLe (i := c + 1) (j := ops.length) (by omega) (Nat.le_refl _)
  have glen := g.len
  subst hG
  have glo : ∀ n, n < (heapAt h0 recs (c + 1)).length → nth (heapAt h0 recs (c + 1) ++ G.drop (heapAt h0 recs (c + 1)).length) n = nth (heapAt h0 recs (c + 1)) n := fun n hn => by rw [nth_eq, nth_eq]; exact List.getElem?_append_left hn
  have ghi : ∀ n, (heapAt h0 recs (c + 1)).length ≤ n → nth (heapAt h0 recs (c + 1) ++ G.drop (heapAt h0 recs (c + 1)).length) n = nth G n := fun n hn => by
    rw [nth_eq, nth_eq, List.getElem?_append_right hn, List.getElem?_drop]
    congr 1
    omega
  have hc2 : ∀ n, n < (heapAt h0 recs (c + 1)).length → nth (heapAt h0 recs c2) n = nth (heapAt h0 recs (c + 1)) n := fun n hn => L.stay d1 d2 d3 hn
  refine ⟨c2, d2, d4, fun k r h1 h2 h4 => ?_, fun k r h1 h2 h4 => ?_, ?_, fun n hn => ?_, fun k n hk hb hs => ?_, fun k n hk hb hs => ?_⟩
  · rcases Nat.lt_trichotomy k c with q | q | q
    · exact (hS k).2 (.inl (g.done k r q h2 h4))
    · exact (hS k).2 (.inr q)
    · have := d3 k r (by omega) h1 h2; omega
  · rw [f2 k (by omega)]; exact g.rest k r (by omega) h2 h4
  · rw [List.length_append, List.length_drop]; omega
  · have := L.lenBase (i := c + 1) (by omega)
    rw [glo n (by omega), hc2 n (by omega)]
  · by_cases hkc : k < c + 1
    · have hn : n < (heapAt h0 recs (c + 1)).length := by
        have := L.lenLe (i := k + 1) (j := c + 1) (by omega) (by omega)
        have := hb.2; omega
      rw [glo n hn, Nat.max_eq_left (by omega), hc2 n hn]
    · have hn : (heapAt h0 recs (c + 1)).length ≤ n := by
        have := L.lenLe (i := c + 1) (j := k) (by omega) (by omega)
        have := hb.1; omega
      rw [ghi n hn, g.there k n hk hb (by rw [← f2 k (by omega)]; exact hs), Nat.max_eq_right (by omega)]
      rcases Nat.le_total (k + 1) c2 with q | q
      · rw [Nat.max_eq_left q, L.stay q d2 (fun k' r h1 h2 hk' => d3 k' r (by omega) h2 hk') hb.2]
      · rw [Nat.max_eq_right q]
  · obtain ⟨k1, k2⟩ := f1 k hs
    have hkc : c + 1 ≤ k := by
      by_cases q : c + 1 ≤ k
      · exact q
      · exfalso
        have hlt : k < c := by omega
        obtain ⟨rk, hrk⟩ := L.rcd (List.getElem?_eq_getElem hk)
        by_cases hck : 2 ≤ rk.cls
        · rw [hbef k rk hlt hrk hck] at k1; cases k1
        · exact L.noBirth hrk (L.quiet (List.getElem?_eq_getElem hk) hrk (by omega)) hb
    have hn : (heapAt h0 recs (c + 1)).length ≤ n := by
      have := L.lenLe (i := c + 1) (j := k) (by omega) (by omega)
      have := hb.1; omega
    obtain ⟨q1, q2⟩ := g.free k n hk hb k1
    exact ⟨by rw [ghi n hn]; exact q1, fun v hv => q2 v (by rw [← hρ n hn]; exact hv)⟩

end

end Go.Eng
