/- The engine, part 19c: a region's objects, step by step. -/
import Derived.Test.YtjoehgmdkeigiaaE19
namespace Go.Eng
open Go
set_option linter.unusedVariables false
set_option linter.unusedSimpArgs false

section
variable {E : Env} {ops : List Oper} {base : List (Nat × SV)} {recs : List Rc} {h0 : List SO} {S : Nat → Bool}

theorem inter (f : Nat → Nat) (n : Nat) : ∀ (d b : Nat), f b ≤ n → n < f (b + d) → ∃ k, b ≤ k ∧ k < b + d ∧ f k ≤ n ∧ n < f (k + 1)
  | 0, b, h1, h2 => by simp only [Nat.add_zero] at h2; omega
  | d + 1, b, h1, h2 => by
    by_cases h : n < f (b + 1)
    · exact ⟨b, Nat.le_refl _, by omega, h1, h⟩
    · obtain ⟨k, k1, k2, k3, k4⟩ := inter f n d (b + 1) (by omega) (by rw [show b + 1 + d = b + (d + 1) by omega]; exact h2)
      exact ⟨k, by omega, by omega, k3, k4⟩

/-- The objects behind an effect that came alone, with holes up to the next one. -/
theorem Lex.opens (L : Lex E ops base recs h0) {B : Base} {X1 : HS} {b : Nat} (hb : b ≤ ops.length) (H : HRep B X1 (heapAt h0 recs b)) (hdone : ∀ k r, k < b → recs[k]? = some r → 2 ≤ r.cls → S k = true)
    (hrest : ∀ k r, b ≤ k → recs[k]? = some r → 2 ≤ r.cls → S k = false) (hbase : h0.length ≤ (heapAt h0 recs b).length) (hbar : b = 0 ∨ ∃ r, recs[b - 1]? = some r ∧ 3 ≤ r.cls) : ∃ X G c, HRep B X G ∧ Ext X1 X ∧ X.w = X1.w ∧ Grp ops recs h0 S X G b c := by
  obtain ⟨c, c1, c2, c3, c4⟩ := L.next b hb
  obtain ⟨l, e⟩ := L.lenMono c1 c2 c3
  obtain ⟨H', E'⟩ := H.pad l.length
  have hlen := H.len
  refine ⟨_, _, c, H', E', rfl, c1, c2, c3, c4, hdone, fun k r h1 hk h2 => hrest k r (by omega) hk h2, by rw [e]; simp, ?_, ?_, hbase, hbar⟩
  · intro n hn hh
    by_cases hlt : n < (heapAt h0 recs b).length
    · rw [nth_eq, nth_eq, e, List.getElem?_append_left hlt, List.getElem?_append_left hlt]
    · exfalso
      apply hh
      obtain ⟨k, k1, k2, k3, k4⟩ := inter (fun k => (heapAt h0 recs k).length) n (c - b) b (by omega) (by
        rw [show b + (c - b) = c by omega, e]
        simpa using hn)
      refine ⟨k, k1, by omega, ?_, k3, k4⟩
      have hk : k < ops.length := by omega
      obtain ⟨rc, hr⟩ := L.rcd (List.getElem?_eq_getElem hk)
      by_cases h2 : 2 ≤ rc.cls
      · exact hrest k rc k1 hr h2
      · have := L.quiet (List.getElem?_eq_getElem hk) hr (by omega)
        rw [heapAt_succ recs h0 k rc hr, this] at k4
        omega
  · intro n hn ⟨k, k1, k2, k3, k4, k5⟩
    obtain ⟨l', e'⟩ := L.lenMono (i := b) (j := k) k1 (by omega) (fun q r h1 h2 hq => c3 q r h1 (by omega) hq)
    have hge : (heapAt h0 recs b).length ≤ n := by
      rw [e'] at k4
      simp at k4
      omega
    refine ⟨?_, fun v hv => ?_⟩
    · rw [nth_eq, List.getElem?_append_right hge, List.getElem?_replicate, if_pos (by simp at hn; omega)]
    · have : (X1.ρ ++ List.replicate l.length holeV)[n]? = some v := hv
      rw [List.getElem?_append_right (by omega), List.getElem?_replicate] at this
      split at this
      · cases this; rfl
      · cases this

/-- All is listed: the objects are those of the text's order. -/
theorem Grp.all {X : HS} {G : List SO} {b c : Nat} (L : Lex E ops base recs h0) (g : Grp ops recs h0 S X G b c) (h : ∀ k, k < ops.length → S k = true) : G = heapAt h0 recs ops.length := by
  have hc : c = ops.length := by
    rcases g.stop with e | ⟨r, hr, h3⟩
    · exact e
    · have hlt : c < ops.length := by rw [← L.len]; exact (List.getElem?_eq_some_iff.1 hr).1
      have := g.rest c r (Nat.le_refl _) hr (by omega)
      rw [h c hlt] at this; cases this
  subst hc
  apply List.ext_getElem?
  intro n
  by_cases hn : n < G.length
  · have := g.there n hn (fun ⟨k, _, k2, k3, _⟩ => by rw [h k k2] at k3; cases k3)
    rwa [nth_eq, nth_eq] at this
  · rw [List.getElem?_eq_none (by omega), List.getElem?_eq_none (by have := g.len; omega)]

theorem footK_names {o : Op} {ev : Operand → Option SV} {n : Nat} (h : footK o ev = some n) : ∃ x v, ev x = some v ∧ n ∈ v.names := by
  cases o <;> simp only [footK] at h <;> try (cases h; done)
  case load t a =>
    split at h
    · rename_i hx
      cases h
      exact ⟨a, _, hx, by simp [SV.names]⟩
    · rename_i hx
      cases h
      exact ⟨a, _, hx, by simp [SV.names]⟩
    · cases h
  case store t a x =>
    split at h
    · rename_i hx
      cases h
      exact ⟨a, _, hx, by simp [SV.names]⟩
    · cases h

/-- A reader's step, taken where it comes. -/
theorem Grp.read {X : HS} {G : List SO} {b c : Nat} {B : Base} (L : Lex E ops base recs h0) (g : Grp ops recs h0 S X G b c) (H : HRep B X G) (hc : Closed ops S) {i : Nat} {o : Oper} {rc : Rc} (ho : ops[i]? = some o) (hr : recs[i]? = some rc) (hi : S i = false)
    (hall : ∀ e ∈ o.after, Region.binds .any e = true → S e.on = true) (hcl : rc.cls = 1) {gc un : Bool} {ev : Operand → Option SV} {evg : Nat → Bool → Operand → Option SV} (hcls : rc.cls = clsK E o.op ev) (hft : rc.foot = footK o.op ev)
    (hev : ∀ x v, ev x = some v → ∃ vs, Rep X v .val vs) (hk : opK E o gc un ev evg (heapAt h0 recs i) pair = some (rc.v, rc.h)) : opK E o gc un ev evg G pair = some (rc.v, G) := by
  have hil : i < ops.length := (List.getElem?_eq_some_iff.1 ho).1
  have gcl := g.cl
  cases hf : rc.foot with
  | none =>
    have h1 : b ≤ i := by
      by_cases h : b ≤ i
      · exact h
      · exfalso
        rcases g.bar with e | ⟨r, hb, h3⟩
        · omega
        · have hs := g.done (b - 1) r (by omega) hb (by omega)
          have hne : i < b - 1 := by
            by_cases e : b - 1 = i
            · rw [e, hr] at hb; cases hb; omega
            · omega
          rcases L.behindE hc ho hr hi (by omega) hb (by omega) hne with q | ⟨_, q⟩ | ⟨q, _⟩ | ⟨_, q, q2⟩
          · rw [q] at hs; cases hs
          · omega
          · omega
          · rw [hf] at q2; cases q2
    have h2 : i ≤ c := by
      by_cases h : i ≤ c
      · exact h
      · exfalso
        rcases g.stop with e | ⟨r, hb, h3⟩
        · omega
        · have hs := g.rest c r (Nat.le_refl _) hb (by omega)
          rcases L.beforeE hc ho hr hall (by omega) hb (by omega) (by omega) with q | ⟨q, _⟩ | ⟨q, _⟩ | ⟨q, _, q2⟩
          · rw [hs] at q; cases q
          · omega
          · omega
          · rw [hf] at q2
            cases hrf : r.foot <;> rw [hrf] at q2 <;> cases q2
    obtain ⟨l, e⟩ := L.lenMono (i := i) (j := c) h2 gcl (fun k r g1 g2 hk => g.mid k r (by omega) g2 hk)
    have hpre : G = heapAt h0 recs i ++ G.drop (heapAt h0 recs i).length := by
      conv => lhs; rw [← List.take_append_drop (heapAt h0 recs i).length G]
      congr 1
      have glen := g.len
      rw [e, List.length_append] at glen
      apply List.ext_getElem?
      intro n
      by_cases hn : n < (heapAt h0 recs i).length
      · rw [List.getElem?_take_of_lt hn]
        have := g.there n (by omega) (fun ⟨k, k1, k2, k3, k4, k5⟩ => by
          rcases Nat.lt_or_ge k i with hki | hki
          · have hk : k < ops.length := by omega
            obtain ⟨rk, hrk⟩ := L.rcd (List.getElem?_eq_getElem hk)
            by_cases hck : 2 ≤ rk.cls
            · rcases L.beforeE hc ho hr hall (by omega) hrk hck hki with q | ⟨_, q⟩ | ⟨_, _, q⟩ | ⟨_, _, q2⟩
              · rw [k3] at q; cases q
              · omega
              · rw [hf] at q; cases q
              · rw [hf] at q2
                cases hrf : rk.foot <;> rw [hrf] at q2 <;> cases q2
            · have := L.quiet (List.getElem?_eq_getElem hk) hrk (by omega)
              rw [heapAt_succ recs h0 k rk hrk, this] at k5
              omega
          · obtain ⟨l', e'⟩ := L.lenMono (i := i) (j := k) hki (by omega) (fun q r g1 g2 hq => g.mid q r (by omega) (by omega) hq)
            rw [e', List.length_append] at k4
            omega)
        rw [nth_eq, nth_eq, e, List.getElem?_append_left hn] at this
        exact this
      · rw [List.getElem?_eq_none (by rw [List.length_take]; omega), List.getElem?_eq_none (by omega)]
    rw [hpre]
    exact (opK_one L.ok (by rw [← hcls]; exact hcl) hk).2 _
  | some n =>
    obtain ⟨x, x1, x2⟩ := opK_rd (by rw [← hcls]; exact hcl) (by rw [← hft]; exact hf) hk
    refine x2 G ?_
    obtain ⟨y, v, hy, hn⟩ := footK_names (by rw [← hft]; exact hf)
    obtain ⟨vs, hv⟩ := hev y v hy
    obtain ⟨u, u1, u2⟩ := Rep_names v _ vs hv n hn
    have hlt : n < G.length := by rw [← H.len]; exact (List.getElem?_eq_some_iff.1 u1).1
    have hnh : ¬ hole recs h0 S b c n := fun hh => by
      have := (g.free n hlt hh).2 u u1
      rw [u2] at this; cases this
    rw [g.there n hlt hnh]
    rcases Nat.le_total i c with hic | hic
    · have := L.keepsObj (i := i) (n := n) (c - i) (by omega) (fun k r g1 g2 hk => by
        by_cases h2 : r.cls ≤ 2
        · exact .inl h2
        · have hkb : k < b := by
            by_cases h : k < b
            · exact h
            · exact absurd (g.mid k r (by omega) (by omega) hk) h2
          have hs := g.done k r hkb hk (by omega)
          have hik : i < k := by
            by_cases e : k = i
            · subst e; rw [hi] at hs; cases hs
            · omega
          rcases L.behindE hc ho hr hi (by omega) hk (by omega) hik with q | ⟨_, q⟩ | ⟨q, _⟩ | ⟨_, q, q2⟩
          · rw [q] at hs; cases hs
          · omega
          · omega
          · rw [hf] at q2
            exact .inr ⟨q, apart_ne' q2⟩) x x1
      rwa [show i + (c - i) = c by omega] at this
    · have hlc : n < (heapAt h0 recs c).length := by rw [← g.len]; exact hlt
      have hz : nth (heapAt h0 recs c) n = some ((heapAt h0 recs c)[n]) := by rw [nth_eq]; exact List.getElem?_eq_getElem hlc
      have := L.keepsObj (i := c) (n := n) (i - c) (by omega) (fun k r g1 g2 hk => by
        by_cases h2 : r.cls ≤ 2
        · exact .inl h2
        · have hs := g.rest k r g1 hk (by omega)
          rcases L.beforeE hc ho hr hall (by omega) hk (by omega) (by omega) with q | ⟨q, _⟩ | ⟨q, _⟩ | ⟨q, _, q2⟩
          · rw [hs] at q; cases q
          · omega
          · omega
          · rw [hf] at q2
            exact .inr ⟨q, apart_ne q2⟩) _ hz
      rw [show c + (i - c) = i by omega] at this
      rw [this] at x1
      rw [hz, x1]

/-- A maker that may come lies in the group. -/
theorem Grp.inside {X : HS} {G : List SO} {b c : Nat} (L : Lex E ops base recs h0) (g : Grp ops recs h0 S X G b c) (hc : Closed ops S) {i : Nat} {o : Oper} {rc : Rc} (ho : ops[i]? = some o) (hr : recs[i]? = some rc) (hi : S i = false)
    (hall : ∀ e ∈ o.after, Region.binds .any e = true → S e.on = true) (hcl : rc.cls = 2) : b ≤ i ∧ i < c := by
  have hil : i < ops.length := (List.getElem?_eq_some_iff.1 ho).1
  refine ⟨?_, ?_⟩
  · by_cases h : b ≤ i
    · exact h
    · exfalso
      rcases g.bar with e | ⟨r, hb, h3⟩
      · omega
      · have hs := g.done (b - 1) r (by omega) hb (by omega)
        have hne : i < b - 1 := by
          by_cases e : b - 1 = i
          · rw [e, hr] at hb; cases hb; omega
          · omega
        rcases L.behindE hc ho hr hi (by omega) hb (by omega) hne with q | ⟨q, _⟩ | ⟨_, q⟩ | ⟨q, _⟩
        · rw [q] at hs; cases hs
        · omega
        · omega
        · omega
  · by_cases h : i < c
    · exact h
    · exfalso
      rcases g.stop with e | ⟨r, hb, h3⟩
      · omega
      · have hs := g.rest c r (Nat.le_refl _) hb (by omega)
        have hne : c < i := by
          by_cases e : c = i
          · rw [e, hr] at hb; cases hb; omega
          · omega
        rcases L.beforeE hc ho hr hall (by omega) hb (by omega) hne with q | ⟨q, _⟩ | ⟨q, _⟩ | ⟨_, q, _⟩
        · rw [hs] at q; cases q
        · omega
        · omega
        · omega

/-- One that is ordered among all effects comes when the group is done. -/
theorem Grp.alone {X : HS} {G : List SO} {b c : Nat} (L : Lex E ops base recs h0) (g : Grp ops recs h0 S X G b c) (hc : Closed ops S) {i : Nat} {o : Oper} {rc : Rc} (ho : ops[i]? = some o) (hr : recs[i]? = some rc) (hi : S i = false)
    (hall : ∀ e ∈ o.after, Region.binds .any e = true → S e.on = true) (hcl : 3 ≤ rc.cls) : i = c ∧ G = heapAt h0 recs c ∧ (∀ k r, k < i → recs[k]? = some r → 2 ≤ r.cls → S k = true) ∧ (∀ k r, i < k → recs[k]? = some r → 2 ≤ r.cls → S k = false) := by
  have hil : i < ops.length := (List.getElem?_eq_some_iff.1 ho).1
  have hbef : ∀ k r, k < i → recs[k]? = some r → 2 ≤ r.cls → S k = true := fun k r hki hk h2 => by
    rcases L.beforeE hc ho hr hall (by omega) hk h2 hki with q | ⟨_, q⟩ | ⟨_, q, _⟩ | ⟨_, q, _⟩
    · exact q
    · omega
    · omega
    · omega
  have hbeh : ∀ k r, i < k → recs[k]? = some r → 2 ≤ r.cls → S k = false := fun k r hki hk h2 => by
    rcases L.behindE hc ho hr hi (by omega) hk h2 hki with q | ⟨q, _⟩ | ⟨q, _⟩ | ⟨q, _⟩
    · exact q
    · omega
    · omega
    · omega
  have hci : c ≤ i := by
    by_cases h : c ≤ i
    · exact h
    · exfalso
      by_cases hbi : b ≤ i
      · have := g.mid i rc hbi (by omega) hr
        omega
      · have := g.done i rc (by omega) hr (by omega)
        rw [hi] at this; cases this
  have hic : i = c := by
    rcases g.stop with e | ⟨r, hb, h3⟩
    · omega
    · by_cases e : i = c
      · exact e
      · have h1 := hbef c r (by omega) hb (by omega)
        have h2 := g.rest c r (Nat.le_refl _) hb (by omega)
        rw [h1] at h2; cases h2
  refine ⟨hic, ?_, hbef, hbeh⟩
  apply List.ext_getElem?
  intro n
  by_cases hn : n < G.length
  · have := g.there n hn (fun ⟨k, k1, k2, k3, k4, k5⟩ => by
      have hk : k < ops.length := by omega
      obtain ⟨rk, hrk⟩ := L.rcd (List.getElem?_eq_getElem hk)
      by_cases hck : 2 ≤ rk.cls
      · rw [hbef k rk (by omega) hrk hck] at k3; cases k3
      · have := L.quiet (List.getElem?_eq_getElem hk) hrk (by omega)
        rw [heapAt_succ recs h0 k rk hrk, this] at k5
        omega)
    rwa [nth_eq, nth_eq] at this
  · rw [List.getElem?_eq_none (by omega), List.getElem?_eq_none (by have := g.len; omega)]

/-- A step without a new object. -/
theorem Grp.quiet {X X' : HS} {G : List SO} {b c : Nat} {B : Base} {S' : Nat → Bool} (g : Grp ops recs h0 S X G b c) (H : HRep B X G) (hx : Ext X X') {i : Nat} {rc : Rc} (hr : recs[i]? = some rc) (hS : ∀ k, S' k = true ↔ (S k = true ∨ k = i))
    (he : rc.h = heapAt h0 recs i) (hcl : rc.cls ≤ 1 ∨ i < c) : Grp ops recs h0 S' X' G b c := by
  have hf : ∀ k, S' k = false → S k = false := fun k h => by
    cases q : S k with
    | false => rfl
    | true => rw [(hS k).2 (.inl q)] at h; cases h
  refine ⟨g.bc, g.cl, g.mid, g.stop, fun k r h1 h2 h3 => (hS k).2 (.inl (g.done k r h1 h2 h3)), fun k r h1 h2 h3 => ?_, g.len, fun n hn hh => g.there n hn (fun ⟨k, k1, k2, k3, k4, k5⟩ => ?_), fun n hn ⟨k, k1, k2, k3, k4, k5⟩ => ?_, g.base, g.bar⟩
  · cases q : S' k with
    | false => rfl
    | true =>
      rcases (hS k).1 q with q | q
      · rw [g.rest k r h1 h2 h3] at q; cases q
      · subst q
        rw [hr] at h2
        cases h2
        omega
  · by_cases e : k = i
    · subst e
      rw [heapAt_succ recs h0 k rc hr, he] at k5
      omega
    · refine hh ⟨k, k1, k2, ?_, k4, k5⟩
      cases q : S' k with
      | false => rfl
      | true =>
        rcases (hS k).1 q with q | q
        · rw [k3] at q; cases q
        · exact absurd q e
  · obtain ⟨f1, f2⟩ := g.free n hn ⟨k, k1, k2, hf k k3, k4, k5⟩
    refine ⟨f1, fun v hv => ?_⟩
    have hl : n < X.ρ.length := by rw [H.len]; exact hn
    have h1 := List.getElem?_eq_getElem hl
    have h2 := hx.ρ n _ h1
    rw [hv] at h2
    cases h2
    exact f2 _ h1

/-- A step with a new object. -/
theorem Grp.made {X X1 : HS} {G : List SO} {b c : Nat} {B : Base} {S' : Nat → Bool} (L : Lex E ops base recs h0) (g : Grp ops recs h0 S X G b c) (H : HRep B X G) (hx : Ext X X1) {i : Nat} {rc : Rc} (hr : recs[i]? = some rc) (hi : S i = false)
    (hS : ∀ k, S' k = true ↔ (S k = true ∨ k = i)) (hbi : b ≤ i) (hic : i < c) {obj : SO} (he : rc.h = heapAt h0 recs i ++ [obj]) (H1 : HRep B X1 (G ++ [obj])) (hobj : ∀ n ∈ obj.names, ∃ v, X.ρ[n]? = some v ∧ v.oneC = true) {u : Value} (hu : X1.ρ[G.length]? = some u) :
    HRep B ⟨X.ρ.set (heapAt h0 recs i).length u, X1.Ok, X1.w⟩ (G.set (heapAt h0 recs i).length obj) ∧ ExtW X ⟨X.ρ.set (heapAt h0 recs i).length u, X1.Ok, X1.w⟩ ∧
      (∀ X0, Ext X0 X → X0.ρ.length = h0.length → Ext X0 ⟨X.ρ.set (heapAt h0 recs i).length u, X1.Ok, X1.w⟩) ∧ Grp ops recs h0 S' ⟨X.ρ.set (heapAt h0 recs i).length u, X1.Ok, X1.w⟩ (G.set (heapAt h0 recs i).length obj) b c ∧
      (X.ρ.set (heapAt h0 recs i).length u)[(heapAt h0 recs i).length]? = some u := by
  have gcl := g.cl
  have glen := g.len
  have hsz : heapAt h0 recs (i + 1) = heapAt h0 recs i ++ [obj] := by rw [heapAt_succ recs h0 i rc hr, he]
  obtain ⟨l, el⟩ := L.lenMono (i := i + 1) (j := c) (by omega) gcl (fun k r h1 h2 hk => g.mid k r (by omega) h2 hk)
  have hp : (heapAt h0 recs i).length < G.length := by rw [glen, el, hsz]; simp
  have hhole : hole recs h0 S b c (heapAt h0 recs i).length := ⟨i, hbi, hic, hi, Nat.le_refl _, by rw [hsz]; simp⟩
  obtain ⟨f1, f2⟩ := g.free _ hp hhole
  obtain ⟨r1, r2, r3⟩ := H.fill hx H1 hp f2 hobj hu
  obtain ⟨l2, el2⟩ := L.lenMono (i := b) (j := i) hbi (by omega) (fun k r h1 h2 hk => g.mid k r (by omega) (by omega) hk)
  have hge : h0.length ≤ (heapAt h0 recs i).length := by have := g.base; rw [el2, List.length_append]; omega
  -- the places of other operations are others
  have apart : ∀ k, b ≤ k → k < c → k ≠ i → ¬ ((heapAt h0 recs k).length ≤ (heapAt h0 recs i).length ∧ (heapAt h0 recs i).length < (heapAt h0 recs (k + 1)).length) := by
    intro k k1 k2 hne ⟨q1, q2⟩
    rcases Nat.lt_or_gt_of_ne hne with h | h
    · obtain ⟨l', e'⟩ := L.lenMono (i := k + 1) (j := i) (by omega) (by omega) (fun q r g1 g2 hq => g.mid q r (by omega) (by omega) hq)
      rw [e', List.length_append] at q2; omega
    · obtain ⟨l', e'⟩ := L.lenMono (i := i + 1) (j := k) (by omega) (by omega) (fun q r g1 g2 hq => g.mid q r (by omega) (by omega) hq)
      rw [e', hsz] at q1; simp at q1; omega
  have hf : ∀ k, S' k = false → S k = false ∧ k ≠ i := fun k h => by
    refine ⟨?_, fun e => by rw [(hS k).2 (.inr e)] at h; cases h⟩
    cases q : S k with
    | false => rfl
    | true => rw [(hS k).2 (.inl q)] at h; cases h
  refine ⟨r1, r2, fun X0 h1 h2 => r3 X0 h1 (by omega), ⟨g.bc, g.cl, g.mid, g.stop, fun k r h1 h2 h3 => (hS k).2 (.inl (g.done k r h1 h2 h3)), fun k r h1 h2 h3 => ?_, by simpa using glen, fun n hn hh => ?_, fun n hn ⟨k, k1, k2, k3, k4, k5⟩ => ?_, g.base, g.bar⟩, List.getElem?_set_self (by rw [H.len]; exact hp)⟩
  · cases q : S' k with
    | false => rfl
    | true =>
      rcases (hS k).1 q with q | q
      · rw [g.rest k r h1 h2 h3] at q; cases q
      · omega
  · simp only [List.length_set] at hn
    by_cases e : (heapAt h0 recs i).length = n
    · subst e
      rw [nth_eq, nth_eq, List.getElem?_set_self hp, el, hsz, List.append_assoc, List.getElem?_append_right (Nat.le_refl _)]
      simp
    · rw [nth_eq, List.getElem?_set_ne e, ← nth_eq]
      refine g.there n hn (fun ⟨k, k1, k2, k3, k4, k5⟩ => ?_)
      by_cases ek : k = i
      · subst ek
        rw [hsz] at k5
        simp at k5
        omega
      · refine hh ⟨k, k1, k2, ?_, k4, k5⟩
        cases q : S' k with
        | false => rfl
        | true =>
          rcases (hS k).1 q with q | q
          · rw [k3] at q; cases q
          · exact absurd q ek
  · simp only [List.length_set] at hn
    obtain ⟨q1, q2⟩ := hf k k3
    obtain ⟨f3, f4⟩ := g.free n hn ⟨k, k1, k2, q1, k4, k5⟩
    have e : (heapAt h0 recs i).length ≠ n := fun e => by
      subst e
      exact apart k k1 k2 q2 ⟨k4, k5⟩
    refine ⟨by rw [nth_eq, List.getElem?_set_ne e, ← nth_eq]; exact f3, fun v hv => f4 v ?_⟩
    have : (X.ρ.set (heapAt h0 recs i).length u)[n]? = some v := hv
    rwa [List.getElem?_set_ne e] at this

/-- A step, taken where it comes, and the objects behind it. -/
theorem Grp.step {X X0 : HS} {G : List SO} {b c : Nat} {B : Base} {S' : Nat → Bool} (L : Lex E ops base recs h0) (g : Grp ops recs h0 S X G b c) (H : HRep B X G) (hX0 : Ext X0 X) (hlen0 : X0.ρ.length = h0.length) (hc : Closed ops S) {i : Nat} {o : Oper} {rc : Rc}
    (ho : ops[i]? = some o) (hr : recs[i]? = some rc) (hi : S i = false) (hall : ∀ e ∈ o.after, Region.binds .any e = true → S e.on = true) (hS : ∀ k, S' k = true ↔ (S k = true ∨ k = i)) {gc un : Bool} {ev : Operand → Option SV}
    {evg : Nat → Bool → Operand → Option SV} (hcls : rc.cls = clsK E o.op ev) (hft : rc.foot = footK o.op ev) (hev : ∀ x v, ev x = some v → ∃ vs, Rep X v .val vs) (hk : opK E o gc un ev evg (heapAt h0 recs i) pair = some (rc.v, rc.h)) :
    ∃ v h', opK E o gc un ev evg G pair = some (v, h') ∧ ∀ X' val, Ext X X' → HRep B X' h' → Rep X' v .val [val] → ∃ X2 G2 b2 c2, X2.w = X'.w ∧ ExtW X X2 ∧ Ext X0 X2 ∧ HRep B X2 G2 ∧ Grp ops recs h0 S' X2 G2 b2 c2 ∧ Rep X2 rc.v .val [val] := by
  have hil : i < ops.length := (List.getElem?_eq_some_iff.1 ho).1
  rcases (show rc.cls = 0 ∨ rc.cls = 1 ∨ rc.cls = 2 ∨ 3 ≤ rc.cls by omega) with h0' | h1 | h2 | h3
  · obtain ⟨e1, e2⟩ := opK_zero L.ok (by rw [← hcls]; exact h0') hk
    exact ⟨rc.v, G, e2 G, fun X' val hx H' hv => ⟨X', G, b, c, rfl, hx.weak, hX0.trans hx, H', g.quiet H hx hr hS e1 (.inl (by omega)), hv⟩⟩
  · have e2 := g.read L H hc ho hr hi hall h1 hcls hft hev hk
    have e1 := (opK_one L.ok (by rw [← hcls]; exact h1) hk).1
    exact ⟨rc.v, G, e2, fun X' val hx H' hv => ⟨X', G, b, c, rfl, hx.weak, hX0.trans hx, H', g.quiet H hx hr hS e1 (.inl (by omega)), hv⟩⟩
  · obtain ⟨i1, i2⟩ := g.inside L hc ho hr hi hall h2
    rcases opK_new L.ok (by rw [← hcls]; exact h2) hk with ⟨e1, e2⟩ | ⟨obj, mk, m1, m2, m3, m4, m5⟩
    · exact ⟨rc.v, G, e2 G, fun X' val hx H' hv => ⟨X', G, b, c, rfl, hx.weak, hX0.trans hx, H', g.quiet H hx hr hS e1 (.inr i2), hv⟩⟩
    · refine ⟨mk G.length, G ++ [obj], m5 G, fun X' val hx H' hv => ?_⟩
      have hl' : X'.ρ.length = G.length + 1 := by rw [H'.len]; simp
      have hu : X'.ρ[G.length]? = some (X'.ρ[G.length]) := List.getElem?_eq_getElem (by omega)
      obtain ⟨r1, r2, r3, r4, r5⟩ := g.made L H hx hr hi hS i1 i2 m3 H' (fun n hn => by
        obtain ⟨x, u, hx', hn'⟩ := m4 n hn
        obtain ⟨vs, hvs⟩ := hev x u hx'
        exact Rep_names u _ vs hvs n hn') hu
      refine ⟨⟨X.ρ.set (heapAt h0 recs i).length (X'.ρ[G.length]), X'.Ok, X'.w⟩, _, b, c, rfl, r2, r3 X0 hX0 hlen0, r1, r4, ?_⟩
      rw [m2]
      rcases m1 with rfl | rfl | rfl
      · obtain ⟨bb, q1, q2⟩ := hv
        rw [hu] at q1
        exact ⟨bb, r5.trans q1, q2⟩
      · obtain ⟨vv, q1, q2, q3⟩ := hv
        rw [hu] at q1
        exact ⟨vv, r5.trans q1, q2, q3⟩
      · obtain ⟨vv, q1, q2, q3⟩ := hv
        rw [hu] at q1
        exact ⟨vv, r5.trans q1, q2, q3⟩
  · obtain ⟨e1, e2, e3, e4⟩ := g.alone L hc ho hr hi hall h3
    subst e1
    refine ⟨rc.v, rc.h, by rw [e2]; exact hk, fun X' val hx H' hv => ?_⟩
    have hsz := heapAt_succ recs h0 i rc hr
    have hbase : h0.length ≤ (heapAt h0 recs (i + 1)).length := by
      have hl := H'.len
      rw [hsz, ← hl]
      have h1 : X0.ρ.length ≤ X'.ρ.length := by
        by_cases q : X0.ρ.length ≤ X'.ρ.length
        · exact q
        · exfalso
          have hz : X'.ρ.length < X0.ρ.length := by omega
          have := (hX0.trans hx).ρ X'.ρ.length _ (List.getElem?_eq_getElem hz)
          rw [List.getElem?_eq_none (Nat.le_refl _)] at this
          cases this
      omega
    obtain ⟨X2, G2, c2, q1, q2, q3, q4⟩ := L.opens (S := S') (b := i + 1) (by omega) (by rw [hsz]; exact H') (fun k r h1 h2 h3 => by
        by_cases e : k = i
        · exact (hS k).2 (.inr e)
        · exact (hS k).2 (.inl (e3 k r (by omega) h2 h3))) (fun k r h1 h2 h3 => by
        cases q : S' k with
        | false => rfl
        | true =>
          rcases (hS k).1 q with q | q
          · rw [e4 k r (by omega) h2 h3] at q; cases q
          · omega) hbase (.inr ⟨rc, by simpa using hr, h3⟩)
    exact ⟨X2, G2, i + 1, c2, q3, (hx.trans q2).weak, (hX0.trans hx).trans q2, q1, q4, Rep_mono q2 _ _ _ hv⟩

/-- A step that is passed over. -/
theorem Grp.skip {X X0 : HS} {G : List SO} {b c : Nat} {B : Base} {S' : Nat → Bool} (L : Lex E ops base recs h0) (g : Grp ops recs h0 S X G b c) (H : HRep B X G) (hX0 : Ext X0 X) (hlen0 : X0.ρ.length = h0.length) (hc : Closed ops S) {i : Nat} {o : Oper} {rc : Rc}
    (ho : ops[i]? = some o) (hr : recs[i]? = some rc) (hi : S i = false) (hall : ∀ e ∈ o.after, Region.binds .any e = true → S e.on = true) (hS : ∀ k, S' k = true ↔ (S k = true ∨ k = i)) (he : rc.h = heapAt h0 recs i) :
    ∃ X2 G2 b2 c2, X2.w = X.w ∧ ExtW X X2 ∧ Ext X0 X2 ∧ HRep B X2 G2 ∧ Grp ops recs h0 S' X2 G2 b2 c2 := by
  have hil : i < ops.length := (List.getElem?_eq_some_iff.1 ho).1
  rcases (show rc.cls ≤ 1 ∨ rc.cls = 2 ∨ 3 ≤ rc.cls by omega) with h1 | h2 | h3
  · exact ⟨X, G, b, c, rfl, ExtW.refl X, hX0, H, g.quiet H (Ext.refl X) hr hS he (.inl h1)⟩
  · exact ⟨X, G, b, c, rfl, ExtW.refl X, hX0, H, g.quiet H (Ext.refl X) hr hS he (.inr (g.inside L hc ho hr hi hall h2).2)⟩
  · obtain ⟨e1, e2, e3, e4⟩ := g.alone L hc ho hr hi hall h3
    subst e1
    have hsz := heapAt_succ recs h0 i rc hr
    have hG : heapAt h0 recs (i + 1) = G := by rw [hsz, he, e2]
    have hbase : h0.length ≤ (heapAt h0 recs (i + 1)).length := by
      have hl := H.len
      rw [hG, ← hl]
      by_cases q : X0.ρ.length ≤ X.ρ.length
      · omega
      · exfalso
        have hz : X.ρ.length < X0.ρ.length := by omega
        have := hX0.ρ X.ρ.length _ (List.getElem?_eq_getElem hz)
        rw [List.getElem?_eq_none (Nat.le_refl _)] at this
        cases this
    obtain ⟨X2, G2, c2, q1, q2, q3, q4⟩ := L.opens (S := S') (b := i + 1) (by omega) (by rw [hG]; exact H) (fun k r h1 h2 h3 => by
        by_cases e : k = i
        · exact (hS k).2 (.inr e)
        · exact (hS k).2 (.inl (e3 k r (by omega) h2 h3))) (fun k r h1 h2 h3 => by
        cases q : S' k with
        | false => rfl
        | true =>
          rcases (hS k).1 q with q | q
          · rw [e4 k r (by omega) h2 h3] at q; cases q
          · omega) hbase (.inr ⟨rc, by simpa using hr, h3⟩)
    exact ⟨X2, G2, i + 1, c2, q3, q2.weak, hX0.trans q2, q1, q4⟩

end

end Go.Eng
