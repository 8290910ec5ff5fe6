/- The engine, part 19d: a step of a drawn region. -/
import Derived.Test.YtondjihmmjjinaaE19C
namespace Go.Eng
open Go
set_option linter.unusedVariables false
set_option linter.unusedSimpArgs false

section
variable {E : Env} {ops : List Oper} {base : List (Nat × SV)} {recs : List Rc} {h0 : List SO} {S : Nat → Bool}

/-- A step, taken where it comes, and the objects behind it. -/
theorem Grp.step {X X0 : HS} {G : List SO} {c : Nat} {B : Base} {S' : Nat → Bool} (L : Lex E ops base recs h0) (g : Grp ops recs h0 S X G c) (H : HRep B X G) (hX0 : Ext X0 X) (hlen0 : X0.ρ.length = h0.length) (hc : Closed ops S) {i : Nat} {o : Oper} {rc : Rc}
    (ho : ops[i]? = some o) (hr : recs[i]? = some rc) (hi : S i = false) (hall : ∀ e ∈ o.after, Region.binds .any e = true → S e.on = true) (hS : ∀ k, S' k = true ↔ (S k = true ∨ k = i)) {gc un : Bool} {ev : Operand → Option SV}
    {evg : Nat → Bool → Operand → Option SV} (hcls : rc.cls = clsK E o.op ev) (hft : rc.foot = footK E o.op ev (heapAt h0 recs i)) (hev : ∀ x v, ev x = some v → ∃ vs, Rep X v .val vs)
    (hnm : ∀ x ∈ o.op.operands, ∀ u, ev x = some u → ∀ n ∈ u.names, n < (heapAt h0 recs i).length) (hnmg : ∀ t w, ∀ x ∈ o.op.operands, ∀ u, evg t w x = some u → ∀ n ∈ u.names, n < (heapAt h0 recs i).length)
    (hk : opK E o gc un ev evg (heapAt h0 recs i) pair = some (rc.v, rc.h)) :
    ∃ (Br : Base) (Xr : HS) (Gr : List SO) (ev' : Operand → Option SV) (evg' : Nat → Bool → Operand → Option SV) (v : SV) (h' : List SO), HRep Br Xr Gr ∧ Xr.w = X.w ∧
      (∀ x u, ev' x = some u → ev x = some u ∧ ∀ vs, Rep X u .val vs → Rep Xr u .val vs) ∧ (∀ t w x u, evg' t w x = some u → evg t w x = some u ∧ ∀ vs, Rep X u .val vs → Rep Xr u .val vs) ∧
      opK E o gc un ev' evg' Gr pair = some (v, h') ∧ ∀ X' val, Ext Xr X' → HRep Br X' h' → Rep X' v .val [val] → ∃ X2 G2 c2, X2.w = X'.w ∧ ExtW X X2 ∧ Ext X0 X2 ∧ HRep B X2 G2 ∧ Grp ops recs h0 S' X2 G2 c2 ∧ Rep X2 rc.v .val [val] := by
  have hil : i < ops.length := (List.getElem?_eq_some_iff.1 ho).1
  rcases (show rc.cls = 0 ∨ rc.cls = 1 ∨ rc.cls = 2 ∨ 3 ≤ rc.cls by omega) with h0' | h1 | h2 | h3
  · obtain ⟨e1, e2⟩ := opK_zero L.ok (by rw [← hcls]; exact h0') hk
    exact ⟨B, X, G, ev, evg, rc.v, G, H, rfl, fun x u h => ⟨h, fun _ h => h⟩, fun t w x u h => ⟨h, fun _ h => h⟩, e2 G, fun X' val hx H' hv => ⟨X', G, c, rfl, hx.weak, hX0.trans hx, H', g.quiet L H hx hr hS e1 (by omega), hv⟩⟩
  · have e2 := g.read L H hc ho hr hi hall h1 hcls hft hev hk
    have e1 := (opK_one L.ok (by rw [← hcls]; exact h1) hk).1
    exact ⟨B, X, G, ev, evg, rc.v, G, H, rfl, fun x u h => ⟨h, fun _ h => h⟩, fun t w x u h => ⟨h, fun _ h => h⟩, e2, fun X' val hx H' hv => ⟨X', G, c, rfl, hx.weak, hX0.trans hx, H', g.quiet L H hx hr hS e1 (by omega), hv⟩⟩
  · rcases opK_new L.ok (by rw [← hcls]; exact h2) hk with ⟨e1, e2⟩ | ⟨obj, mk, m1, m2, m3, m4, m5⟩
    · exact ⟨B, X, G, ev, evg, rc.v, G, H, rfl, fun x u h => ⟨h, fun _ h => h⟩, fun t w x u h => ⟨h, fun _ h => h⟩, e2 G, fun X' val hx H' hv => ⟨X', G, c, rfl, hx.weak, hX0.trans hx, H', g.quiet L H hx hr hS e1 (by omega), hv⟩⟩
    · refine ⟨B, X, G, ev, evg, mk G.length, G ++ [obj], H, rfl, fun x u h => ⟨h, fun _ h => h⟩, fun t w x u h => ⟨h, fun _ h => h⟩, m5 G, fun X' val hx H' hv => ?_⟩
      have hl' : X'.ρ.length = G.length + 1 := by rw [H'.len]; simp
      have hu : X'.ρ[G.length]? = some (X'.ρ[G.length]) := List.getElem?_eq_getElem (by omega)
      obtain ⟨r1, r2, r3, r4, r5⟩ := g.made L H hx hc ho hr hi h2 hS m3 H' (fun n hn => by
        obtain ⟨x, u, hx', hn'⟩ := m4 n hn
        obtain ⟨vs, hvs⟩ := hev x u hx'
        exact Rep_names u _ vs hvs n hn') hu
      refine ⟨⟨X.ρ.set (heapAt h0 recs i).length (X'.ρ[G.length]), X'.Ok, X'.w⟩, _, c, rfl, r2, r3 X0 hX0 hlen0, r1, r4, ?_⟩
      rw [m2]
      rcases m1 with rfl | rfl | rfl
      · obtain ⟨bb, q1, q2⟩ := hv
        rw [hu] at q1
        exact ⟨bb, r5.trans q1, q2⟩
      · obtain ⟨vv, q1, q2, q3⟩ := hv
        rw [hu] at q1
        exact ⟨vv, r5.trans q1, q2, q3⟩
      · obtain ⟨vv, q1, q2, q3⟩ := hv
        rw [hu] at q1
        exact ⟨vv, r5.trans q1, q2, q3⟩
  · obtain ⟨e1, e2, e3⟩ := g.alone L hc ho hr hi hall h3
    subst e1
    have hsz := heapAt_succ recs h0 i rc hr
    have glen := g.len
    have hle := L.lenLe (i := i) (j := ops.length) (by omega) (Nat.le_refl _)
    have hle2 := L.lenLe (i := i + 1) (j := ops.length) (by omega) (Nat.le_refl _)
    have hle3 := L.lenLe (i := i) (j := i + 1) (by omega) (by omega)
    have hbase := L.lenBase (i := i) (by omega)
    have gat : ∀ n, n < (heapAt h0 recs i).length → nth G n = nth (heapAt h0 recs i) n := fun n hn => by
      have : (G.take (heapAt h0 recs i).length)[n]? = (heapAt h0 recs i)[n]? := by rw [e2]
      rw [List.getElem?_take_of_lt hn] at this
      rw [nth_eq, nth_eq]; exact this
    have Hc := H.cut (m := (heapAt h0 recs i).length) (by omega) (fun n o hn ho k hk => by
      rw [gat n hn] at ho
      exact L.scope i (by omega) n o ho k hk)
    haveI : ∀ x : Operand, Decidable (x ∈ o.op.operands) := fun x => Classical.propDecidable _
    have tr : ∀ u : SV, (∀ n ∈ u.names, n < (heapAt h0 recs i).length) → ∀ vs, Rep X u .val vs → Rep (X.cut (heapAt h0 recs i).length) u .val vs := fun u hu vs hvs =>
      Rep_at (X := X) (Y := X.cut (heapAt h0 recs i).length) (fun _ h => h) (fun _ _ => rfl) u .val vs (fun n hn w hw _ => by
        show (X.ρ.take _)[n]? = some w
        rw [List.getElem?_take_of_lt (hu n hn)]; exact hw) hvs
    refine ⟨_, X.cut (heapAt h0 recs i).length, G.take (heapAt h0 recs i).length, fun x => if x ∈ o.op.operands then ev x else none, fun t w x => if x ∈ o.op.operands then evg t w x else none, rc.v, rc.h, Hc, rfl, ?_, ?_, ?_, ?_⟩
    · intro x u h
      simp only at h
      split at h
      · rename_i hm; exact ⟨h, tr u (hnm x hm u h)⟩
      · cases h
    · intro t w x u h
      simp only at h
      split at h
      · rename_i hm; exact ⟨h, tr u (hnmg t w x hm u h)⟩
      · cases h
    · rw [e2, ← opK_congr (ev := ev) (evg := evg) (fun x hx => by simp only [if_pos hx]) (fun c t x hx => by simp only [if_pos hx])]
      exact hk
    · intro X' val hx H' hv
      obtain ⟨r1, r2, r3, r4⟩ := H.uncut (m := (heapAt h0 recs i).length) (by omega) hx H' (by rw [← hsz]; exact hle3) (by rw [← hsz]; omega) (fun n h1 h2 v hv => by
        rw [← hsz] at h2
        exact (g.free i n hil ⟨h1, h2⟩ hi).2 v hv)
      obtain ⟨c2, q⟩ := g.wrote (X2 := ⟨X'.ρ ++ X.ρ.drop rc.h.length, X'.Ok, X'.w⟩) (G1 := rc.h) L hr h3 hS hsz.symm e3 (fun n hn => by
        show (X'.ρ ++ X.ρ.drop rc.h.length)[n]? = _
        have hl' := H'.len
        rw [List.getElem?_append_right (by omega), List.getElem?_drop, hl']
        congr 1
        omega)
      exact ⟨⟨X'.ρ ++ X.ρ.drop rc.h.length, X'.Ok, X'.w⟩, _, c2, rfl, r2, r4 X0 hX0 (by omega), r1, q, Rep_mono r3 _ _ _ hv⟩

/-- A step that is passed over. -/
theorem Grp.skip {X X0 : HS} {G : List SO} {c : Nat} {B : Base} {S' : Nat → Bool} (L : Lex E ops base recs h0) (g : Grp ops recs h0 S X G c) (H : HRep B X G) (hX0 : Ext X0 X) (hc : Closed ops S) {i : Nat} {o : Oper} {rc : Rc}
    (ho : ops[i]? = some o) (hr : recs[i]? = some rc) (hi : S i = false) (hall : ∀ e ∈ o.after, Region.binds .any e = true → S e.on = true) (hS : ∀ k, S' k = true ↔ (S k = true ∨ k = i)) (he : rc.h = heapAt h0 recs i) :
    ∃ X2 G2 c2, X2.w = X.w ∧ ExtW X X2 ∧ Ext X0 X2 ∧ HRep B X2 G2 ∧ Grp ops recs h0 S' X2 G2 c2 := by
  rcases (show rc.cls ≤ 2 ∨ 3 ≤ rc.cls by omega) with h1 | h3
  · exact ⟨X, G, c, rfl, ExtW.refl X, hX0, H, g.quiet L H (Ext.refl X) hr hS he h1⟩
  · obtain ⟨e1, e2, e3⟩ := g.alone L hc ho hr hi hall h3
    subst e1
    have hsz := heapAt_succ recs h0 i rc hr
    obtain ⟨c2, q⟩ := g.wrote (X2 := X) (G1 := rc.h) L hr h3 hS hsz.symm e3 (fun n hn => rfl)
    have hG : rc.h ++ G.drop rc.h.length = G := by
      rw [he]
      conv => rhs; rw [← List.take_append_drop (heapAt h0 recs i).length G, e2]
    rw [hG] at q
    exact ⟨X, G, c2, rfl, ExtW.refl X, hX0, H, q⟩

end

end Go.Eng
