/- The engine, part 18b: holes among the objects, and how they are filled. -/
import Derived.Test.YtondjihmmjjinaaE18
namespace Go.Eng
open Go
set_option linter.unusedVariables false
set_option linter.unusedSimpArgs false

/-- What a value names is there. -/
theorem Rep_names {X : HS} : ∀ (v : SV) (m : Md) (vs : List Value), Rep X v m vs → ∀ n ∈ v.names, ∃ u, X.ρ[n]? = some u ∧ u.oneC = true
  | .dat g x, _, vs, h, n, hn => by simp [SV.names] at hn
  | .nils, _, vs, h, n, hn => by simp [SV.names] at hn
  | .emp, _, vs, h, n, hn => by simp [SV.names] at hn
  | .nilp, _, vs, h, n, hn => by simp [SV.names] at hn
  | .nilm, _, vs, h, n, hn => by simp [SV.names] at hn
  | .nilfn, _, vs, h, n, hn => by simp [SV.names] at hn
  | .nsl _ _, _, vs, h, n, hn => by simp [SV.names] at hn
  | .box k _ off, _, vs, h, n, hn => by
    obtain ⟨b, h1, _⟩ := h
    simp only [SV.names, List.mem_singleton] at hn
    subst hn
    exact ⟨_, h1, rfl⟩
  | .el k g i _ off, _, vs, h, n, hn => by
    obtain ⟨b, o, len, cap, h1, _⟩ := h
    simp only [SV.names, List.mem_singleton] at hn
    subst hn
    exact ⟨_, h1, rfl⟩
  | .rd g x, _, vs, h, n, hn => by simp [SV.names] at hn
  | .own k, _, vs, h, n, hn => by
    obtain ⟨v, h1, _, h3⟩ := h
    simp only [SV.names, List.mem_singleton] at hn
    subst hn
    exact ⟨_, h1, h3⟩
  | .vw k g lo len, _, vs, h, n, hn => by
    obtain ⟨base, l, cap, b', c, h1, _⟩ := h
    simp only [SV.names, List.mem_singleton] at hn
    subst hn
    exact ⟨_, h1, rfl⟩
  | .mp k, _, vs, h, n, hn => by
    obtain ⟨v, h1, _, h3⟩ := h
    simp only [SV.names, List.mem_singleton] at hn
    subst hn
    exact ⟨_, h1, h3⟩
  | .fn f caps, _, vs, h, n, hn => by obtain ⟨us, h1, _⟩ := h; exact Rep_names caps _ us h1 n hn
  | .snil, _, vs, h, n, hn => by simp [SV.names] at hn
  | .scons a b, .cells, vs, h, n, hn => by
    obtain ⟨c1, c2, _, h1, h2⟩ := h
    rcases List.mem_append.1 hn with hn | hn
    · exact Rep_names a _ c1 h1 n hn
    · exact Rep_names b _ c2 h2 n hn
  | .scons a b, .val, vs, h, n, hn => by
    obtain ⟨c1, c2, _, h1, h2⟩ := h
    rcases List.mem_append.1 hn with hn | hn
    · exact Rep_names a _ _ h1 n hn
    · exact Rep_names b _ c2 h2 n hn
  | .scons a b, .vals, vs, h, n, hn => by
    obtain ⟨c1, c2, _, h1, h2⟩ := h
    rcases List.mem_append.1 hn with hn | hn
    · exact Rep_names a _ _ h1 n hn
    · exact Rep_names b _ c2 h2 n hn
  | .agg l, .cells, vs, h, n, hn => Rep_names l .cells vs h n hn
  | .agg l, .val, vs, h, n, hn => by obtain ⟨cs, h1, _⟩ := h; exact Rep_names l _ cs h1 n hn
  | .agg l, .vals, vs, h, n, hn => by obtain ⟨cs, h1, _⟩ := h; exact Rep_names l _ cs h1 n hn
  | .tup l, .cells, vs, h, _, _ => h.elim
  | .tup l, .val, vs, h, n, hn => by obtain ⟨us, h1, _⟩ := h; exact Rep_names l _ us h1 n hn
  | .tup l, .vals, vs, h, n, hn => by obtain ⟨us, h1, _⟩ := h; exact Rep_names l _ us h1 n hn

/-- A value stands for the same where what it names lies at the same places. -/
theorem Rep_at {X Y : HS} (hok : ∀ b, X.Ok b → Y.Ok b) (hst : ∀ b, X.Ok b → Y.w.heap[b]? = X.w.heap[b]?) : ∀ (v : SV) (m : Md) (vs : List Value), (∀ n ∈ v.names, ∀ u, X.ρ[n]? = some u → u.oneC = true → Y.ρ[n]? = some u) → Rep X v m vs → Rep Y v m vs
  | .dat g x, .cells, vs, hn, h => RepD_mono hok hst g x vs h
  | .dat g x, .val, vs, hn, h => let ⟨cs, h1, h2⟩ := h; ⟨cs, RepD_mono hok hst g x cs h1, h2⟩
  | .dat g x, .vals, vs, hn, h => let ⟨cs, h1, h2⟩ := h; ⟨cs, RepD_mono hok hst g x cs h1, h2⟩
  | .nils, _, vs, _, h => h
  | .emp, _, vs, _, h => h
  | .nilp, _, vs, _, h => h
  | .nilm, _, vs, _, h => h
  | .nilfn, _, vs, _, h => h
  | .nsl g xs, _, vs, _, h => ⟨RepD_mono hok hst (.sl g) xs vs h.1, h.2⟩
  | .box n _ off, _, vs, hn, h => let ⟨b, h1, h2⟩ := h; ⟨b, hn n (by simp [SV.names]) _ h1 rfl, h2⟩
  | .el n g i _ off, _, vs, hn, h => let ⟨b, o, len, cap, h1, h2⟩ := h; ⟨b, o, len, cap, hn n (by simp [SV.names]) _ h1 rfl, h2⟩
  | .rd g x, _, vs, _, h => by
    obtain ⟨a, cs, h1, h2, h3, h4, h5⟩ := h
    refine ⟨a, cs, RepD_mono hok hst g x cs h1, h2, h3, hok _ h4, fun j v hj => ?_⟩
    rw [cellAt_congr (hst _ h4)]; exact h5 j v hj
  | .own n, _, vs, hn, h => let ⟨v, h1, h2, h3⟩ := h; ⟨v, hn n (by simp [SV.names]) _ h1 h3, h2, h3⟩
  | .vw n g lo len, _, vs, hn, h => let ⟨base, l, cap, b', c, h1, h2⟩ := h; ⟨base, l, cap, b', c, hn n (by simp [SV.names]) _ h1 rfl, h2⟩
  | .mp n, _, vs, hn, h => let ⟨v, h1, h2, h3⟩ := h; ⟨v, hn n (by simp [SV.names]) _ h1 h3, h2, h3⟩
  | .fn f caps, _, vs, hn, h => let ⟨us, h1, h2⟩ := h; ⟨us, Rep_at hok hst caps _ us hn h1, h2⟩
  | .snil, _, vs, _, h => h
  | .scons a b, .cells, vs, hn, h => let ⟨c1, c2, h0, h1, h2⟩ := h; ⟨c1, c2, h0, Rep_at hok hst a _ c1 (fun n m => hn n (List.mem_append_left _ m)) h1, Rep_at hok hst b _ c2 (fun n m => hn n (List.mem_append_right _ m)) h2⟩
  | .scons a b, .val, vs, hn, h => let ⟨c1, c2, h0, h1, h2⟩ := h; ⟨c1, c2, h0, Rep_at hok hst a _ _ (fun n m => hn n (List.mem_append_left _ m)) h1, Rep_at hok hst b _ c2 (fun n m => hn n (List.mem_append_right _ m)) h2⟩
  | .scons a b, .vals, vs, hn, h => let ⟨c1, c2, h0, h1, h2⟩ := h; ⟨c1, c2, h0, Rep_at hok hst a _ _ (fun n m => hn n (List.mem_append_left _ m)) h1, Rep_at hok hst b _ c2 (fun n m => hn n (List.mem_append_right _ m)) h2⟩
  | .agg l, .cells, vs, hn, h => Rep_at hok hst l .cells vs hn h
  | .agg l, .val, vs, hn, h => let ⟨cs, h1, h2⟩ := h; ⟨cs, Rep_at hok hst l _ cs hn h1, h2⟩
  | .agg l, .vals, vs, hn, h => let ⟨cs, h1, h2⟩ := h; ⟨cs, Rep_at hok hst l _ cs hn h1, h2⟩
  | .tup l, .cells, vs, _, h => h.elim
  | .tup l, .val, vs, hn, h => let ⟨us, h1, h2⟩ := h; ⟨us, Rep_at hok hst l _ us hn h1, h2⟩
  | .tup l, .vals, vs, hn, h => let ⟨us, h1, h2⟩ := h; ⟨us, Rep_at hok hst l _ us hn h1, h2⟩

/-- More is known; what is named keeps its place. -/
structure ExtW (X Y : HS) : Prop where
  ρ : ∀ (n : Nat) (v : Value), X.ρ[n]? = some v → v.oneC = true → Y.ρ[n]? = some v
  ok : ∀ b, X.Ok b → Y.Ok b
  st : ∀ b, X.Ok b → Y.w.heap[b]? = X.w.heap[b]?

theorem Ext.weak {X Y : HS} (h : Ext X Y) : ExtW X Y := ⟨fun n v e _ => h.ρ n v e, h.ok, h.st⟩
theorem ExtW.refl (X : HS) : ExtW X X := (Ext.refl X).weak
theorem ExtW.trans {X Y Z : HS} (h : ExtW X Y) (k : ExtW Y Z) : ExtW X Z :=
  ⟨fun n v e o => k.ρ n v (h.ρ n v e o) o, fun b e => k.ok b (h.ok b e), fun b e => (k.st b (h.ok b e)).trans (h.st b e)⟩
theorem Rep_weak {X Y : HS} (hx : ExtW X Y) (v : SV) (m : Md) (vs : List Value) (h : Rep X v m vs) : Rep Y v m vs :=
  Rep_at hx.ok hx.st v m vs (fun n _ u h1 h2 => hx.ρ n u h1 h2) h

/-- A live object's place. -/
theorem RepO_live {X : HS} {n : Nat} {o : SO} (h : RepO X n o) (hl : o.live = true) : ∃ u, X.ρ[n]? = some u ∧ u.oneC = true := by
  cases o with
  | dead => cases hl
  | box v => obtain ⟨b, cs, T, h1, _⟩ := h; exact ⟨_, h1, rfl⟩
  | arr g xs =>
    rcases h with ⟨base, h1, _⟩ | ⟨b, o, cap, cells, T, fz, h1, _⟩
    · exact ⟨_, h1, rfl⟩
    · exact ⟨_, h1, rfl⟩
  | map k v es => obtain ⟨r, ents, clock, h1, _⟩ := h; exact ⟨_, h1, rfl⟩
  | mapS k v es x m => obtain ⟨r, ents, clock, h1, _⟩ := h; exact ⟨_, h1, rfl⟩
  | mapB k v es bs c => obtain ⟨r, ents, h1, _⟩ := h; exact ⟨_, h1, rfl⟩
  | hole q g xs i u => obtain ⟨b, o, cap, cells, T, fz, h1, _⟩ := h; exact ⟨_, h1, rfl⟩

theorem RepO_names {X : HS} {n : Nat} {o : SO} (h : RepO X n o) : ∀ k ∈ o.names, ∃ u, X.ρ[k]? = some u ∧ u.oneC = true := by
  cases o with
  | box v => obtain ⟨b, cs, T, _, _, h3⟩ := h; exact Rep_names v _ cs h3
  | hole q g xs i u =>
    obtain ⟨b, o, cap, cells, T, fz, _, _, _, _, _, _, _, _, h9, h10⟩ := h
    obtain ⟨cs, k1, _⟩ := h10 i xs[i] (List.getElem?_eq_getElem h9)
    rw [Nat.beq_refl, cond_true] at k1
    exact Rep_names u _ cs k1
  | mapS k v es x m =>
    obtain ⟨r, ents, clock, _, _, _, _, _, p, me, z, _, _, h8, _⟩ := h
    intro k hk
    simp only [SO.names, List.mem_singleton] at hk
    subst hk
    exact ⟨_, h8, rfl⟩
  | _ => intro k hk; simp [SO.names] at hk

/-- An object at another place. -/
theorem RepO_at {X Y : HS} {n m : Nat} {o : SO} (hok : Y.Ok = X.Ok) (hw : Y.w = X.w) (hm : ∀ u, X.ρ[n]? = some u → Y.ρ[m]? = some u) (hn : ∀ k ∈ o.names, ∀ u, X.ρ[k]? = some u → u.oneC = true → Y.ρ[k]? = some u) (h : RepO X n o) : RepO Y m o := by
  obtain ⟨ρ, Ok, w⟩ := Y
  simp only at hok hw
  subst hok; subst hw
  cases o with
  | dead => trivial
  | box v =>
    obtain ⟨b, cs, T, h1, h2, h3⟩ := h
    exact ⟨b, cs, T, hm _ h1, h2, Rep_at (X := X) (Y := ⟨ρ, X.Ok, X.w⟩) (fun _ h => h) (fun _ _ => rfl) v _ cs hn h3⟩
  | arr g xs =>
    rcases h with ⟨base, h1, h2⟩ | ⟨b, o, cap, cells, T, fz, h1, h2⟩
    · exact .inl ⟨base, hm _ h1, h2⟩
    · exact .inr ⟨b, o, cap, cells, T, fz, hm _ h1, h2⟩
  | map k v es =>
    obtain ⟨r, ents, clock, h1, h2⟩ := h
    exact ⟨r, ents, clock, hm _ h1, h2⟩
  | mapB k v es bs c =>
    obtain ⟨r, ents, h1, h2⟩ := h
    exact ⟨r, ents, hm _ h1, h2⟩
  | mapS k v es x q =>
    obtain ⟨r, ents, clock, h1, h2, h3, h4, h5, p, me, z, h6, h7, h8, h9⟩ := h
    exact ⟨r, ents, clock, hm _ h1, h2, h3, h4, h5, p, me, z, h6, h7, hn q (by simp [SO.names]) _ h8 rfl, h9⟩
  | hole q g xs i u =>
    obtain ⟨b, o, cap, cells, T, fz, h1, h2, h3, h4, h5, h6, h7, h8, h9, h10⟩ := h
    refine ⟨b, o, cap, cells, T, fz, hm _ h1, h2, h3, h4, h5, h6, h7, h8, h9, fun j x hj => ?_⟩
    obtain ⟨cs, k1, k2⟩ := h10 j x hj
    refine ⟨cs, ?_, k2⟩
    cases hb : Nat.beq j i with
    | true =>
      rw [hb, cond_true] at k1
      exact Rep_at (X := X) (Y := ⟨ρ, X.Ok, X.w⟩) (fun _ h => h) (fun _ _ => rfl) u _ cs hn k1
    | false =>
      rw [hb, cond_false] at k1
      exact k1

/-- A new object, moved into a hole. -/
theorem HRep.fill {B : Base} {X X1 : HS} {G : List SO} {obj : SO} {p : Nat} {u : Value} (H : HRep B X G) (hx : Ext X X1) (H1 : HRep B X1 (G ++ [obj])) (hp : p < G.length) (hph : ∀ v, X.ρ[p]? = some v → v.oneC = false)
    (hobj : ∀ n ∈ obj.names, ∃ v, X.ρ[n]? = some v ∧ v.oneC = true) (hu : X1.ρ[G.length]? = some u) :
    HRep B ⟨X.ρ.set p u, X1.Ok, X1.w⟩ (G.set p obj) ∧ ExtW X ⟨X.ρ.set p u, X1.Ok, X1.w⟩ ∧ ∀ X0, Ext X0 X → X0.ρ.length ≤ p → Ext X0 ⟨X.ρ.set p u, X1.Ok, X1.w⟩ := by
  have hlen := H.len
  have hpn : ∀ {n : Nat} {v : Value}, X.ρ[n]? = some v → v.oneC = true → p ≠ n := by
    intro n v h1 h2 e
    subst e
    rw [hph v h1] at h2; cases h2
  have E : ExtW X ⟨X.ρ.set p u, X1.Ok, X1.w⟩ := ⟨fun n v h1 h2 => by
    show (X.ρ.set p u)[n]? = some v
    rw [List.getElem?_set_ne (hpn h1 h2)]; exact h1, hx.ok, hx.st⟩
  -- names that are there keep their places
  have keep : ∀ (k : Nat) (v : Value), X.ρ[k]? = some v → v.oneC = true → ∀ (w : Value), X1.ρ[k]? = some w → (X.ρ.set p u)[k]? = some w := by
    intro k v h1 h2 w h3
    have := hx.ρ k v h1
    rw [h3] at this
    cases this
    rw [List.getElem?_set_ne (hpn h1 h2)]; exact h1
  -- what stands at a place
  have key : ∀ n o, nth (G.set p obj) n = some o → (n = p ∧ o = obj) ∨ (n ≠ p ∧ nth G n = some o) := by
    intro n o h
    rw [nth_eq] at h
    by_cases e : p = n
    · subst e
      rw [List.getElem?_set_self hp] at h
      exact .inl ⟨rfl, (Option.some.inj h).symm⟩
    · rw [List.getElem?_set_ne e] at h
      exact .inr ⟨fun h => e h.symm, by rw [nth_eq]; exact h⟩
  have inG : ∀ {n o}, nth G n = some o → nth (G ++ [obj]) n = some o := fun h => nth_app h
  have last : nth (G ++ [obj]) G.length = some obj := by rw [nth_eq]; simp
  have ltG : ∀ {n o}, nth G n = some o → n < G.length := fun {n o} h => by
    rw [nth_eq] at h; exact (List.getElem?_eq_some_iff.1 h).1
  have hup : (X.ρ.set p u)[p]? = some u := List.getElem?_set_self (by omega)
  have blkP : blkOf ⟨X.ρ.set p u, X1.Ok, X1.w⟩ p = blkOf X1 G.length := by
    simp only [blkOf, hup, hu]
  have blkN : ∀ n o, n ≠ p → nth G n = some o → o.live = true → blkOf ⟨X.ρ.set p u, X1.Ok, X1.w⟩ n = blkOf X1 n := by
    intro n o hn hG hl
    obtain ⟨v, h1, h2⟩ := RepO_live (H.obj n o hG) hl
    have h3 := hx.ρ n v h1
    simp only [blkOf, h3]
    rw [keep n v h1 h2 v h3]
  refine ⟨⟨by simp [hlen], ?_, ?_, ?_, H1.okLt, ?_, H1.okOld, H1.okNew, H1.os, H1.tape, H1.out, H1.size, H1.fr⟩, E, fun X0 e h0 => ⟨fun n v h1 => ?_, fun b h => hx.ok b (e.ok b h), fun b h => (hx.st b (e.ok b h)).trans (e.st b h)⟩⟩
  · intro n o h
    rcases key n o h with ⟨rfl, rfl⟩ | ⟨hn, hG⟩
    · refine RepO_at (X := X1) (n := G.length) rfl rfl (fun w hw => ?_) (fun k hk w h1 h2 => ?_) (H1.obj _ _ last)
      · rw [hu] at hw
        cases hw
        exact hup
      · obtain ⟨v, g1, g2⟩ := hobj k hk
        exact keep k v g1 g2 w h1
    · cases hl : o.live with
      | false => cases o <;> first | trivial | cases hl
      | true =>
        refine RepO_at (X := X1) (n := n) rfl rfl (fun w hw => ?_) (fun k hk w h1 h2 => ?_) (H1.obj _ _ (inG hG))
        · obtain ⟨v, g1, g2⟩ := RepO_live (H.obj n o hG) hl
          exact keep n v g1 g2 w hw
        · obtain ⟨v, g1, g2⟩ := RepO_names (H.obj n o hG) k hk
          exact keep k v g1 g2 w h1
  · intro n m o o' hn hm l1 l2 b b1 b2
    rcases key n o hn with ⟨rfl, rfl⟩ | ⟨hn', hG⟩
    · rcases key m o' hm with ⟨rfl, rfl⟩ | ⟨hm', hG'⟩
      · rfl
      · rw [blkP] at b1
        rw [blkN m o' hm' hG' l2] at b2
        have := H1.inj _ _ _ _ last (inG hG') l1 l2 b b1 b2
        have := ltG hG'
        omega
    · rcases key m o' hm with ⟨rfl, rfl⟩ | ⟨hm', hG'⟩
      · rw [blkN n o hn' hG l1] at b1
        rw [blkP] at b2
        have := H1.inj _ _ _ _ (inG hG) last l1 l2 b b1 b2
        have := ltG hG
        omega
      · rw [blkN n o hn' hG l1] at b1
        rw [blkN m o' hm' hG' l2] at b2
        exact H1.inj _ _ _ _ (inG hG) (inG hG') l1 l2 b b1 b2
  · intro n o hn l b hb
    rcases key n o hn with ⟨rfl, rfl⟩ | ⟨hn', hG⟩
    · rw [blkP] at hb
      exact H1.sep _ _ last l b hb
    · rw [blkN n o hn' hG l] at hb
      exact H1.sep _ _ (inG hG) l b hb
  · intro n o b hn l hb
    rcases key n o hn with ⟨rfl, rfl⟩ | ⟨hn', hG⟩
    · rw [blkP] at hb
      exact H1.ownNew _ _ b last l hb
    · rw [blkN n o hn' hG l] at hb
      exact H1.ownNew _ _ b (inG hG) l hb
  · have hn : n < X0.ρ.length := (List.getElem?_eq_some_iff.1 h1).1
    show (X.ρ.set p u)[n]? = some v
    rw [List.getElem?_set_ne (by omega)]
    exact e.ρ n v h1

/-- No one-cell value: what stands in the table for a hole. -/
def holeV : Value := .tuple #[]

/-- Holes behind the objects. -/
theorem HRep.pad {B : Base} {X : HS} {G : List SO} (H : HRep B X G) (k : Nat) :
    HRep B ⟨X.ρ ++ List.replicate k holeV, X.Ok, X.w⟩ (G ++ List.replicate k .dead) ∧ Ext X ⟨X.ρ ++ List.replicate k holeV, X.Ok, X.w⟩ := by
  have hlen := H.len
  have old : ∀ n : Nat, n < G.length → (X.ρ ++ List.replicate k holeV)[n]? = X.ρ[n]? := fun n hn => List.getElem?_append_left (by omega)
  have E : Ext X ⟨X.ρ ++ List.replicate k holeV, X.Ok, X.w⟩ := ⟨fun n v h1 => by
    show (X.ρ ++ List.replicate k holeV)[n]? = some v
    rw [List.getElem?_append_left (List.getElem?_eq_some_iff.1 h1).1]; exact h1, fun _ h => h, fun _ _ => rfl⟩
  have key : ∀ n o, nth (G ++ List.replicate k .dead) n = some o → o.live = true → n < G.length ∧ nth G n = some o := by
    intro n o h hl
    rw [nth_eq] at h
    by_cases e : n < G.length
    · rw [List.getElem?_append_left e] at h
      exact ⟨e, by rw [nth_eq]; exact h⟩
    · rw [List.getElem?_append_right (by omega), List.getElem?_replicate] at h
      split at h
      · cases h; cases hl
      · cases h
  have blk : ∀ n : Nat, n < G.length → blkOf ⟨X.ρ ++ List.replicate k holeV, X.Ok, X.w⟩ n = blkOf X n := fun n hn => by simp only [blkOf, old n hn]
  refine ⟨⟨by simp [hlen], ?_, ?_, ?_, H.okLt, ?_, H.okOld, H.okNew, H.os, H.tape, H.out, H.size, H.fr⟩, E⟩
  · intro n o h
    cases hl : o.live with
    | false => cases o <;> first | trivial | cases hl
    | true =>
      obtain ⟨_, h2⟩ := key n o h hl
      exact RepO_mono E (fun _ _ _ => rfl) (H.obj n o h2)
  · intro n m o o' hn hm l1 l2 b b1 b2
    obtain ⟨n1, n2⟩ := key n o hn l1
    obtain ⟨m1, m2⟩ := key m o' hm l2
    rw [blk n n1] at b1
    rw [blk m m1] at b2
    exact H.inj n m o o' n2 m2 l1 l2 b b1 b2
  · intro n o hn l b hb
    obtain ⟨n1, n2⟩ := key n o hn l
    rw [blk n n1] at hb
    exact H.sep n o n2 l b hb
  · intro n o b hn l hb
    obtain ⟨n1, n2⟩ := key n o hn l
    rw [blk n n1] at hb
    exact H.ownNew n o b n2 l hb

end Go.Eng
