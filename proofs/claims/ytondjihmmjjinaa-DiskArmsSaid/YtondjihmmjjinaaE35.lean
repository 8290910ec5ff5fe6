/- The engine, part 35: maps.Clone. -/
import Derived.Test.YtondjihmmjjinaaE32
import Derived.Shelf.SlMaps.Clone
namespace Go.Eng
open Go
set_option linter.unusedVariables false
set_option linter.unusedSimpArgs false

def mclE (f : Nat) : CmE :=
  ⟨f, fun R args h K => match args with
    | [.mp n] => (match nth h n with
      | some (.map k v es) => K (.mp h.length) (h ++ [.map k v es])
      | _ => none)
    | _ => none, false⟩

/-- What is known of maps.Clone. -/
structure MclSpec (P : Program) (f : Nat) : Prop where
  callable : callable P f
  clone : ∀ (b : Nat) (es : Array MapEntry) (clock : Nat) (w : World), w.heap[b]? = some (.map es clock) →
    Calls P f #[.map (some b)] w fun e w' => e = .returned (.map (some w.heap.size)) ∧ w' = w.alloc (.map es clock)

theorem mclSpec_of {P : Program} {ρ : Shelf.Ren} (L : Proofs.SlLaysW.n5 P ρ) (hc : callable P (ρ.f 5)) : MclSpec P (ρ.f 5) where
  callable := hc
  clone := Proofs.AnyW.maps_Clone L

theorem mcl_ok {P : Program} {f : Nat} (S : MclSpec P f) : CmOk P (mclE f) := by
  constructor
  · intro R args h K r hk
    simp only [mclE] at hk
    split at hk
    · rename_i n
      split at hk
      · rename_i k v es hn
        refine ⟨S.callable, fun B X H vals hvals => ?_⟩
        match vals, hvals with
        | [mv], hvals =>
        obtain ⟨⟨mv', hm1, hm2, _⟩, _⟩ := hvals
        cases hm2
        obtain ⟨rr, ents, clock, o1, o2, o3, o4, o5, o6⟩ := H.obj n _ hn
        rw [hm1] at o1
        cases o1
        refine (S.clone rr ents clock X.w o2).mono ?_
        rintro e w' ⟨rfl, rfl⟩
        obtain ⟨H', E'⟩ := H.new (w' := X.w.alloc (.map ents clock)) (val := .map (some X.w.heap.size)) (o := .map k v es) rfl rfl rfl rfl
          (fun b hb => by simpa [Value.blk] using hb.symm) (fun E => ⟨X.w.heap.size, ents, clock, new_rep H.len _, by show (X.w.heap.push _)[X.w.heap.size]? = _; simp, o3, fun i e he => by
            obtain ⟨me, ck, cv, p1, p2, p3, p4, p5⟩ := o4 i e he
            exact ⟨me, ck, cv, p1, RepD_mono E.ok E.st _ _ _ p2, p3, RepD_mono E.ok E.st _ _ _ p4, p5⟩, o5, o6⟩)
        exact ⟨_, _, _, .mp h.length, rfl, E', H', rfl, ⟨_, new_rep H.len _, rfl, rfl⟩, hk⟩
      · cases hk
    · cases hk
  · intro R args h K
    simp only [mclE]
    split
    · split
      · rfl
      · rfl
    · rfl
  · intro h
    cases h

end Go.Eng
