/- The engine, part 18c: operations that make an object. -/
import Derived.Test.YtondjihmmjjinaaE18B
namespace Go.Eng
open Go
set_option linter.unusedVariables false
set_option linter.unusedSimpArgs false

theorem cellsB_names : ∀ (v : SV) (acc cs : List Value), cellsB v acc = some cs → v.names = []
  | .dat g x, _, _, _ => rfl
  | .nils, _, _, _ => rfl
  | .emp, _, _, _ => rfl
  | .nilp, _, _, _ => rfl
  | .nilm, _, _, _ => rfl
  | .nilfn, _, _, _ => rfl
  | .nsl _ _, _, _, _ => rfl
  | .snil, _, _, _ => rfl
  | .rd _ _, _, _, _ => rfl
  | .scons a b, acc, cs, h => by
    simp only [cellsB] at h
    split at h
    · rename_i cs' h'
      simp only [SV.names, cellsB_names b acc cs' h', cellsB_names a cs' cs h, List.append_nil]
    · cases h
  | .agg l, acc, cs, h => by
    simp only [cellsB] at h
    simp only [SV.names, cellsB_names l acc cs h]
  | .box _ _ _, _, _, h => by simp [cellsB] at h
  | .el _ _ _ _ _, _, _, h => by simp [cellsB] at h
  | .own _, _, _, h => by simp [cellsB] at h
  | .mp _, _, _, h => by simp [cellsB] at h
  | .vw _ _ _ _, _, _, h => by simp [cellsB] at h
  | .fn _ _, _, _, h => by simp [cellsB] at h
  | .tup _, _, _, h => by simp [cellsB] at h

theorem zero_names {P : Program} {t : TypeId} {z : SV} (h : zero P t = some z) : z.names = [] := by
  unfold zero at h
  split at h
  · rename_i z' i _ _
    split at h
    · rename_i cs v hcs _
      obtain ⟨_, h⟩ := bif_some h
      cases h
      exact cellsB_names _ _ _ hcs
    · cases h
  · cases h

theorem coe_free {h h2 : List SO} : ∀ (v : SV) (g : GT), v.owns = [] → coe h v g = coe h2 v g
  | .dat _ _, g, _ => rfl
  | .nils, g, _ => by cases g <;> rfl
  | .emp, g, _ => by cases g <;> rfl
  | .nilp, g, _ => by cases g <;> rfl
  | .nilm, g, _ => by cases g <;> rfl
  | .nilfn, g, _ => by cases g <;> rfl
  | .nsl _ _, g, _ => by cases g <;> rfl
  | .snil, g, _ => by cases g <;> rfl
  | .rd _ _, g, _ => by cases g <;> rfl
  | .box _ _ _, g, _ => by cases g <;> rfl
  | .el _ _ _ _ _, g, _ => by cases g <;> rfl
  | .mp _, g, _ => by cases g <;> rfl
  | .vw _ _ _ _, g, h => by simp [SV.owns] at h
  | .fn _ _, g, _ => by cases g <;> rfl
  | .tup _, g, _ => by cases g <;> rfl
  | .own n, g, h => by simp [SV.owns] at h
  | .agg l, g, h => by
    simp only [coe]
    exact coe_free l g h
  | .scons a b, g, h => by
    simp only [SV.owns, List.append_eq_nil_iff] at h
    cases g <;> try rfl
    simp only [coe]
    rw [coe_free (h := _) (h2 := h2) a _ h.1, coe_free (h := _) (h2 := h2) b _ h.2]

theorem coeAll_free {h h2 : List SO} {g : GT} : ∀ (vs : List SV), ownsAll vs = [] → coeAll h g vs = coeAll h2 g vs
  | [], _ => rfl
  | v :: l, h => by
    simp only [ownsAll, List.append_eq_nil_iff] at h
    simp only [coeAll]
    rw [coe_free (h2 := h2) v g h.1, coeAll_free (h2 := h2) l h.2]

/-- A step that makes one object, or none. -/
def Makes (ev : Operand → Option SV) (step : List SO → Option (SV × List SO)) (h h' : List SO) (v : SV) : Prop :=
  (h' = h ∧ ∀ h2, step h2 = some (v, h2)) ∨
  ∃ (obj : SO) (mk : Nat → SV), (mk = (fun n => .box n [] 0) ∨ mk = .own ∨ mk = .mp) ∧ v = mk h.length ∧ h' = h ++ [obj] ∧ (∀ n ∈ obj.names, ∃ x u, ev x = some u ∧ n ∈ u.names) ∧ ∀ h2, step h2 = some (mk h2.length, h2 ++ [obj])

theorem opK0_new {E : Env} (hE : EnvOk E) {o : Op} {gc un : Bool} {ev : Operand → Option SV} {evg : Nat → Bool → Operand → Option SV} {h h' : List SO} {v : SV} (hc : clsK E o ev = 2)
    (hk : opK0 E o gc un ev evg h pair = some (v, h')) : Makes ev (fun h2 => opK0 E o gc un ev evg h2 pair) h h' v := by
  cases o <;> simp only [clsK] at hc <;> try (cases hc; done)
  case alloc t =>
    simp only [opK0] at hk
    split at hk
    · rename_i z hz
      obtain ⟨hu, hk⟩ := bif_some hk
      obtain ⟨rfl, rfl⟩ := pinj hk
      refine .inr ⟨.box z, fun n => .box n [] 0, .inl rfl, rfl, rfl, fun n hn => ?_, fun h2 => ?_⟩
      · rw [SO.names, zero_names hz] at hn; simp at hn
      · simp only [opK0, hz, hu]; rfl
    · cases hk
  case box t x =>
    simp only [opK0] at hk
    split at hk
    · rename_i u hx
      obtain ⟨hu, hk⟩ := bif_some hk
      obtain ⟨rfl, rfl⟩ := pinj hk
      refine .inr ⟨.box u, fun n => .box n [] 0, .inl rfl, rfl, rfl, fun n hn => ⟨x, u, hx, hn⟩, fun h2 => ?_⟩
      simp only [opK0, hx, hu]; rfl
    · cases hk
  case buildSlice t n ps =>
    cases hn0 : Nat.beq n 0 with
    | true => simp [hn0] at hc
    | false =>
    rw [hn0] at hc
    simp only [cond_false] at hc
    simp only [opK0, buildSliceK, hn0, cond_false] at hk
    split at hk
    · rename_i e he
      split at hk
      · rename_i g vs hg hvs
        rw [hvs] at hc
        obtain ⟨hu, hk⟩ := bif_some hk
        split at hk
        · rename_i xs hxs
          have h0 : ownsAll vs = [] := by
            cases hb : Nat.beq (ownsAll vs).length 0 with
            | true => simpa using hb
            | false => simp [hb] at hc
          rw [h0] at hk
          obtain ⟨rfl, rfl⟩ := pinj hk
          refine .inr ⟨.arr g xs, .own, .inr (.inl rfl), rfl, rfl, fun n hn => by simp [SO.names] at hn, fun h2 => ?_⟩
          simp only [opK0, buildSliceK, hn0, cond_false, he, hg, hvs, hu, cond_true]
          rw [coeAll_free (h2 := h) vs h0, hxs, h0]
          rfl
        · cases hk
      · cases hk
    · cases hk
  case load t x =>
    cases hx : ev x with
    | none => simp [opK0, hx] at hk
    | some p => rw [hx] at hc; cases p <;> simp at hc
  case convert s d x =>
    simp only [opK0] at hk
    split at hk
    · rename_i p hp
      have hk0 := hk
      unfold convK at hk
      split at hk
      · rename_i h1 h2 
        obtain ⟨rfl, rfl⟩ := pinj hk
        refine .inl ⟨rfl, fun h2' => ?_⟩
        simp only [opK0, hp, convK, h1, h2]; rfl
      · rename_i h1 h2
        obtain ⟨rfl, rfl⟩ := pinj hk
        refine .inl ⟨rfl, fun h2' => ?_⟩
        simp only [opK0, hp, convK, h1, h2]; rfl
      · rename_i e l h1 h2
        split at hk
        · rename_i hu8
          obtain ⟨hu, hk⟩ := bif_some hk
          obtain ⟨rfl, rfl⟩ := pinj hk
          refine .inr ⟨_, .own, .inr (.inl rfl), rfl, rfl, fun n hn => by simp [SO.names] at hn, fun h2' => ?_⟩
          simp only [opK0, hp, convK, h1, h2, hu8, hu]; rfl
        · cases hk
      · rename_i h1 h2
        rw [hp] at hc
        have key : ∀ q : SV, (match some q with | some (.dat (.int _) _) => 0 | some (.dat .str _) => 2 | some (.dat _ _) => 0 | _ => 1) = (2 : Nat) → ∃ y, q = .dat .str y := by
          intro q hq
          cases q <;> try (cases hq; done)
          rename_i g y
          cases g <;> try (cases hq; done)
          exact ⟨y, rfl⟩
        obtain ⟨y, rfl⟩ := key _ hc
        have hl : listV h (.dat .str y) (.int .u8) = none := rfl
        split at hk
        · rw [hl] at hk
          cases hk
        · cases hk
      · cases hk
    · cases hk
  case makeSlice t l c =>
    simp only [opK0] at hk
    split at hk
    · rename_i u w hl hc'
      unfold makeSliceK at hk
      split at hk
      · rename_i e l c he
        split at hk
        · rename_i g hg
          obtain ⟨hu, hk⟩ := bif_some hk
          unfold asrt at hk
          obtain ⟨ha, hk⟩ := bif_some hk
          obtain ⟨rfl, rfl⟩ := pinj hk
          refine .inr ⟨_, .own, .inr (.inl rfl), rfl, rfl, fun n hn => by simp [SO.names] at hn, fun h2 => ?_⟩
          simp only [opK0, hl, hc', makeSliceK, he, hg, hu, asrt, ha]; rfl
        · cases hk
      · cases hk
    · cases hk
  case makeMap t res =>
    cases res with
    | none =>
      simp only [opK0] at hk
      unfold makeMapK at hk
      split at hk
      · rename_i kt vt ht
        split at hk
        · rename_i k v hkt hvt
          obtain ⟨hu, hk⟩ := bif_some hk
          obtain ⟨rfl, rfl⟩ := pinj hk
          refine .inr ⟨_, .mp, .inr (.inr rfl), rfl, rfl, fun n hn => by simp [SO.names] at hn, fun h2 => ?_⟩
          simp only [opK0, makeMapK, ht, hkt, hvt, hu]; rfl
        · cases hk
      · cases hk
    | some _ => simp only [opK0] at hk; cases hk
  case slice t x lo hi mx =>
    have : ∀ d c : Bool, ¬ ((bif d then 1 else bif c then 0 else 3) = (2 : Nat)) := by intro d c; cases d <;> cases c <;> simp
    exact absurd hc (this _ _)
  case indexAddr t x i =>
    cases hx : ev x with
    | none => simp [opK0, hx] at hk
    | some p => rw [hx] at hc; cases p <;> simp at hc
  case call c =>
    obtain ⟨callee, args, tys⟩ := c
    cases callee with
    | invoke _ _ => simp at hc
    | value f =>
      simp only at hc
      simp only [opK0] at hk
      split at hc
      · rename_i f' caps vs hf hvs
        cases hp : E.isPm f' with
        | true => simp [hp] at hc
        | false =>
          simp only [hp, cond_false] at hc
          have hcc : E.isO f' = true ∧ ownsAll (vs ++ caps.toL) = [] := by
            cases ho : E.isO f' <;> cases hn : Nat.beq (ownsAll (vs ++ caps.toL)).length 0 <;> simp [ho, hn] at hc
            exact ⟨rfl, by simpa using hn⟩
          simp only [hf, hvs] at hk
          obtain ⟨c1, hk⟩ := bif_some hk
          unfold callK at hk
          rw [hp] at hk
          simp only [cond_false] at hk
          obtain ⟨c2, hk⟩ := bif_some hk
          obtain ⟨t, ys, e1, e2, e3⟩ := locK_new hE hcc.1 hcc.2 hk
          refine .inr ⟨.arr t ys, .own, .inr (.inl rfl), e1, e2, fun n hn => by simp [SO.names] at hn, fun h2 => ?_⟩
          simp only [opK0, hf, hvs, c1, cond_true, callK, hp, cond_false, c2]
          exact e3 h2
      · cases hc
    | builtin b =>
      cases b <;> simp only at hc <;> try (cases hc; done)
      case append =>
        split at hc
        · rename_i s x hsx
          simp only [opK0, hsx] at hk
          have hcc : emptyS s = true ∧ x.owns = [] := by
            cases he : emptyS s <;> cases hn : Nat.beq x.owns.length 0 <;> simp [he, hn] at hc
            exact ⟨rfl, by simpa using hn⟩
          have hl : ∀ (g : GT) (h2 : List SO), listV h2 x g = listV h x g := by
            intro g h2
            have h0 := hcc.2
            cases x <;> try rfl
            case dat g' y => cases g' <;> rfl
            case own n => simp [SV.owns] at h0
            case vw n g lo len => simp [SV.owns] at h0
          simp only [builtinK] at hk
          unfold appendK at hk
          split at hk
          · rename_i t u hts
            split at hk
            · rename_i e e' ht hu
              split at hk
              · rename_i g hg
                obtain ⟨c1, hk⟩ := bif_some hk
                split at hk
                · rename_i ys hys
                  split at hk
                  · unfold asrt at hk
                    obtain ⟨c2, hk⟩ := bif_some hk
                    obtain ⟨rfl, rfl⟩ := pinj hk
                    refine .inr ⟨.arr g ys, .own, .inr (.inl rfl), rfl, rfl, fun n hn => by simp [SO.names] at hn, fun h2 => ?_⟩
                    simp only [opK0, hsx, builtinK, hts, appendK, ht, hu, hg, c1, cond_true, hl, hys, asrt, c2]
                    rfl
                  · unfold asrt at hk
                    obtain ⟨c2, hk⟩ := bif_some hk
                    obtain ⟨rfl, rfl⟩ := pinj hk
                    refine .inr ⟨.arr g ys, .own, .inr (.inl rfl), rfl, rfl, fun n hn => by simp [SO.names] at hn, fun h2 => ?_⟩
                    simp only [opK0, hsx, builtinK, hts, appendK, ht, hu, hg, c1, cond_true, hl, hys, asrt, c2]
                    rfl
                  · simp [emptyS] at hcc
                  · cases hk
                · cases hk
              · cases hk
            · cases hk
          · cases hk
        · cases hc
      exfalso
      split at hc
      · rename_i x hx
        cases hv : ev x with
        | none => rw [hv] at hc; simp at hc
        | some p => rw [hv] at hc; cases p <;> simp at hc
      · cases hc

theorem opK_new {E : Env} (hE : EnvOk E) {o : Oper} {gc un : Bool} {ev : Operand → Option SV} {evg : Nat → Bool → Operand → Option SV} {h h' : List SO} {v : SV} (hc : clsK E o.op ev = 2)
    (hk : opK E o gc un ev evg h pair = some (v, h')) : Makes ev (fun h2 => opK E o gc un ev evg h2 pair) h h' v := by
  unfold opK at hk ⊢
  cases hb : (un || Nat.ble (clsK E o.op ev) 1) with
  | true => rw [hb] at hk; simp only [cond_true]; exact opK0_new hE hc hk
  | false =>
    rw [hb] at hk
    cases gc with
    | true => simp only [cond_true, cond_false]; exact opK0_new hE hc hk
    | false =>
      simp only [cond_false] at hk ⊢
      obtain ⟨rfl, rfl⟩ := pinj hk
      exact .inl ⟨rfl, fun _ => rfl⟩

end Go.Eng
