/- The engine, part 13: one operation. -/
import Derived.Test.YtondjihmmjjinaaE12
namespace Go.Eng
open Go
set_option linter.unusedVariables false
set_option linter.unusedSimpArgs false

theorem ptr_val {X : HS} : ∀ {v : SV} {x : Value}, isPtr v = true → Rep X v .val [x] → (∃ ad, x = .pointer (some ad)) ∨ (∃ f us, x = .func (.func f) #[] us)
  | .box n p off, x, _, h => by obtain ⟨b, _, e⟩ := h; exact .inl ⟨_, by simpa using e⟩
  | .el n g i p off, x, _, h => by obtain ⟨b, o, len, cap, _, e⟩ := h; exact .inl ⟨_, by simpa using e⟩
  | .rd g y, x, _, h => by obtain ⟨ad, cs, _, e, _⟩ := h; exact .inl ⟨_, by simpa using e⟩
  | .fn f caps, x, _, h => by obtain ⟨us, _, e⟩ := h; exact .inr ⟨f, _, by simpa using e⟩
  | .dat _ _, _, hc, _ => by simp [isPtr] at hc
  | .nils, _, hc, _ => by simp [isPtr] at hc
  | .emp, _, hc, _ => by simp [isPtr] at hc
  | .nilp, _, hc, _ => by simp [isPtr] at hc
  | .nilm, _, hc, _ => by simp [isPtr] at hc
  | .nilfn, _, hc, _ => by simp [isPtr] at hc
  | .nsl _ _, _, hc, _ => by simp [isPtr] at hc
  | .own _, _, hc, _ => by simp [isPtr] at hc
  | .mp _, _, hc, _ => by simp [isPtr] at hc
  | .vw _ _ _ _, _, hc, _ => by simp [isPtr] at hc
  | .snil, _, hc, _ => by simp [isPtr] at hc
  | .scons _ _, _, hc, _ => by simp [isPtr] at hc
  | .agg _, _, hc, _ => by simp [isPtr] at hc
  | .tup _, _, hc, _ => by simp [isPtr] at hc

set_option maxHeartbeats 1000000 in
/-- What an operation's symbolic step says is what the model's operation does. -/
theorem op_sound0 {E : Env} (hE : EnvOk E) {R : Type} {o : Oper} {a : Act} {B : Base} {X : HS} {h : List SO} {un : Bool} {ev : Operand → Option SV} {evg : Nat → Bool → Operand → Option SV} {K : Kont R} {r : R}
    {next : Act → World → Prop} {Q : Exit → Act → World → Prop} (H : HRep B X h) (hev : ∀ x v, ev x = some v → Rep X v .val [a.eval x])
    (hevg : ∀ c t x v, evg c t x = some v → a.eval (.tmp c) = .bool t → Rep X v .val [a.eval x]) (hk : opK0 E o.op true un ev evg h K = some r)
    (hn : ∀ X' h' v val, Ext X X' → HRep B X' h' → Rep X' v .val [val] → K v h' = some r → next (a.put o.dst val) X'.w) : o.wp E.P a X.w next Q := by
  obtain ⟨dst, op, type, pos, aft, guard⟩ := o
  cases op <;> simp only [opK0] at hk <;> try (cases hk; done)
  case move x =>
    split at hk
    · rename_i v hv
      exact wp_of_out (s := pure (a.eval x)) rfl (Out.here H rfl (hev x v hv) hk) hn
    · cases hk
  case assign x =>
    split at hk
    · rename_i v hv
      exact wp_of_out (s := pure (a.eval x)) rfl (Out.here H rfl (hev x v hv) hk) hn
    · cases hk
  case pick c x y =>
    cases c <;> simp only [opK0] at hk <;> try (cases hk; done)
    rename_i c
    split at hk
    · rename_i t u v ht hu hv
      have hc := rep_bool (hev _ _ ht)
      refine wp_of_out (s := do pure (if ← asBool (a.eval (.tmp c)) then a.eval x else a.eval y)) (by simp [execOp]) (Out.here H (val := .bool (bif t then u else v)) ?_ bool_rep hk) hn
      rw [hc]
      cases t with
      | true =>
        have := rep_bool (hevg c true x _ hu hc)
        simp [asBool, this]
      | false =>
        have := rep_bool (hevg c false y _ hv hc)
        simp [asBool, this]
    · cases hk
  case alloc t =>
    split at hk
    · rename_i z hz
      obtain ⟨_, hk⟩ := bif_some hk
      exact wp_of_out (s := Instr.alloc t true (.tuple #[])) rfl (alloc_sound H hz hk) hn
    · cases hk
  case box t x =>
    split at hk
    · rename_i v hv
      obtain ⟨hc, hk⟩ := bif_some hk
      simp only [Bool.and_eq_true] at hc
      exact wp_of_out (s := Instr.box t (a.eval x)) rfl (box_sound H (hev x v hv) hc.2 hk) hn
    · cases hk
  case build t ps =>
    have e : execOp a.eval ⟨dst, .build t ps, type, pos, aft, guard⟩ = (do pure (.value (← Instr.build t (ps.map fun x => (x.1, a.eval x.2))))) := by simp only [execOp]
    exact wp_of_out e (buildK_sound H hev hk) hn
  case buildSlice t n ps =>
    have e : execOp a.eval ⟨dst, .buildSlice t n ps, type, pos, aft, guard⟩ = (do pure (.value (← Instr.buildSlice t n (ps.map fun x => (x.1, a.eval x.2))))) := by simp only [execOp]
    exact wp_of_out e (buildSliceK_sound H hev hk) hn
  case load t x =>
    split at hk
    · rename_i v hv
      exact wp_of_out (s := Instr.loadAt t (a.eval x)) rfl (loadK_sound H (hev x v hv) hk) hn
    · cases hk
  case store t x y =>
    split at hk
    · rename_i u v hu hv
      obtain ⟨_, hk⟩ := bif_some hk
      exact wp_of_outU (s := Instr.storeAt t (a.eval x) (a.eval y)) rfl (storeN_sound H (hev x u hu) (hev y v hv) hk) hn
    · cases hk
  case nilCheck x =>
    split at hk
    · rename_i v hv
      obtain ⟨hc, hk⟩ := bif_some hk
      have hr := hev x v hv
      refine wp_of_out (s := pure (a.eval x)) ?_ (Out.here H rfl hr hk) hn
      rcases ptr_val hc hr with ⟨ad, e⟩ | ⟨f, us, e⟩
      · simp [execOp, e]
      · simp [execOp, e]
    · cases hk
  case binOp op t x y t2 =>
    split at hk
    · rename_i u v hu hv
      exact wp_of_out (s := do eqGuard op t x y (a.eval x) (a.eval y); binOp op t (a.eval x) (a.eval y)) rfl (binK_sound H (hev x u hu) (hev y v hv) hk) hn
    · cases hk
  case unOp op t x =>
    split at hk
    · rename_i v hv
      exact wp_of_out (s := Op.unary op (a.eval x)) rfl (unK_sound H (hev x v hv) hk) hn
    · cases hk
  case convert s d x =>
    split at hk
    · rename_i v hv
      exact wp_of_out (s := convert s d (a.eval x)) rfl (convK_sound H (hev x v hv) hk) hn
    · cases hk
  case makeFunc fn first caps =>
    cases fn <;> simp only [opK0] at hk <;> try (cases hk; done)
    rename_i f
    split at hk
    · rename_i vs hvs
      obtain ⟨hc, hk⟩ := bif_some hk
      have hf : first = #[] := by
        simp only [Nat.beq_eq, List.length_eq_zero_iff] at hc
        exact Array.ext' hc
      subst hf
      refine wp_of_out (s := Instr.makeFunc (.func f) (#[].map a.eval) (caps.map a.eval)) rfl (Out.here (v := .fn f (SV.ofL vs)) (val := .func (.func f) #[] (caps.map a.eval)) H (by simp [Instr.makeFunc]) ?_ hk) hn
      have e : (caps.map a.eval) = (caps.toList.map a.eval).toArray := Array.ext' (by simp)
      exact ⟨_, ofL_vals (evs_rep hev _ _ hvs), by rw [e]⟩
    · cases hk
  case makeSlice t l c =>
    split at hk
    · rename_i u v hu hv
      exact wp_of_out (s := Instr.makeSlice t (a.eval l) (a.eval c)) rfl (makeSliceK_sound H (hev l u hu) (hev c v hv) hk) hn
    · cases hk
  case makeMap t res =>
    cases res with
    | none => exact wp_of_out (s := Instr.makeMap t none) rfl (makeMapK_sound H hk) hn
    | some _ => cases hk
  case lookup t x i co =>
    split at hk
    · rename_i u v hu hv
      exact wp_of_out (s := Instr.lookup t (a.eval x) (a.eval i) co) rfl (lookupK_sound H (hev x u hu) (hev i v hv) hk) hn
    · cases hk
  case mapUpdate t m x y =>
    split at hk
    · rename_i u v w hu hv hw
      obtain ⟨_, hk⟩ := bif_some hk
      exact wp_of_outU (s := Instr.mapUpdate t (a.eval m) (a.eval x) (a.eval y)) rfl (mapUpdateK_sound H (hev m u hu) (hev x v hv) (hev y w hw) hk) hn
    · cases hk
  case mapEntry t m x =>
    split at hk
    · rename_i u v hu hv
      exact wp_of_out (s := Instr.mapEntry t (a.eval m) (a.eval x)) rfl (mapEntryK_sound H (hev m u hu) (hev x v hv) hk) hn
    · cases hk
  case entryStore t m x y =>
    split at hk
    · rename_i u v w hu hv hw
      obtain ⟨_, hk⟩ := bif_some hk
      exact wp_of_outU (s := Instr.entryStore t (a.eval m) (a.eval x) (a.eval y)) rfl (entryStoreK_sound H (hev m u hu) (hev x v hv) (hev y w hw) hk) hn
    · cases hk
  case slice t x lo hi mx =>
    split at hk
    · rename_i v l u m hv hl hu hm
      cases hvw : vwB E x v with
      | true =>
        rw [hvw] at hk
        exact wp_of_out (s := Instr.sliceAt t (a.eval x) (lo.map a.eval) (hi.map a.eval) (mx.map a.eval)) rfl (viewK_sound H (hev x v hv) (evO_rep hev hl) (evO_rep hev hu) (evO_rep hev hm) hk) hn
      | false =>
      rw [hvw] at hk
      exact wp_of_out (s := Instr.sliceAt t (a.eval x) (lo.map a.eval) (hi.map a.eval) (mx.map a.eval)) rfl (sliceK_sound H (hev x v hv) (evO_rep hev hl) (evO_rep hev hu) (evO_rep hev hm) hk) hn
    · cases hk
  case fieldAddr t x f =>
    split at hk
    · rename_i v hv
      exact wp_of_out (s := Instr.fieldAt t (a.eval x) f) rfl (fieldAddrK_sound H (hev x v hv) hk) hn
    · cases hk
  case field t x f =>
    split at hk
    · rename_i v hv
      exact wp_of_out (s := Instr.field t (a.eval x) f) rfl (fieldK_sound H (hev x v hv) hk) hn
    · cases hk
  case indexAddr t x i =>
    split at hk
    · rename_i u v hu hv
      exact wp_of_out (s := Instr.indexAt t (a.eval x) (a.eval i)) rfl (indexAddrK_sound H (hev x u hu) (hev i v hv) hk) hn
    · cases hk
  case index t x i =>
    split at hk
    · rename_i u v hu hv
      exact wp_of_out (s := Instr.index t (a.eval x) (a.eval i)) rfl (indexK_sound H (hev x u hu) (hev i v hv) hk) hn
    · cases hk
  case extract x i =>
    split at hk
    · rename_i l hl
      split at hk
      · rename_i v hv
        obtain ⟨hc, hk⟩ := bif_some hk
        obtain ⟨us, h1, h2⟩ := hev x _ hl
        have h2 : a.eval x = .tuple us.toArray := by simpa using h2
        obtain ⟨w, k1, k2⟩ := nthS_vals l i v us hc h1 hv
        refine wp_of_out (s := Instr.extract (a.eval x) i) rfl (Out.here H (val := w) ?_ k2 hk) hn
        simp [Instr.extract, h2, k1]
      · cases hk
    · cases hk
  case call c => exact call_sound (evg := evg) hE H hev (by simp only [opK0]; exact hk) hn

theorem op_sound {E : Env} (hE : EnvOk E) {R : Type} {o : Oper} {a : Act} {B : Base} {X : HS} {h : List SO} {un : Bool} {ev : Operand → Option SV} {evg : Nat → Bool → Operand → Option SV} {K : Kont R} {r : R}
    {next : Act → World → Prop} {Q : Exit → Act → World → Prop} (H : HRep B X h) (hev : ∀ x v, ev x = some v → Rep X v .val [a.eval x])
    (hevg : ∀ c t x v, evg c t x = some v → a.eval (.tmp c) = .bool t → Rep X v .val [a.eval x]) (hk : opK E o true un ev evg h K = some r)
    (hn : ∀ X' h' v val, Ext X X' → HRep B X' h' → Rep X' v .val [val] → K v h' = some r → next (a.put o.dst val) X'.w) : o.wp E.P a X.w next Q := by
  unfold opK at hk
  cases hb : (un || Nat.ble (clsK E o.op ev) 1) with
  | true => rw [hb] at hk; exact op_sound0 hE H hev hevg hk hn
  | false => rw [hb] at hk; exact op_sound0 hE H hev hevg hk hn

end Go.Eng
