/- The engine, part 23: a function's run is a call. -/
import Derived.Test.YtondjihmmjjinaaE22
import Derived.Laws.Sem
namespace Go.Eng
open Go
set_option linter.unusedVariables false
set_option linter.unusedSimpArgs false

theorem mapM_run {P : Program} {α β : Type} (f : α → Sem β) (g : α → β) (w : World) : ∀ (l : List α), (∀ a ∈ l, (f a).run P w = .ok (g a) w) → (l.mapM f).run P w = .ok (l.map g) w
  | [], _ => by simp
  | a :: l, hf => by
    have ih := mapM_run f g w l (fun b hb => hf b (by simp [hb]))
    rw [List.mapM_cons]
    simp only [Sem.run_bind, hf a (by simp), Result.andThen_ok, ih, Sem.run_pure, List.map_cons]

/-- A result variable's value. -/
def rvRun (tmps : Array Value) : ResultVar → Sem Value
  | .tmp t => pure (tmps.getD t undef)
  | .cell a t => do loadVar t (← asAddr (tmps.getD a undef))

theorem results_run {P : Program} {fn : Func} {tmps : Array Value} {w : World} (val : ResultVar → Value) (h : ∀ rv ∈ fn.results.toList, (rvRun tmps rv).run P w = .ok (val rv) w) :
    (results fn tmps).run P w = .ok (if (fn.results.toList.map val).length = 1 then (fn.results.toList.map val).headD undef else .tuple (fn.results.toList.map val).toArray) w := by
  unfold results
  rw [Array.mapM_eq_mapM_toList]
  simp only [map_eq_pure_bind, Sem.run_bind]
  rw [mapM_run (P := P) _ val w fn.results.toList ?_]
  · simp only [Result.andThen_ok, Sem.run_pure]
    congr 1
    match hl : fn.results.toList.map val with
    | [] =>
      have h0 : fn.results.size = 0 := by have := congrArg List.length hl; simpa using this
      simp [h0]
    | [v] =>
      have h0 : fn.results.size = 1 := by have := congrArg List.length hl; simpa using this
      simp [h0]
    | v :: u :: l =>
      have h0 : fn.results.size = l.length + 2 := by have := congrArg List.length hl; simpa using this
      simp [h0]
  · intro a ha
    have := h a ha
    cases a with
    | tmp t => exact this
    | cell a t => exact this

/-- The results, one by one. -/
theorem resVs_rep {P : Program} {B : Base} {X : HS} {s : St} {a : Act} (H : HRep B X s.heap) (hR : RegsC X a s.regs) : ∀ (rs : List ResultVar) (vs : List SV), resVs P s rs = some vs →
    ∃ val : ResultVar → Value, RepL X vs (rs.map val) ∧ ∀ rv ∈ rs, (rvRun a.tmps rv).run P X.w = .ok (val rv) X.w := by
  have one : ∀ (rv : ResultVar), ∃ val, ∀ v, resV P s rv = some v → Rep X v .val [val] ∧ (rvRun a.tmps rv).run P X.w = .ok val X.w := by
    intro rv
    cases hv : resV P s rv with
    | none => exact ⟨undef, fun v h => by cases h⟩
    | some v =>
      cases rv with
      | tmp t => exact ⟨a.tmps.getD t undef, fun u h => by cases h; exact ⟨hR t v hv, rfl⟩⟩
      | cell c t =>
        simp only [resV] at hv
        split at hv
        · rename_i p hp
          obtain ⟨u, val, e1, e2, e3⟩ := loadK_sees H (hR c p hp) hv
          refine ⟨val, fun u' h => ?_⟩
          cases h
          cases e3
          refine ⟨e2, ?_⟩
          have hpt : ∃ ad, a.tmps.getD c undef = .pointer (some ad) := by
            have hr := hR c p hp
            unfold loadK at hv
            split at hv
            · obtain ⟨ad, cs, _, h2, _⟩ := hr; exact ⟨ad, by simpa using h2⟩
            · obtain ⟨b, _, h2⟩ := hr; exact ⟨_, by simpa using h2⟩
            · obtain ⟨b, o, len, cap, _, h2⟩ := hr; exact ⟨_, by simpa using h2⟩
            · cases hv
          obtain ⟨ad, had⟩ := hpt
          rw [had] at e1
          simp only [rvRun, had, asAddr]
          simpa [Instr.loadAt, Instr.sureAddr] using e1
        · cases hv
  obtain ⟨val, hval⟩ := Classical.axiomOfChoice one
  intro rs
  induction rs with
  | nil => intro vs h; simp only [resVs, Option.some.injEq] at h; subst h; exact ⟨val, trivial, by simp⟩
  | cons r l ih =>
    intro vs h
    have key : ∀ (l : List ResultVar) (vs : List SV), resVs P s l = some vs → RepL X vs (l.map val) ∧ ∀ rv ∈ l, (rvRun a.tmps rv).run P X.w = .ok (val rv) X.w := by
      intro l
      induction l with
      | nil => intro vs h; simp only [resVs, Option.some.injEq] at h; subst h; exact ⟨trivial, by simp⟩
      | cons r l ih =>
        intro vs h
        simp only [resVs] at h
        split at h
        · rename_i v hv
          split at h
          · rename_i us hus
            simp only [Option.some.injEq] at h
            subst h
            obtain ⟨h1, h2⟩ := ih us hus
            obtain ⟨k1, k2⟩ := hval r v hv
            refine ⟨⟨k1, h1⟩, fun rv hm => ?_⟩
            rcases List.mem_cons.1 hm with rfl | hm
            · exact k2
            · exact h2 rv hm
          · cases h
        · cases h
    exact ⟨val, key (r :: l) vs h⟩

theorem initR_lk {t : Nat} {v : SV} : ∀ (l : List SV) (n : Nat), lk (initR l n) t = some v → ∃ i, t = n + i ∧ l[i]? = some v
  | [], n, h => by simp [initR, lk] at h
  | u :: l, n, h => by
    simp only [initR, lk] at h
    cases hb : Nat.beq n t with
    | true =>
      rw [hb] at h
      simp only [cond_true, Option.some.injEq] at h
      subst h
      exact ⟨0, by simpa using (Nat.eq_of_beq_eq_true hb).symm, rfl⟩
    | false =>
      rw [hb] at h
      obtain ⟨i, h1, h2⟩ := initR_lk l (n + 1) h
      exact ⟨i + 1, by omega, by simpa using h2⟩

theorem RepL_at {X : HS} : ∀ {vs : List SV} {xs : List Value} {i : Nat} {v : SV}, RepL X vs xs → vs[i]? = some v → ∃ x, xs[i]? = some x ∧ Rep X v .val [x]
  | v :: vs, x :: xs, 0, u, h, hi => by
    simp only [List.getElem?_cons_zero, Option.some.injEq] at hi
    subst hi
    exact ⟨x, rfl, h.1⟩
  | v :: vs, x :: xs, i + 1, u, h, hi => by
    obtain ⟨y, h1, h2⟩ := RepL_at h.2 (i := i) (by simpa using hi)
    exact ⟨y, by simpa using h1, h2⟩
  | [], _, i, u, h, hi => by simp at hi
  | _ :: _, [], i, u, h, hi => h.elim

/-- A function's run, sound. -/
theorem execF_sound {E : Env} (hE : EnvOk E) (hm : E.P.follows .mixedOrders = true) {R : Type} {C : Cfg} {f : Nat} {fn : Func} {h : List SO} (hlm : ∀ c, fn.body = some c → LmOk E C fn.ntmps c) (hf : E.P.funcs[f]? = some fn) {args : List SV} {k : Kont R} {r : R}
    (hk : execF E C fn args h k = some r) {B : Base} {X : HS} (H : HRep B X h) {vals : List Value} (ha : RepL X args vals) :
    Calls E.P f vals.toArray X.w fun e w' => ∃ val X' h' v, X'.w = w' ∧ Ext X X' ∧ HRep B X' h' ∧ e = .returned val ∧ Rep X' v .val [val] ∧ k v h' = some r := by
  unfold execF at hk
  split at hk
  · rename_i c hc
    obtain ⟨hle, hk⟩ := bif_some hk
    have hle : args.length ≤ fn.ntmps := Nat.le_of_ble_eq_true hle
    have hlen := RepL_len ha
    refine calls_of_wp hf hc ?_
    refine execC_sound hE hm c _ ⟨initR args 0, h⟩ _ X _ (hlm c hc) ?_ hk ?_ (B := B)
    · refine ⟨?_, H, by simp; omega, rfl⟩
      intro t v hl
      obtain ⟨i, h1, h2⟩ := initR_lk args 0 hl
      obtain ⟨x, h3, h4⟩ := RepL_at ha h2
      rw [Nat.zero_add] at h1
      subst h1
      have : (vals.toArray ++ Array.replicate (fn.ntmps - vals.toArray.size) undef).getD t undef = x := by
        have ht : t < vals.length := (List.getElem?_eq_some_iff.1 h3).1
        rw [Array.getD_eq_getD_getElem?, Array.getElem?_append_left (by simpa using ht)]
        simp [h3]
      simp only at this ⊢
      rw [this]
      exact h4
    · intro e s' a' X' hs' hxn hk'
      have hx : Ext X X' := ExtN.all (by rw [H.len]; exact hxn)
      have fin : resK E.P fn.results.toList s' k = some r → bodyPost E.P fn (fun e w' => ∃ val X' h' v, X'.w = w' ∧ Ext X X' ∧ HRep B X' h' ∧ e = .returned val ∧ Rep X' v .val [val] ∧ k v h' = some r) .ret a' X'.w := by
        intro hr
        refine ⟨hs'.defers, ?_⟩
        unfold resK at hr
        split at hr
        · rename_i v hv
          obtain ⟨rval, h1, h2⟩ := resVs_rep hs'.heap hs'.regs _ _ hv
          refine ⟨_, results_run rval h2, _, X', s'.heap, v, rfl, hx, hs'.heap, rfl, ?_, hr⟩
          match hl : fn.results.toList.map rval with
          | [y] => rw [hl] at h1; exact h1.1
          | [] => rw [hl] at h1; exact h1.elim
          | _ :: _ :: _ => rw [hl] at h1; exact h1.2.elim
        · rename_i vs hne hv
          obtain ⟨rval, h1, h2⟩ := resVs_rep hs'.heap hs'.regs _ _ hv
          refine ⟨_, results_run rval h2, _, X', s'.heap, _, rfl, hx, hs'.heap, rfl, ?_, hr⟩
          have hl := RepL_len h1
          rw [if_neg (fun e => by
            rw [e] at hl
            match vs, hl with
            | [v], _ => exact hne v rfl)]
          exact ⟨_, ofL_vals h1, rfl⟩
        · cases hr
      cases e with
      | normal => exact fin hk'
      | exit id => cases hk'
      | ret => exact fin hk'
  · cases hk

end Go.Eng
