/- The engine, part 12: one operation. -/
import Derived.Test.YtondjihmmjjinaaE4B
import Derived.Test.YtondjihmmjjinaaE11C
namespace Go.Eng
open Go
set_option linter.unusedVariables false
set_option linter.unusedSimpArgs false

def RepL (X : HS) : List SV → List Value → Prop
  | [], [] => True
  | v :: vs, x :: xs => Rep X v .val [x] ∧ RepL X vs xs
  | _, _ => False

theorem RepL_mono {X Y : HS} (hx : Ext X Y) : ∀ {vs : List SV} {xs : List Value}, RepL X vs xs → RepL Y vs xs
  | [], [], _ => trivial
  | v :: vs, x :: xs, h => ⟨Rep_mono hx v .val _ h.1, RepL_mono hx h.2⟩
  | [], _ :: _, h => h.elim
  | _ :: _, [], h => h.elim

theorem RepL_append {X : HS} : ∀ {vs us : List SV} {xs ys : List Value}, RepL X vs xs → RepL X us ys → RepL X (vs ++ us) (xs ++ ys)
  | [], us, [], ys, _, h => h
  | v :: vs, us, x :: xs, ys, h, k => ⟨h.1, RepL_append h.2 k⟩
  | [], _, _ :: _, _, h, _ => h.elim
  | _ :: _, _, [], _, h, _ => h.elim

theorem RepL_len {X : HS} : ∀ {vs : List SV} {xs : List Value}, RepL X vs xs → vs.length = xs.length
  | [], [], _ => rfl
  | v :: vs, x :: xs, h => by simp [RepL_len h.2]
  | [], _ :: _, h => h.elim
  | _ :: _, [], h => h.elim

theorem vals_toL {X : HS} : ∀ (l : SV) (us : List Value), l.chain = true → Rep X l .vals us → RepL X l.toL us
  | .snil, us, _, h => by simp only [Rep] at h; subst h; trivial
  | .scons a b, us, hc, h => by
    obtain ⟨v, c2, rfl, h1, h2⟩ := h
    exact ⟨h1, vals_toL b c2 hc h2⟩
  | .dat _ _, us, hc, _ => by simp [SV.chain] at hc
  | .nils, us, hc, _ => by simp [SV.chain] at hc
  | .emp, us, hc, _ => by simp [SV.chain] at hc
  | .nilp, us, hc, _ => by simp [SV.chain] at hc
  | .nilm, us, hc, _ => by simp [SV.chain] at hc
  | .nilfn, us, hc, _ => by simp [SV.chain] at hc
  | .nsl _ _, us, hc, _ => by simp [SV.chain] at hc
  | .box _ _ _, us, hc, _ => by simp [SV.chain] at hc
  | .el _ _ _ _ _, us, hc, _ => by simp [SV.chain] at hc
  | .rd _ _, us, hc, _ => by simp [SV.chain] at hc
  | .own _, us, hc, _ => by simp [SV.chain] at hc
  | .mp _, us, hc, _ => by simp [SV.chain] at hc
  | .vw _ _ _ _, us, hc, _ => by simp [SV.chain] at hc
  | .fn _ _, us, hc, _ => by simp [SV.chain] at hc
  | .agg _, us, hc, _ => by simp [SV.chain] at hc
  | .tup _, us, hc, _ => by simp [SV.chain] at hc

theorem ofL_vals {X : HS} : ∀ {vs : List SV} {xs : List Value}, RepL X vs xs → Rep X (SV.ofL vs) .vals xs
  | [], [], _ => rfl
  | v :: vs, x :: xs, h => ⟨x, xs, rfl, h.1, ofL_vals h.2⟩
  | [], _ :: _, h => h.elim
  | _ :: _, [], h => h.elim

theorem nthS_vals {X : HS} : ∀ (l : SV) (i : Nat) (u : SV) (us : List Value), l.chain = true → Rep X l .vals us → nthS l i = some u → ∃ v, us[i]? = some v ∧ Rep X u .val [v]
  | .scons a b, 0, u, us, _, h, hn => by
    simp only [nthS, Option.some.injEq] at hn
    subst hn
    obtain ⟨v, c2, rfl, h1, h2⟩ := h
    exact ⟨v, rfl, h1⟩
  | .scons a b, n + 1, u, us, hc, h, hn => by
    simp only [nthS] at hn
    obtain ⟨v, c2, rfl, h1, h2⟩ := h
    obtain ⟨w, k1, k2⟩ := nthS_vals b n u c2 hc h2 hn
    exact ⟨w, by simpa using k1, k2⟩
  | .dat _ _, i, u, us, hc, _, hn => by simp [nthS] at hn
  | .nils, i, u, us, hc, _, hn => by simp [nthS] at hn
  | .emp, i, u, us, hc, _, hn => by simp [nthS] at hn
  | .nilp, i, u, us, hc, _, hn => by simp [nthS] at hn
  | .nilm, i, u, us, hc, _, hn => by simp [nthS] at hn
  | .nilfn, i, u, us, hc, _, hn => by simp [nthS] at hn
  | .nsl _ _, i, u, us, hc, _, hn => by simp [nthS] at hn
  | .box _ _ _, i, u, us, hc, _, hn => by simp [nthS] at hn
  | .el _ _ _ _ _, i, u, us, hc, _, hn => by simp [nthS] at hn
  | .rd _ _, i, u, us, hc, _, hn => by simp [nthS] at hn
  | .own _, i, u, us, hc, _, hn => by simp [nthS] at hn
  | .mp _, i, u, us, hc, _, hn => by simp [nthS] at hn
  | .vw _ _ _ _, i, u, us, hc, _, hn => by simp [nthS] at hn
  | .fn _ _, i, u, us, hc, _, hn => by simp [nthS] at hn
  | .snil, i, u, us, hc, _, hn => by simp [nthS] at hn
  | .agg _, i, u, us, hc, _, hn => by simp [nthS] at hn
  | .tup _, i, u, us, hc, _, hn => by simp [nthS] at hn

/-- A Go function with a body, of which the model makes a call. -/
def callable (P : Program) (f : Nat) : Prop := ∃ fn, P.funcs[f]? = some fn ∧ fn.body.isSome = true ∧ (fn.name == "runtime.NumGoroutine") = false

structure EnvOk (E : Env) : Prop where
  pm : ∀ f args h res x, E.isPm f = true → E.pm f args h = some res → res.m = some x → callable E.P f ∧
    ∀ B X, HRep B X h → ∀ vals, RepL X args vals → Calls E.P f vals.toArray X.w fun e w' => ∃ val X', X'.w = w' ∧ Ext X X' ∧ HRep B X' h ∧ e = .returned val ∧ Rep X' (toRes res.many res.g x) .val [val]
  cm : ∀ R f args h (K : Kont R) r, E.cm R f args h K = some r → callable E.P f ∧
    ∀ B X, HRep B X h → ∀ vals, RepL X args vals → Calls E.P f vals.toArray X.w fun e w' => ∃ val X' h' v, X'.w = w' ∧ Ext X X' ∧ HRep B X' h' ∧ e = .returned val ∧ Rep X' v .val [val] ∧ K v h' = some r
  mono : ∀ f args h res l, E.isPm f = true → E.pm f args h = some res → E.pm f args (h ++ l) = some res
  nat : ∀ R f args h (K : Kont R), E.cm R f args h K = (E.cm (SV × List SO) f args h fun v h' => some (v, h')).bind fun p => K p.1 p.2
  ono : ∀ f args h v h', E.isO f = true → ownsAll args = [] → E.cm (SV × List SO) f args h (fun v h' => some (v, h')) = some (v, h') →
    ∃ (t : GT) (ys : List t.ty), v = .own h.length ∧ h' = h ++ [.arr t ys] ∧ ∀ h2, E.cm (SV × List SO) f args h2 (fun v h' => some (v, h')) = some (.own h2.length, h2 ++ [.arr t ys])
  gcm : ∀ R p f args h (K : Kont R) r, E.gcm R p f args h K = some r → callable E.P f ∧
    ∀ B X, HRep B X h → ∀ vals, RepL X args vals → Calls E.P f vals.toArray X.w fun e w' => ∃ val X' h' v, X'.w = w' ∧ Ext X X' ∧ HRep B X' h' ∧ e = .returned val ∧ Rep X' v .val [val] ∧ K v h' = some r
  gnat : ∀ R p f args h (K : Kont R), E.gcm R p f args h K = (E.gcm (SV × List SO) p f args h fun v h' => some (v, h')).bind fun q => K q.1 q.2

section
variable {P : Program} {R : Type} {o : Oper} {a : Act} {B : Base} {X : HS} {K : Kont R} {r : R} {next : Act → World → Prop} {Q : Exit → Act → World → Prop}

theorem wp_of_out {s : Sem Value} (hx : execOp a.eval o = (do pure (.value (← s)))) (h : Out B X K r (s.run P X.w))
    (hn : ∀ X' h' v val, Ext X X' → HRep B X' h' → Rep X' v .val [val] → K v h' = some r → next (a.put o.dst val) X'.w) : o.wp P a X.w next Q := by
  obtain ⟨X', h', v, val, h1, h2, h3, h4, h5⟩ := h
  unfold Oper.wp
  rw [hx]
  simp only [Sem.run_bind, h1, Result.andThen_ok, Sem.run_pure, Oper.upon]
  exact hn X' h' v val h2 h3 h4 h5

theorem wp_of_outU {s : Sem Unit} (hx : execOp a.eval o = (do s; pure .skip)) (h : OutU B X K r (s.run P X.w))
    (hn : ∀ X' h' v val, Ext X X' → HRep B X' h' → Rep X' v .val [val] → K v h' = some r → next (a.put o.dst val) X'.w) : o.wp P a X.w next Q := by
  obtain ⟨X', h', h1, h2, h3, h5⟩ := h
  unfold Oper.wp
  rw [hx]
  simp only [Sem.run_bind, h1, Result.andThen_ok, Sem.run_pure, Oper.upon]
  exact hn X' h' unitV undef h2 h3 ⟨[], rfl, rfl⟩ h5

end

theorem evs_rep {X : HS} {ev : Operand → Option SV} {σ : Operand → Value} (hev : ∀ x v, ev x = some v → Rep X v .val [σ x]) : ∀ (l : List Operand) (vs : List SV), evs ev l = some vs → RepL X vs (l.map σ)
  | [], vs, h => by simp only [evs, Option.some.injEq] at h; subst h; trivial
  | x :: l, vs, h => by
    simp only [evs] at h
    split at h
    · rename_i v hv
      split at h
      · rename_i us hus
        simp only [Option.some.injEq] at h
        subst h
        exact ⟨hev x v hv, evs_rep hev l us hus⟩
      · cases h
    · cases h

theorem evO_rep {X : HS} {ev : Operand → Option SV} {σ : Operand → Value} (hev : ∀ x v, ev x = some v → Rep X v .val [σ x]) {x : Option Operand} {v : Option SV} (h : evO ev x = some v) : RepOpt X v (x.map σ) := by
  cases x with
  | none => simp only [evO, Option.some.injEq] at h; subst h; trivial
  | some x =>
    simp only [evO] at h
    split at h
    · rename_i u hu
      simp only [Option.some.injEq] at h
      subst h
      exact hev x u hu
    · cases h

theorem ofL_chain : ∀ vs : List SV, (SV.ofL vs).chain = true
  | [] => rfl
  | _ :: vs => ofL_chain vs

set_option maxHeartbeats 1000000 in
/-- A call. -/
theorem call_sound {E : Env} (hE : EnvOk E) {R : Type} {dst : Option Tmp} {c : Call} {type : TypeId} {pos : String} {aft : Array Edge} {guard : Option (Nat × Bool)} {a : Act} {B : Base} {X : HS} {h : List SO} {un : Bool} {ev : Operand → Option SV} {evg : Nat → Bool → Operand → Option SV} {K : Kont R} {r : R}
    {next : Act → World → Prop} {Q : Exit → Act → World → Prop} (H : HRep B X h) (hev : ∀ x v, ev x = some v → Rep X v .val [a.eval x])
    (hk : opK0 E (.call c) true un ev evg h K = some r)
    (hn : ∀ X' h' v val, Ext X X' → HRep B X' h' → Rep X' v .val [val] → K v h' = some r → next (a.put dst val) X'.w) : (⟨dst, .call c, type, pos, aft, guard⟩ : Oper).wp E.P a X.w next Q := by
  simp only [opK0] at hk
  split at hk
  · rename_i args hargs
    have hra := evs_rep hev _ _ hargs
    obtain ⟨callee, cargs, ctys⟩ := c
    cases callee with
    | builtin b =>
      simp only at hk
      unfold builtinK at hk
      have hrun : ∀ s : Array TypeId → TypeId → Array Value → Sem Value, (∀ ats ty cs as, builtin b ats ty cs as = (do pure (.value (← s ats ty as)))) →
          execOp a.eval ⟨dst, .call ⟨.builtin b, cargs, ctys⟩, type, pos, aft, guard⟩ = (do pure (.value (← s ctys type (cargs.map a.eval)))) := by
        intro s hs
        simp [execOp, resolve, invoke, hs]
      split at hk
      · rename_i x t hts
        have h2 : cargs.map a.eval = #[(cargs.toList.map a.eval)[0]?.getD undef] := by
          apply Array.ext'
          have := RepL_len hra
          simp only [Array.toList_map]
          match hl : cargs.toList.map a.eval with
          | [y] => simp
          | [] => rw [hl] at this; simp at this
          | _ :: _ :: _ => rw [hl] at this; simp at this
        have hx : Rep X x .val [(cargs.toList.map a.eval)[0]?.getD undef] := by
          match hl : cargs.toList.map a.eval with
          | [y] => rw [hl] at hra; simpa using hra.1
          | [] => rw [hl] at hra; exact hra.elim
          | _ :: _ :: _ => rw [hl] at hra; exact hra.2.elim
        have ht : ctys = #[t] := Array.ext' (by simpa using hts)
        refine wp_of_out (hrun Builtin.len_ (fun _ _ _ _ => rfl)) ?_ hn
        rw [h2, ht]
        exact lenK_sound H hx hk
      · rename_i s x
        have h2 : ∃ y z, cargs.map a.eval = #[y, z] ∧ Rep X s .val [y] ∧ Rep X x .val [z] := by
          match hl : cargs.toList.map a.eval with
          | [y, z] =>
            rw [hl] at hra
            exact ⟨y, z, Array.ext' (by simpa using hl), hra.1, hra.2.1⟩
          | [] => rw [hl] at hra; exact hra.elim
          | [_] => rw [hl] at hra; exact hra.2.elim
          | _ :: _ :: _ :: _ => rw [hl] at hra; exact hra.2.2.elim
        obtain ⟨y, z, e, hy, hz⟩ := h2
        refine wp_of_out (hrun Builtin.append_ (fun _ _ _ _ => rfl)) ?_ hn
        rw [e]
        have := appendK_sound (ty := type) H hy hz hk
        simpa using this
      · rename_i s x
        have h2 : ∃ y z, cargs.map a.eval = #[y, z] ∧ Rep X s .val [y] ∧ Rep X x .val [z] := by
          match hl : cargs.toList.map a.eval with
          | [y, z] =>
            rw [hl] at hra
            exact ⟨y, z, Array.ext' (by simpa using hl), hra.1, hra.2.1⟩
          | [] => rw [hl] at hra; exact hra.elim
          | [_] => rw [hl] at hra; exact hra.2.elim
          | _ :: _ :: _ :: _ => rw [hl] at hra; exact hra.2.2.elim
        obtain ⟨y, z, e, hy, hz⟩ := h2
        refine wp_of_out (hrun Builtin.min_ (fun _ _ _ _ => rfl)) ?_ hn
        rw [e]
        exact minK_sound H hy hz hk
      · rename_i s x
        have h2 : ∃ y z, cargs.map a.eval = #[y, z] ∧ Rep X s .val [y] ∧ Rep X x .val [z] := by
          match hl : cargs.toList.map a.eval with
          | [y, z] =>
            rw [hl] at hra
            exact ⟨y, z, Array.ext' (by simpa using hl), hra.1, hra.2.1⟩
          | [] => rw [hl] at hra; exact hra.elim
          | [_] => rw [hl] at hra; exact hra.2.elim
          | _ :: _ :: _ :: _ => rw [hl] at hra; exact hra.2.2.elim
        obtain ⟨y, z, e, hy, hz⟩ := h2
        refine wp_of_out (hrun Builtin.max_ (fun _ _ _ _ => rfl)) ?_ hn
        rw [e]
        exact maxK_sound H hy hz hk
      · rename_i s x
        have h2 : ∃ y z, cargs.map a.eval = #[y, z] ∧ Rep X s .val [y] ∧ Rep X x .val [z] := by
          match hl : cargs.toList.map a.eval with
          | [y, z] =>
            rw [hl] at hra
            exact ⟨y, z, Array.ext' (by simpa using hl), hra.1, hra.2.1⟩
          | [] => rw [hl] at hra; exact hra.elim
          | [_] => rw [hl] at hra; exact hra.2.elim
          | _ :: _ :: _ :: _ => rw [hl] at hra; exact hra.2.2.elim
        obtain ⟨y, z, e, hy, hz⟩ := h2
        refine wp_of_out (hrun Builtin.copy_ (fun _ _ _ _ => rfl)) ?_ hn
        rw [e]
        have := copyK_sound (ty := type) H hy hz hk
        simpa using this
      · rename_i x
        have h2 : cargs.map a.eval = #[(cargs.toList.map a.eval)[0]?.getD undef] := by
          apply Array.ext'
          have := RepL_len hra
          simp only [Array.toList_map]
          match hl : cargs.toList.map a.eval with
          | [y] => simp
          | [] => rw [hl] at this; simp at this
          | _ :: _ :: _ => rw [hl] at this; simp at this
        have hx : Rep X x .val [(cargs.toList.map a.eval)[0]?.getD undef] := by
          match hl : cargs.toList.map a.eval with
          | [y] => rw [hl] at hra; simpa using hra.1
          | [] => rw [hl] at hra; exact hra.elim
          | _ :: _ :: _ => rw [hl] at hra; exact hra.2.elim
        refine wp_of_out (hrun Builtin.clear_ (fun _ _ _ _ => rfl)) ?_ hn
        rw [h2]
        have := clearK_sound (ty := type) H hx hk
        simpa using this
      · rename_i s x
        have h2 : ∃ y z, cargs.map a.eval = #[y, z] ∧ Rep X s .val [y] ∧ Rep X x .val [z] := by
          match hl : cargs.toList.map a.eval with
          | [y, z] =>
            rw [hl] at hra
            exact ⟨y, z, Array.ext' (by simpa using hl), hra.1, hra.2.1⟩
          | [] => rw [hl] at hra; exact hra.elim
          | [_] => rw [hl] at hra; exact hra.2.elim
          | _ :: _ :: _ :: _ => rw [hl] at hra; exact hra.2.2.elim
        obtain ⟨y, z, e, hy, hz⟩ := h2
        refine wp_of_out (hrun Builtin.delete_ (fun _ _ _ _ => rfl)) ?_ hn
        rw [e]
        have := deleteK_sound (ty := type) H hy hz hk
        simpa using this
      · cases hk
    | invoke _ _ => simp at hk
    | value f =>
      simp only at hk
      split at hk
      · rename_i f' caps hf
        obtain ⟨hch, hk⟩ := bif_some hk
        obtain ⟨us, h1, h2⟩ := hev f _ hf
        have h2 : a.eval f = .func (.func f') #[] us.toArray := by simpa using h2
        have hall := RepL_append hra (vals_toL caps us hch h1)
        have hrun : callable E.P f' → (execOp a.eval ⟨dst, .call ⟨.value f, cargs, ctys⟩, type, pos, aft, guard⟩).run E.P X.w = .ok (.enter f' (cargs.toList.map a.eval ++ us).toArray) X.w := by
          rintro ⟨fn, k1, k2, k3⟩
          have e : cargs.map a.eval ++ us.toArray = (cargs.toList.map a.eval ++ us).toArray := by
            apply Array.ext'; simp
          cases hb : fn.body with
          | none => rw [hb] at k2; cases k2
          | some c =>
          have k4 : ¬ fn.name = "runtime.NumGoroutine" := by simpa using k3
          simp [execOp, resolve, h2, Deferred.ofValue, invoke, callFunc, k1, k4, hb, e]
        unfold callK at hk
        cases hpm : E.isPm f' with
        | true =>
          rw [hpm] at hk
          simp only [cond_true] at hk
          split at hk
          · rename_i res hres
            obtain ⟨x, hx, hk⟩ := Option.bind_eq_some_iff.1 hk
            obtain ⟨hc, hcalls⟩ := hE.pm f' _ h res x hpm hres hx
            unfold Oper.wp
            rw [hrun hc]
            simp only [Oper.upon]
            refine (hcalls B X H _ hall).mono ?_
            rintro e w' ⟨val, X', rfl, e1, e2, rfl, e3⟩
            exact hn X' h _ val e1 e2 e3 hk
          · cases hk
        | false =>
          rw [hpm] at hk
          simp only [cond_false] at hk
          obtain ⟨_, hk⟩ := bif_some hk
          unfold locK at hk
          obtain ⟨hc, hcalls⟩ := hE.cm R f' _ _ _ r hk
          unfold Oper.wp
          rw [hrun hc]
          simp only [Oper.upon]
          refine (hcalls _ X (H.mask (maskH_len _ 0 h) maskH_sub) _ hall).mono ?_
          rintro e w' ⟨val, X', h', v, rfl, e1, e2, rfl, e3, e4⟩
          split at e4
          · rename_i h2 e5
            exact hn X' h2 v val e1 (H.rest e1 e2 e5) e3 e4
          · cases e4
      · cases hk
  · cases hk



end Go.Eng
