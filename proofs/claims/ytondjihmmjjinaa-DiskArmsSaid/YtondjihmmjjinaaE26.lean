/- The engine, part 26: a law's row. -/
import Derived.Test.YtondjihmmjjinaaE25
import Derived.JoinedCond
namespace Go.Eng
open Go Go.ChangeShapes Go.WideShapes Go.ChangeAt Go.RowKit
set_option linter.unusedVariables false
set_option linter.unusedSimpArgs false

section
variable {H : Type} {enc : TypeId × Value → H} {P : Program}

theorem law_post {f : Func} {s : ChangeSpec} {apart fresh handsOn again : Bool} {W W' : World} {args : Array Value} {v : Value} {ds gs : List (DataW H)} {before pa pv : List MemPlace}
    (hW : DataW.Whole enc P f.params.toList s.vars apart W args.toList ds gs before)
    (hres : ∀ (b : Nat) (sp : Nat → Bool) (hd : Bool), DataW.TrodAll enc P W' b sp hd f.resultTypes.toList (v.resultList f.resultTypes.size) (s.fn H (ds ++ gs)).results [])
    (hargs : ∀ sp : Nat → Bool, (∀ p ∈ before, sp p.block = true) → DataW.TrodAll enc P W' 0 sp true f.params.toList args.toList (s.fn H (ds ++ gs)).args pa)
    (hvars : ∀ sp : Nat → Bool, (∀ p ∈ before, sp p.block = true) → DataW.TrodVars enc P W' sp s.vars (s.fn H (ds ++ gs)).vars pv)
    (hps : before = pa ++ pv) (hb : Below W.heap.size W W')
    (hok : ∀ (j : Nat) (t : TypeId) (r : Value), f.resultTypes[j]? = some t → (v.resultList f.resultTypes.size)[j]? = some r → Value.okWide P W' .any 0 t r) :
    s.post enc P f apart fresh handsOn again W args v W' := by
  have hlt : ∀ p ∈ before, p.block < W.heap.size := fun p hp => hW.lt p hp
  have hold : ∀ p ∈ before, (fun b => decide (b < W.heap.size)) p.block = true := fun p hp => by simpa using hlt p hp
  refine ⟨ds, gs, before, [], pa, pv, hW, hres _ _ _, hargs _ hold, hvars _ hold, World.keptBut_mono (fun p hp => ⟨hp, ?_⟩) (hb.frame (· ∈ before)), fun _ => ?_⟩
  · rw [hps, List.mem_append] at hp
    exact Or.inr hp
  · obtain ⟨_, _, _, _, _, hz, hn⟩ := hW
    refine ⟨hok, _, _, ([] ++ pa) ++ pv, ⟨[] ++ pa, pv, trodAll_append (hargs _ (fun _ _ => rfl)) (hres _ _ _), hvars _ (fun _ _ => rfl), rfl, ?_, ?_⟩, ?_⟩
    · intro b off hp
      have hin : MemPlace.cell b off ∈ before := by rw [hps]; simpa using hp
      rw [hb.frozen (hlt _ hin)]
      exact hz b off hin
    · intro ha
      have := hn ha
      rw [hps] at this
      simpa using this
    · intro p hp _
      rw [hps]
      simpa using hp

/-- Types that can be read back. -/
def backL (P : Program) : List TypeId → Bool
  | [] => true
  | t :: ts => P.readableRec t && Nat.blt t P.types.size && backL P ts

theorem trodAll_back (hl : laidOutB P = true) {W W' : World} (hb : Below W.heap.size W W') {sp : Nat → Bool} : ∀ {ts : List TypeId} {vs : List Value} {ds : List (DataW H)} {ps : List MemPlace}, backL P ts = true →
    DataW.TrodAll enc P W 0 (fun _ => true) true ts vs ds ps → (∀ x ∈ ps, x.block < W.heap.size) → (∀ x ∈ ps, sp x.block = true) → DataW.TrodAll enc P W' 0 sp true ts vs ds ps
  | [], [], [], _, _, h, _, _ => h
  | t :: ts, v :: vs, d :: ds, ps, hk, ⟨p, q, h1, h2, e⟩, hlt, hsp => by
    simp only [backL, Bool.and_eq_true, Nat.blt_eq] at hk
    subst e
    exact ⟨p, q, WideElems.Trod_stays hl hk.1.1 hk.1.2 h1 (fun x hx => hb.same (hlt x (by simp [hx]))) (fun x hx => hsp x (by simp [hx])),
      trodAll_back hl hb hk.2 h2 (fun x hx => hlt x (by simp [hx])) (fun x hx => hsp x (by simp [hx])), rfl⟩

end

/-- The law's call, from the executor's answer. -/
theorem law_walk {E : Env} (hE : EnvOk E) (hm : E.P.follows .mixedOrders = true) {C : Cfg} {f : Nat} {fn : Func} {gs : List GT} {xs : tyL gs} (hlm : ∀ c, fn.body = some c → LmOk E C fn.ntmps c) (hf : E.P.funcs[f]? = some fn)
    (hk : execF E C fn (datL gs xs) [] (retK false .bool) = some true) {W : World} {vals : List Value} (hr : RepL ⟨[], OldB W, W⟩ (datL gs xs) vals) :
    Calls E.P f vals.toArray W fun e W' => e = .returned (.bool true) ∧ Below W.heap.size W W' := by
  have H0 : HRep ⟨W, fun _ => False, OldB W⟩ ⟨[], OldB W, W⟩ [] := by
    refine ⟨rfl, ?_, ?_, ?_, fun _ hb => hb, ?_, fun _ hb => hb, fun _ hb => .inl hb, rfl, rfl, rfl, Nat.le_refl _, fun _ _ _ => rfl⟩
    · intro n o hn; simp [nth_eq] at hn
    · intro n m o o' hn; simp [nth_eq] at hn
    · intro n o hn; simp [nth_eq] at hn
    · intro n o b hn; simp [nth_eq] at hn
  refine (execF_sound hE hm hlm hf hk H0 hr).mono ?_
  rintro e w' ⟨val, X', h', v, rfl, _, H', rfl, hv, hk'⟩
  obtain ⟨cs, h1, h2⟩ := rdV_rep H' (show rdV h' v .bool = some true from hk') hv
  simp only [RepD] at h1
  subst h1
  exact ⟨by rw [h2]; rfl, ⟨H'.os, H'.tape, H'.out, H'.size, fun k hk => H'.fr k hk (fun h => h)⟩⟩

/-- The row's step, whole. -/
theorem law_row {H : Type} {enc : TypeId × Value → H} {P : Program} {f : Nat} {fn : Func} {ts : List TypeId} {gsT : List GT} {s : ChangeSpec} {apart fresh handsOn again : Bool} {W : World} {base tb : Nat} {args : Array Value} {ds gs : List (DataW H)} {before : List MemPlace}
    (hp : fn.params.toList = ts) (hrt : fn.resultTypes = #[tb]) (htb : P.underlying tb = some .bool) (hl : laidOutB P = true) (hback : backL P ts = true) (hopen : openL P ts gsT = true) (hvars : s.vars = [])
    (hfn : ∀ xs : tyL gsT, dat2L gsT xs ds → s.fn H ds = { results := [.lit (.bool true)], args := ds })
    (hcall : ∀ xs : tyL gsT, WfL gsT xs → dat2L gsT xs ds → gs = [] → ∀ vals, RepL ⟨[], OldB W, W⟩ (datL gsT xs) vals → Calls P f vals.toArray W fun e W' => e = .returned (.bool true) ∧ Below W.heap.size W W')
    (hval : ∀ (j : Nat) t v, fn.params[j]? = some t → args[j]? = some v → Value.okWide P W .any base t v)
    (hW : DataW.Whole enc P fn.params.toList s.vars apart W args.toList ds gs before) :
    Calls P f args W fun e W' => ∃ v, e = .returned v ∧ s.post enc P fn apart fresh handsOn again W args v W' := by
  have hW' := hW
  obtain ⟨p, q, hA, hV, rfl, hfz, hnd⟩ := hW
  rw [hp] at hA
  have hgs : gs = [] ∧ q = [] := by
    rw [hvars] at hV
    cases gs with
    | nil => exact ⟨rfl, hV⟩
    | cons g gs => exact hV.elim
  obtain ⟨hgs, hq⟩ := hgs
  subst hq
  obtain ⟨xs, k1, k2, k3⟩ := open_all ts gsT args.toList ds p hA (fun j t v ht hv => hval j t v (by rw [← hp] at ht; simpa using ht) (by simpa using hv)) hopen
  have hc := hcall xs k2 k3 hgs args.toList k1
  rw [Array.toArray_toList] at hc
  refine hc.mono ?_
  rintro e W' ⟨rfl, hb⟩
  subst hgs
  have hfn' := hfn xs k3
  refine ⟨_, rfl, law_post (pa := p) (pv := []) hW' ?_ ?_ ?_ rfl hb ?_⟩
  · intro b sp hd
    rw [List.append_nil, hfn', hrt]
    exact trodAll_mk1 (shut_bool htb true)
  · intro sp hsp
    rw [List.append_nil, hfn', hp]
    exact trodAll_back hl hb hback hA (fun x hx => hW'.lt x (by simp [hx])) (fun x hx => hsp x (by simp [hx]))
  · intro sp hsp
    rw [List.append_nil, hfn', hvars]
    rfl
  · exact ok_one hrt rfl (okWide_bool_mk htb true)

end Go.Eng
