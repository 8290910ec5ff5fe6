/- The engine, part 30: functions that return several results, slices of their own making among them. -/
import Derived.Test.YtondjihmmjjinaaE29
namespace Go.Eng
open Go
set_option linter.unusedVariables false
set_option linter.unusedSimpArgs false

/-- The results, read by a plan: at true a slice of the call's own, at false flat data. -/
def retP (h : List SO) : List Nat → SV → (g : GT) → List Bool → Option g.ty
  | _, .snil, .nil, _ => some ()
  | used, .scons a b, .cons (.sl t) gb, true :: ps => (match a with
    | .nils => (match retP h used b gb ps with
      | some y => some ([], y)
      | none => none)
    | .emp => (match retP h used b gb ps with
      | some y => some ([], y)
      | none => none)
    | .own n => bif used.any (Nat.beq n) then none else (match nth h n with
      | some (.arr g xs) => (match castL g t xs with
        | some xs => (match retP h (n :: used) b gb ps with
          | some y => some (xs, y)
          | none => none)
        | none => none)
      | _ => none)
    | _ => none)
  | used, .scons a b, .cons ga gb, false :: ps => (match rdV h a ga with
    | some x => (match retP h used b gb ps with
      | some y => some (x, y)
      | none => none)
    | none => none)
  | _, _, _, _ => none

def retT (ps : List Bool) (g : GT) (v : SV) (h : List SO) : Option g.ty :=
  match v with
  | .tup l => retP h [] l g ps
  | _ => none

/-- Nothing in the results points to what is not the call's own. -/
def flatP : GT → List Bool → Bool
  | .nil, _ => true
  | .cons (.sl t) gb, true :: ps => t.flat && flatP gb ps
  | .cons ga gb, false :: ps => ga.flat && flatP gb ps
  | _, _ => false

/-- The results as the caller sees them. -/
def ownV : (g : GT) → List Bool → g.ty → Nat → SV
  | .cons (.sl t) gb, true :: ps, x, n => .scons (.own n) (ownV gb ps x.2 (n + 1))
  | .cons ga gb, false :: ps, x, n => .scons (.dat ga x.1) (ownV gb ps x.2 n)
  | _, _, _, _ => .snil
def ownO : (g : GT) → List Bool → g.ty → List SO
  | .cons (.sl t) gb, true :: ps, x => .arr t x.1 :: ownO gb ps x.2
  | .cons ga gb, false :: ps, x => ownO gb ps x.2
  | _, _, _ => []

def ownT (f : Nat) (gs : List GT) (ps : List Bool) (g : GT) (model : tyL gs → Option g.ty) : CmE :=
  ⟨f, fun R args h K => bif flatP g ps then (match coeL h args gs with
    | some xs => (model xs).bind fun y => K (.tup (ownV g ps y h.length)) (h ++ ownO g ps y)
    | none => none) else none, false⟩

theorem adoptP {B B' : Base} {X' : HS} {h' : List SO} {S0 : Nat} (H' : HRep B' X' h') (hB' : B'.w.heap.size = S0) (hown' : ∀ b, ¬ B'.own b) (hS : B.w.heap.size ≤ S0) :
    ∀ (l : SV) (g : GT) (ps : List Bool) (used : List Nat) (y : g.ty) (us : List Value), flatP g ps = true → retP h' used l g ps = some y → Rep X' l .vals us →
    ∀ (Z : HS) (hz : List SO), HRep B Z hz → Z.w = X'.w → (∀ b, Z.Ok b → b < S0) →
      (∀ m o b, nth hz m = some o → o.live = true → blkOf Z m = some b → b < S0 ∨ ∃ k, k ∈ used ∧ ∃ o', nth h' k = some o' ∧ o'.live = true ∧ blkOf X' k = some b) →
      ∃ Z', Z'.w = Z.w ∧ Ext Z Z' ∧ HRep B Z' (hz ++ ownO g ps y) ∧ Rep Z' (ownV g ps y hz.length) .vals us
  | .snil, .nil, ps, used, y, us, hf, hr, hv, Z, hz, HZ, hw, hok, hinv => by
    refine ⟨Z, rfl, Ext.refl Z, ?_, ?_⟩
    · simp only [ownO, List.append_nil]; exact HZ
    · simpa [Rep, ownV] using hv
  | .scons a b, .cons (.sl t) gb, true :: ps, used, y, us, hf, hr, hv, Z, hz, HZ, hw, hok, hinv => by
    simp only [flatP, Bool.and_eq_true] at hf
    obtain ⟨v, c2, rfl, hva, hvb⟩ := hv
    -- one empty slice without a block
    have emp : ∀ (base : Option Addr) (y2 : gb.ty), v = .slice base 0 0 → retP h' used b gb ps = some y2 → y = ([], y2) →
        ∃ Z', Z'.w = Z.w ∧ Ext Z Z' ∧ HRep B Z' (hz ++ ownO (.cons (.sl t) gb) (true :: ps) y) ∧ Rep Z' (ownV (.cons (.sl t) gb) (true :: ps) y hz.length) .vals (v :: c2) := by
      intro base y2 e1 e2 e3
      subst e1; subst e3
      obtain ⟨H3, E3⟩ := HZ.adopt (val := .slice base 0 0) (o := .arr t []) (fun b _ hb => by cases base <;> simp [Value.blk] at hb) (.inl ⟨base, new_rep HZ.len _, rfl⟩)
      obtain ⟨Z', z1, z2, z3, z4⟩ := adoptP H' hB' hown' hS b gb ps used y2 c2 hf.2 e2 hvb ⟨Z.ρ ++ [.slice base 0 0], Z.Ok, Z.w⟩ _ H3 hw hok (by
        intro m o bb hm hl hb
        rw [nth_eq] at hm
        rcases Nat.lt_or_ge m hz.length with hlt | hge
        · rw [List.getElem?_append_left hlt] at hm
          refine hinv m o bb (by rw [nth_eq]; exact hm) hl ?_
          simp only [blkOf] at hb ⊢
          rw [List.getElem?_append_left (by rw [HZ.len]; exact hlt)] at hb
          exact hb
        · exfalso
          have hm1 := (List.getElem?_eq_some_iff.1 hm).1
          have : m = hz.length := by simp at hm1; omega
          subst this
          simp only [blkOf] at hb
          rw [new_rep HZ.len] at hb
          cases base <;> simp [Value.blk] at hb)
      refine ⟨Z', z1, E3.trans z2, ?_, ?_⟩
      · simpa [ownO] using z3
      · simp only [ownV]
        rw [List.length_append, List.length_singleton] at z4
        exact ⟨_, _, rfl, ⟨_, z2.ρ _ _ (new_rep HZ.len _), rfl, rfl⟩, z4⟩
    simp only [retP] at hr
    split at hr
    · split at hr
      · rename_i y2 hy2
        simp only [Rep, List.cons.injEq, and_true] at hva
        exact emp none y2 hva hy2 (Option.some.inj hr).symm
      · cases hr
    · split at hr
      · rename_i y2 hy2
        obtain ⟨base, hva⟩ := hva
        simp only [List.cons.injEq, and_true] at hva
        exact emp base y2 hva hy2 (Option.some.inj hr).symm
      · cases hr
    · rename_i n
      cases hu : used.any (Nat.beq n) with
      | true => rw [hu] at hr; cases hr
      | false =>
        rw [hu] at hr
        simp only [cond_false] at hr
        split at hr
        · rename_i g' xs' hn
          split at hr
          · rename_i xs hxs
            split at hr
            · rename_i y2 hy2
              have hr := Option.some.inj hr
              subst hr
              obtain ⟨eg, ex⟩ := castD_some hxs
              cases eg
              cases ex
              obtain ⟨v0, q1, q2, q3⟩ := hva
              simp only [List.cons.injEq, and_true] at q2
              subst q2
              have hob := H'.obj n _ hn
              have hblk : blkOf X' n = v.blk := by simp [blkOf, q1]
              have hfresh : ∀ b, v.blk = some b → S0 ≤ b := by
                intro b hb
                rcases H'.ownNew n _ b hn rfl (by rw [hblk]; exact hb) with h1 | h1
                · exact (hown' b h1).elim
                · rw [hB'] at h1; exact h1
              obtain ⟨H3, E3⟩ := HZ.adopt (val := v) (o := .arr _ xs') (fun b _ hb => by
                have hge := hfresh b hb
                refine ⟨fun h1 => ?_, .inr (Nat.le_trans hS hge), ?_⟩
                · have := hok b h1; omega
                · intro m o' hm hl hb'
                  rcases hinv m o' b hm hl hb' with h1 | ⟨k, hk, o2, k1, k2, k3⟩
                  · omega
                  · have := H'.inj n k _ o2 hn k1 rfl k2 b (by rw [hblk]; exact hb) k3
                    subst this
                    have : used.any (Nat.beq n) = true := List.any_eq_true.2 ⟨n, hk, by simp⟩
                    rw [hu] at this; cases this) (by
                rcases hob with ⟨base, k1, k2⟩ | ⟨b, o, cap, cells, T, fz, k1, k2, k3, k4, k5, k6, k7⟩
                · rw [q1] at k1
                  exact .inl ⟨base, by rw [new_rep HZ.len]; exact k1, k2⟩
                · rw [q1] at k1
                  refine .inr ⟨b, o, cap, cells, T, fz, by rw [new_rep HZ.len]; exact k1, k2, by rw [hw]; exact k3, k4, k5, k6, k7.1, ?_⟩
                  intro i z hi
                  obtain ⟨cs, c1, c2⟩ := k7.2 i z hi
                  refine ⟨cs, ?_, c2⟩
                  have := RepD_flat (Ok' := Z.Ok) (hp' := X'.w.heap) _ z cs hf.1 c1
                  simp only [hw]
                  exact this)
              obtain ⟨Z', z1, z2, z3, z4⟩ := adoptP H' hB' hown' hS b gb ps (n :: used) y2 c2 hf.2 hy2 hvb ⟨Z.ρ ++ [v], Z.Ok, Z.w⟩ _ H3 hw hok (by
                intro m o bb hm hl hb
                rw [nth_eq] at hm
                rcases Nat.lt_or_ge m hz.length with hlt | hge
                · rw [List.getElem?_append_left hlt] at hm
                  have hb' : blkOf Z m = some bb := by
                    simp only [blkOf] at hb ⊢
                    rw [List.getElem?_append_left (by rw [HZ.len]; exact hlt)] at hb
                    exact hb
                  rcases hinv m o bb (by rw [nth_eq]; exact hm) hl hb' with h1 | ⟨k, hk, r⟩
                  · exact .inl h1
                  · exact .inr ⟨k, by simp [hk], r⟩
                · have hm1 := (List.getElem?_eq_some_iff.1 hm).1
                  have : m = hz.length := by simp at hm1; omega
                  subst this
                  simp only [blkOf] at hb
                  rw [new_rep HZ.len] at hb
                  exact .inr ⟨n, by simp, _, hn, rfl, by rw [hblk]; exact hb⟩)
              refine ⟨Z', z1, E3.trans z2, ?_, ?_⟩
              · simpa [ownO] using z3
              · simp only [ownV]
                rw [List.length_append, List.length_singleton] at z4
                exact ⟨_, _, rfl, ⟨_, z2.ρ _ _ (new_rep HZ.len _), rfl, q3⟩, z4⟩
            · cases hr
          · cases hr
        · cases hr
    · cases hr
  | .scons a b, .cons ga gb, false :: ps, used, y, us, hf, hr, hv, Z, hz, HZ, hw, hok, hinv => by
    have hf' : ga.flat = true ∧ flatP gb ps = true := by
      cases ga <;> simpa [flatP] using hf
    obtain ⟨v, c2, rfl, hva, hvb⟩ := hv
    have hr' : ∃ x y2, rdV h' a ga = some x ∧ retP h' used b gb ps = some y2 ∧ y = (x, y2) := by
      have e : retP h' used (.scons a b) (.cons ga gb) (false :: ps) = (match rdV h' a ga with
        | some x => (match retP h' used b gb ps with
          | some y => some (x, y)
          | none => none)
        | none => none) := by cases ga <;> rfl
      rw [e] at hr
      split at hr
      · rename_i x hx
        split at hr
        · rename_i y2 hy2
          exact ⟨x, y2, hx, hy2, (Option.some.inj hr).symm⟩
        · cases hr
      · cases hr
    obtain ⟨x, y2, hx, hy2, rfl⟩ := hr'
    obtain ⟨cs, k1, k2⟩ := rdV_rep H' hx hva
    obtain ⟨Z', z1, z2, z3, z4⟩ := adoptP H' hB' hown' hS b gb ps used y2 c2 hf'.2 hy2 hvb Z hz HZ hw hok hinv
    refine ⟨Z', z1, z2, ?_, ?_⟩
    · have e : ownO (.cons ga gb) (false :: ps) (x, y2) = ownO gb ps y2 := by cases ga <;> rfl
      rw [e]; exact z3
    · have e : ownV (.cons ga gb) (false :: ps) (x, y2) hz.length = .scons (.dat ga x) (ownV gb ps y2 hz.length) := by cases ga <;> rfl
      rw [e]
      refine ⟨v, c2, rfl, ⟨cs, ?_, by rw [k2]⟩, z4⟩
      have := RepD_flat (Ok' := Z'.Ok) (hp' := X'.w.heap) ga x cs hf'.1 k1
      rw [z1, hw]
      exact this
  | .snil, .int _, _, _, _, _, hf, hr, _, _, _, _, _, _, _ => by simp [retP] at hr
  | .snil, .bool, _, _, _, _, hf, hr, _, _, _, _, _, _, _ => by simp [retP] at hr
  | .snil, .str, _, _, _, _, hf, hr, _, _, _, _, _, _, _ => by simp [retP] at hr
  | .snil, .cons _ _, _, _, _, _, hf, hr, _, _, _, _, _, _, _ => by simp [retP] at hr
  | .snil, .sl _, _, _, _, _, hf, hr, _, _, _, _, _, _, _ => by simp [retP] at hr
  | .snil, .opq, _, _, _, _, hf, hr, _, _, _, _, _, _, _ => by simp [retP] at hr
  | .scons _ _, .int _, _, _, _, _, hf, hr, _, _, _, _, _, _, _ => by simp [retP] at hr
  | .scons _ _, .bool, _, _, _, _, hf, hr, _, _, _, _, _, _, _ => by simp [retP] at hr
  | .scons _ _, .str, _, _, _, _, hf, hr, _, _, _, _, _, _, _ => by simp [retP] at hr
  | .scons _ _, .nil, _, _, _, _, hf, hr, _, _, _, _, _, _, _ => by simp [retP] at hr
  | .scons _ _, .sl _, _, _, _, _, hf, hr, _, _, _, _, _, _, _ => by simp [retP] at hr
  | .scons _ _, .opq, _, _, _, _, hf, hr, _, _, _, _, _, _, _ => by simp [retP] at hr
  | .scons _ _, .cons ga gb, [], _, _, _, hf, hr, _, _, _, _, _, _, _ => by cases ga <;> simp [flatP] at hf
  | .scons _ _, .cons (.int _) gb, true :: _, _, _, _, hf, hr, _, _, _, _, _, _, _ => by simp [flatP] at hf
  | .scons _ _, .cons .bool gb, true :: _, _, _, _, hf, hr, _, _, _, _, _, _, _ => by simp [flatP] at hf
  | .scons _ _, .cons .str gb, true :: _, _, _, _, hf, hr, _, _, _, _, _, _, _ => by simp [flatP] at hf
  | .scons _ _, .cons .nil gb, true :: _, _, _, _, hf, hr, _, _, _, _, _, _, _ => by simp [flatP] at hf
  | .scons _ _, .cons .opq gb, true :: _, _, _, _, hf, hr, _, _, _, _, _, _, _ => by simp [flatP] at hf
  | .scons _ _, .cons (.cons _ _) gb, true :: _, _, _, _, hf, hr, _, _, _, _, _, _, _ => by simp [flatP] at hf
  | .dat _ _, g, _, _, _, _, hf, hr, _, _, _, _, _, _, _ => by simp [retP] at hr
  | .nils, g, _, _, _, _, hf, hr, _, _, _, _, _, _, _ => by simp [retP] at hr
  | .emp, g, _, _, _, _, hf, hr, _, _, _, _, _, _, _ => by simp [retP] at hr
  | .nilp, g, _, _, _, _, hf, hr, _, _, _, _, _, _, _ => by simp [retP] at hr
  | .nilm, g, _, _, _, _, hf, hr, _, _, _, _, _, _, _ => by simp [retP] at hr
  | .nilfn, g, _, _, _, _, hf, hr, _, _, _, _, _, _, _ => by simp [retP] at hr
  | .nsl _ _, g, _, _, _, _, hf, hr, _, _, _, _, _, _, _ => by simp [retP] at hr
  | .box _ _ _, g, _, _, _, _, hf, hr, _, _, _, _, _, _, _ => by simp [retP] at hr
  | .el _ _ _ _ _, g, _, _, _, _, hf, hr, _, _, _, _, _, _, _ => by simp [retP] at hr
  | .rd _ _, g, _, _, _, _, hf, hr, _, _, _, _, _, _, _ => by simp [retP] at hr
  | .mp _, g, _, _, _, _, hf, hr, _, _, _, _, _, _, _ => by simp [retP] at hr
  | .fn _ _, g, _, _, _, _, hf, hr, _, _, _, _, _, _, _ => by simp [retP] at hr
  | .own _, g, _, _, _, _, hf, hr, _, _, _, _, _, _, _ => by simp [retP] at hr
  | .agg _, g, _, _, _, _, hf, hr, _, _, _, _, _, _, _ => by simp [retP] at hr
  | .tup _, g, _, _, _, _, hf, hr, _, _, _, _, _, _, _ => by simp [retP] at hr

theorem ownT_ok {P : Program} {f : Nat} {gs : List GT} {ps : List Bool} {g : GT} {model : tyL gs → Option g.ty} (hc : callable P f) (hr : FRun P f gs (retT ps g) model) : CmOk P (ownT f gs ps g model) := by
  constructor
  · intro R args h K r hk
    simp only [ownT] at hk ⊢
    obtain ⟨hflat, hk⟩ := bif_some hk
    split at hk
    · rename_i xs hxs
      obtain ⟨y, hy, hk⟩ := Option.bind_eq_some_iff.1 hk
      refine ⟨hc, fun B X H vals hvals => ?_⟩
      have H0 : HRep ⟨X.w, fun _ => False, okS X h (ownsAll args)⟩ ⟨[], okS X h (ownsAll args), X.w⟩ [] := by
        refine ⟨rfl, ?_, ?_, ?_, ?_, ?_, fun _ hb => hb, fun _ hb => .inl hb, rfl, rfl, rfl, Nat.le_refl _, fun _ _ _ => rfl⟩
        · intro n o hn; simp [nth_eq] at hn
        · intro n m o o' hn; simp [nth_eq] at hn
        · intro n o hn; simp [nth_eq] at hn
        · rintro b (hb | ⟨n, o, _, h2, h3, h4⟩)
          · exact H.okLt b hb
          · exact H.lt h2 h3 h4
        · intro n o b hn; simp [nth_eq] at hn
      have ha := coeL_rep H args gs xs vals hxs hvals ⟨[], okS X h (ownsAll args), X.w⟩ (fun _ hb => hb) rfl
      refine (hr xs y hy _ _ H0 vals ha).mono ?_
      rintro e w' ⟨val, X', h', v, rfl, _, H', rfl, hv, hret⟩
      have hlt : ∀ n o b, nth h n = some o → o.live = true → blkOf X n = some b → b < X.w.heap.size := fun n o b hn hl hb => H.lt hn hl hb
      have hfr : ∀ b : Nat, b < X.w.heap.size → X'.w.heap[b]? = X.w.heap[b]? := fun b hb => H'.fr b hb (fun h => h)
      obtain ⟨H1, E1⟩ := H.world (w' := X'.w) H'.os H'.tape H'.out H'.size (fun b hb => hfr b (H.okLt b hb)) (fun n o b hn hl hb => hfr b (hlt n o b hn hl hb)) (fun b hb _ => hfr b (Nat.lt_of_lt_of_le hb H.size))
      unfold retT at hret
      split at hret
      · rename_i l
        obtain ⟨us, h1, h2⟩ := hv
        simp only [List.cons.injEq, and_true] at h2
        obtain ⟨Z', z1, z2, z3, z4⟩ := adoptP (S0 := X.w.heap.size) (B := B) H' rfl (fun _ h => h) H.size l g ps [] y us hflat hret h1 ⟨X.ρ, X.Ok, X'.w⟩ h H1 rfl (fun b hb => H.okLt b hb)
          (fun m o b hm hl hb => .inl (hlt m o b hm hl hb))
        exact ⟨val, Z', _, .tup (ownV g ps y h.length), z1, E1.trans z2, z3, rfl, ⟨us, z4, by rw [h2]⟩, hk⟩
      · cases hret
    · cases hk
  · intro R args h K
    simp only [ownT]
    rw [cond_bind]
    congr 1
    split
    · rw [Option.bind_assoc]; rfl
    · rfl
  · intro h
    cases h

/-! ### Calls that take the caller's own slices for good -/

/-- A type that a variable can hold. -/
def holdG : List GT → Bool
  | [] => true
  | g :: gs => (!g.isAgg || g.chain) && holdG gs

/-- A function of plain data: slices of the caller's own that are handed to it are fixed from then on. -/
def konE (f : Nat) (gs : List GT) (many : Bool) (g : GT) (model : tyL gs → Option g.ty) : CmE :=
  ⟨f, fun R args h K => bif holdG gs then (match coeL h args gs with
    | some xs => (model xs).bind fun y => K (toRes many g y) (kill h (ownsAll args))
    | none => none) else none, false⟩

theorem castD_self (g : GT) (x : g.ty) : castD g g x = some x := by
  have h : g.beq g = true := by
    have : ∀ g : GT, g.beq g = true := by
      intro g
      induction g with
      | int k => simp [GT.beq]
      | bool => rfl
      | str => rfl
      | nil => rfl
      | cons a b ha hb => simp [GT.beq, ha, hb]
      | sl t ht => simp [GT.beq, ht]
      | opq => rfl
    exact this g
  unfold castD
  rw [dif_pos h]

theorem datL_owns : ∀ (gs : List GT) (xs : tyL gs), ownsAll (datL gs xs) = []
  | [], _ => rfl
  | g :: gs, xs => by simp [datL, ownsAll, SV.owns, datL_owns gs xs.2]

theorem coeL_dat (h : List SO) : ∀ (gs : List GT) (xs : tyL gs), holdG gs = true → coeL h (datL gs xs) gs = some xs
  | [], _, _ => rfl
  | g :: gs, xs, hg => by
    simp only [holdG, Bool.and_eq_true] at hg
    simp only [datL, coeL]
    have : rdV h (.dat g xs.1) g = some xs.1 := by
      unfold rdV
      simp only [SV.stor, SV.isAgg, hg.1, beq_self_eq_true, Bool.and_self, cond_true, coe]
      exact castD_self g xs.1
    rw [this, coeL_dat h gs xs.2 hg.2]
    rfl

theorem kon_ok {P : Program} {f : Nat} {gs : List GT} {many : Bool} {g : GT} {model : tyL gs → Option g.ty} (hp : PmOk P (entry f gs many g model)) : CmOk P (konE f gs many g model) := by
  constructor
  · intro R args h K r hk
    simp only [konE] at hk ⊢
    obtain ⟨hg, hk⟩ := bif_some hk
    split at hk
    · rename_i xs hxs
      obtain ⟨y, hy, hk⟩ := Option.bind_eq_some_iff.1 hk
      have hrun : (entry f gs many g model).run (datL gs xs) (kill h (ownsAll args)) = some ⟨many, g, model xs⟩ := by
        simp only [entry, datL_owns, List.length_nil, Nat.beq_refl, Bool.true_or, cond_true, coeL_dat _ gs xs hg]
      obtain ⟨hc, hcalls⟩ := hp.sound _ _ _ y hrun hy
      refine ⟨hc, fun B X H vals hv => ?_⟩
      obtain ⟨H1, E1⟩ := kill_seal H (ownsAll args)
      have hr := coeL_rep H args gs xs vals hxs hv ⟨X.ρ, okS X h (ownsAll args), X.w⟩ (fun _ h => h) rfl
      refine (hcalls B _ H1 vals hr).mono ?_
      rintro e w' ⟨val, X', rfl, e1, e2, rfl, e3⟩
      exact ⟨val, X', kill h (ownsAll args), toRes many g y, rfl, E1.trans e1, e2, rfl, e3, hk⟩
    · cases hk
  · intro R args h K
    simp only [konE]
    rw [cond_bind]
    congr 1
    split
    · rw [Option.bind_assoc]; rfl
    · rfl
  · intro h
    cases h

end Go.Eng
