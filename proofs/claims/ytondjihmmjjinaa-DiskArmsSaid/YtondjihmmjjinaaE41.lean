/- The engine, part 41: functions of states whose first object is a variable that can be named at the end; without recursion. -/
import Derived.Test.YtondjihmmjjinaaE37
namespace Go.Eng
open Go
set_option linter.unusedVariables false
set_option linter.unusedSimpArgs false

/-- What is kept at a function's end; slot 1 names the first object. -/
def retB (kd kw : List (Nat × List Nat × GT)) (n0 : Nat) (Fo : ShS) : Kont Fo.ty := fun v h => canonK (some ⟨[0], kw, kd⟩) n0 ⟨[(0, v), (1, .box 0 [] 0)], h⟩ Fo.dec

theorem st_runB {E : Env} (hE : EnvOk E) (hm : E.P.follows .mixedOrders = true) {C : Cfg} {f : Nat} {fn : Func} {kd kw : List (Nat × List Nat × GT)} {Fi Fo : ShS} {model : Fi.ty → Option Fo.ty} {σ : SG} {lo : List OG}
    (hlm : ∀ c, fn.body = some c → LmOk E C fn.ntmps c) (hf : E.P.funcs[f]? = some fn) (hsh : Fi.heap = .box σ :: lo)
    (heq : ∀ x, execF E C fn ((Fi.enc x).regs.map (·.2)) (Fi.enc x).heap (retB kd kw Fi.heap.length Fo) = model x) : CRun E.P f Fi Fo model := by
  intro x y hy B X H vals hv
  refine (execF_sound hE hm hlm hf ((heq x).trans hy) H hv).mono ?_
  rintro e w' ⟨val, X', h', v, rfl, hx, H', rfl, hrv, hk⟩
  obtain ⟨b0, hb0⟩ : ∃ b, X.ρ[0]? = some (.pointer (some ⟨b, 0, none⟩)) := by
    obtain ⟨r, l, z, hz⟩ : ∃ (r : List SO) (z : SV) (u : Unit), (Fi.enc x).heap = .box z :: r := by
      obtain ⟨Fr, Fh⟩ := Fi
      cases hsh
      exact ⟨_, _, (), rfl⟩
    obtain ⟨b, cs, T, k1, _⟩ := H.obj 0 (.box l) (by rw [hz]; rfl)
    exact ⟨b, k1⟩
  have S : StOk B 2 X' ⟨[(0, v), (1, .box 0 [] 0)], h'⟩ ⟨#[val, .pointer (some ⟨b0, 0, none⟩)], []⟩ := by
    refine ⟨?_, H', rfl, rfl⟩
    intro t u hl
    simp only [lk] at hl
    cases hb : Nat.beq 0 t with
    | true =>
      rw [hb] at hl
      simp only [cond_true, Option.some.injEq] at hl
      subst hl
      rw [← Nat.eq_of_beq_eq_true hb]
      exact hrv
    | false =>
      rw [hb] at hl
      simp only [cond_false] at hl
      cases hb1 : Nat.beq 1 t with
      | true =>
        rw [hb1] at hl
        simp only [cond_true, Option.some.injEq] at hl
        subst hl
        rw [← Nat.eq_of_beq_eq_true hb1]
        exact ⟨b0, hx.ρ _ _ hb0, rfl⟩
      | false => rw [hb1] at hl; cases hl
  obtain ⟨s', X'', ew, S', EX, hk'⟩ := canonK_sound S hk
  have hs := ShS.dec_enc Fo _ y hk'
  have hXl : X.ρ.length = Fi.heap.length := by
    rw [H.len]
    have : ∀ (l : List OG) (x : tyO l), (encO l x).length = l.length := by
      intro l
      induction l with
      | nil => intro _; rfl
      | cons e l ih => intro x; simp [encO, ih]
    exact this _ _
  refine ⟨val, X'', ew, ?_, by rw [← hs]; exact S'.heap, rfl, fun u hu => ?_⟩
  · refine ExtN.all ?_
    rw [hXl]
    exact ExtN.trans (.of hx) EX
  · rw [← hs] at hu
    have h0 : lk s'.regs 0 = some u := by rw [hu]; simp [lk]
    exact S'.regs 0 u h0

end Go.Eng
