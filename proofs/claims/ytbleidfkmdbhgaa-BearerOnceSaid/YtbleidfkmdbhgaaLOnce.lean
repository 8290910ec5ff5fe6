/- BearerOnce holds for every input. -/
import Derived.Test.YtbleidfkmdbhgaaT9
import Derived.Test.YtbleidfkmdbhgaaRows
namespace Go.Proofs.Ytbleidfkmdbhgaa.bearerOnceLaw
open Go Go.Eng Go.ChangeShapes Go.WideShapes Go.ChangeAt Go.RowKit
set_option linter.unusedVariables false

theorem own : ownKnob Try.prog.godebug = none := by kernel_rfl

set_option maxRecDepth 100000 in
theorem lifted (os : Os) (started : os.Started) (H : Type) (enc : TypeId × Value → H) :
    ReturnsInHanded {} Try.checked os 4 .any (Rows.bearerOnceSpec.pre6 enc Try.prog Try.f4 Rows.bearerOnceRow.domain false) (Rows.bearerOnceSpec.post enc Try.prog Try.f4 false true false false) := by
  refine returnsInHanded_of_change (C := Try.checked) own started (by kernel_rfl) Try.func4
    (ChangeSpec.witness6 (enc := enc) (C := Try.checked) false ⟨#[], #[.slice none 0 0, .slice none 0 0], []⟩ 8 (by kernel_rfl) (by kernel_rfl) (by kernel_rfl) (by kernel_rfl)) ?_
  intro W base args ds gs before hval hW _ _
  refine law_row (P := Try.prog) (ts := [22, 23]) (gsT := [(.sl G35), (.sl G26)]) (tb := 4) (by kernel_rfl) (by kernel_rfl) Try.underlying4 (by kernel_rfl) (by kernel_rfl) (by kernel_rfl) rfl ?_ ?_ hval hW
  · rintro xs ⟨d0, r0, rfl, _, d1, r1, rfl, _, rfl⟩
    rfl
  · intro xs hwf _ _ vals hr
    exact law_walk (E := E4) ok4 ord lm4 Try.func4 ((q4 xs).trans (bearerOnce xs.1 xs.2.1)) hr

theorem proved : Rows.BearerOnceSaid :=
  OpenClaim.holds_of_wide 4 Try.f4 rfl rfl rfl rfl rfl rfl rfl ⟨rfl, rfl, rfl, rfl, rfl⟩ rfl rfl rfl rfl rfl (by kernel_rfl) Try.func4 (by kernel_rfl)
    (of_decide_eq_true (by kernel_rfl)) (by unfold Func.isWrapper; first | (rw [if_pos (by decide +kernel)]; kernel_rfl) | (rw [if_neg (by decide +kernel)]; exact ⟨rfl, rfl⟩))
    (fun os started H enc _ => lifted os started H enc)
#print axioms proved
end Go.Proofs.Ytbleidfkmdbhgaa.bearerOnceLaw
