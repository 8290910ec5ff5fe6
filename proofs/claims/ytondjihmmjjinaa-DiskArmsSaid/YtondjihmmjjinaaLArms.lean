/- DiskArms holds for every input. -/
import Derived.Test.YtondjihmmjjinaaT35
import Derived.Test.YtondjihmmjjinaaRows
namespace Go.Proofs.Ytondjihmmjjinaa.diskArmsLaw
open Go Go.Eng Go.ChangeShapes Go.WideShapes Go.ChangeAt Go.RowKit
set_option linter.unusedVariables false

theorem own : ownKnob Try.prog.godebug = none := by kernel_rfl

set_option maxRecDepth 100000 in
theorem lifted (os : Os) (started : os.Started) (H : Type) (enc : TypeId × Value → H) :
    ReturnsInHanded {} Try.checked os 6 .any (Rows.diskArmsSpec.pre6 enc Try.prog Try.f6 Rows.diskArmsRow.domain false) (Rows.diskArmsSpec.post enc Try.prog Try.f6 false true false false) := by
  refine returnsInHanded_of_change (C := Try.checked) own started (by kernel_rfl) Try.func6
    (ChangeSpec.witness6 (enc := enc) (C := Try.checked) false ⟨#[], #[.slice none 0 0, .int .i64 0, .slice none 0 0], []⟩ 8 (by kernel_rfl) (by kernel_rfl) (by kernel_rfl) (by kernel_rfl)) ?_
  intro W base args ds gs before hval hW _ _
  refine law_row (P := Try.prog) (ts := [22, 3, 31]) (gsT := [(.sl G32), (.int .i64), (.sl (.int .i64))]) (tb := 4) (by kernel_rfl) (by kernel_rfl) Try.underlying4 (by kernel_rfl) (by kernel_rfl) (by kernel_rfl) rfl ?_ ?_ hval hW
  · rintro xs ⟨d0, r0, rfl, _, d1, r1, rfl, _, d2, r2, rfl, _, rfl⟩
    rfl
  · intro xs hwf _ _ vals hr
    exact law_walk (E := E6) ok6 ord lm6 Try.func6 ((q6 xs).trans (diskArms xs.1 xs.2.1 xs.2.2.1 (wf_acts hwf.1).1 (wf_acts hwf.1).2)) hr

theorem proved : Rows.DiskArmsSaid :=
  OpenClaim.holds_of_wide 6 Try.f6 rfl rfl rfl rfl rfl rfl rfl ⟨rfl, rfl, rfl, rfl, rfl⟩ rfl rfl rfl rfl rfl (by kernel_rfl) Try.func6 (by kernel_rfl)
    (of_decide_eq_true (by kernel_rfl)) (by unfold Func.isWrapper; first | (rw [if_pos (by decide +kernel)]; kernel_rfl) | (rw [if_neg (by decide +kernel)]; exact ⟨rfl, rfl⟩))
    (fun os started H enc _ => lifted os started H enc)
#print axioms proved
end Go.Proofs.Ytondjihmmjjinaa.diskArmsLaw
