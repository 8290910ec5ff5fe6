/-
  NARROWER THAN 'FOR EVERY INPUT', by the rows' own cells (each row's printed sentence says how): SchedTells: loops · SchedCovers: loops · SchedMonths: loops · SchedDue: loops · SchedCut: loops · SchedPays: loops.
  DERIVED. THE GIVEN ROWS OF THIS SEAT. 6 by the template 'for every input the law returns true; each argument reads behind the call as it read before'; 0 by the template 'total and deterministic' (their statements: YtophafggfmhooaaTotals.lean).
  GIVEN WITH THE SEED: the statements are not yours to turn. If you find one false, say at which input.
  Laid BY PROGRAM, IN A SANDBOX (cutbox-rows.mjs): the forced cells as the released guide's own fill.sh prints them over the translation 980d2a99e4e9b408… (all of the seat's roots in one cut). By AI agents, Wed Nov 11 2026. No macro, syntax, notation, axiom, sorry.
-/
import Derived.Test.YtophafggfmhooaaChecked
import GoSem.Claim
import GoSem.ClaimJoined
import GoSem.ClaimMapViews
import Derived.JoinedTies
import Derived.KernelRfl
namespace Go.Proofs.Ytophafggfmhooaa
/- THE CELL 'sum', in the pinned program and in every row, IS THE sha256 OF THE DUMP (.gsa) THAT YtophafggfmhooaaProg.lean LOADS. Nothing in Lean hashes anything: it is a label: what it is worth is what the hold of that sum in a sandbox is worth. -/
noncomputable def Try.pinned : Pinned := { name := "ytophafggfmhooaa", sum := "980d2a99e4e9b40896f1cee7aead0dc81d4e3625701e4cd8bfa8d78e689651a4", checked := Try.checked }
namespace Rows
def none {H : Type} : Left H := { results := [], args := [] }

/-- 'consollaw10.SchedTells': WHATEVER THE INPUT: true; the input reads as it did. -/
def schedTellsSpec : ChangeSpec := { name := "schedTells", fn := fun _ => fun
  | [d1, d2, d3, d4] => { results := [.lit (.bool true)], args := [d1, d2, d3, d4] }
  | _ => none }
def schedTellsRow : OpenClaim := { program := "ytophafggfmhooaa", sum := "980d2a99e4e9b40896f1cee7aead0dc81d4e3625701e4cd8bfa8d78e689651a4", func := "consol/consollaw10.SchedTells", spec := "schedTells", unfollowed := true, recurses := true, loops := true, apart := false }
def SchedTellsSaid : Prop := schedTellsRow.holds Try.pinned (OpenSpec.ofChange schedTellsSpec)

/-- ITS FALSE NEIGHBOUR: 'it returns false'. Refute it at one input. -/
def schedTellsWrong : ChangeSpec := { name := "schedTells", fn := fun _ => fun
  | [d1, d2, d3, d4] => { results := [.lit (.bool false)], args := [d1, d2, d3, d4] }
  | _ => none }
def SchedTellsWrongFalsely : Prop := schedTellsRow.holds Try.pinned (OpenSpec.ofChange schedTellsWrong)

/-- 'consollaw10.SchedCovers': WHATEVER THE INPUT: true; the input reads as it did. -/
def schedCoversSpec : ChangeSpec := { name := "schedCovers", fn := fun _ => fun
  | [d1, d2, d3] => { results := [.lit (.bool true)], args := [d1, d2, d3] }
  | _ => none }
def schedCoversRow : OpenClaim := { program := "ytophafggfmhooaa", sum := "980d2a99e4e9b40896f1cee7aead0dc81d4e3625701e4cd8bfa8d78e689651a4", func := "consol/consollaw10.SchedCovers", spec := "schedCovers", unfollowed := true, recurses := true, loops := true, apart := false }
def SchedCoversSaid : Prop := schedCoversRow.holds Try.pinned (OpenSpec.ofChange schedCoversSpec)

/-- ITS FALSE NEIGHBOUR: 'it returns false'. Refute it at one input. -/
def schedCoversWrong : ChangeSpec := { name := "schedCovers", fn := fun _ => fun
  | [d1, d2, d3] => { results := [.lit (.bool false)], args := [d1, d2, d3] }
  | _ => none }
def SchedCoversWrongFalsely : Prop := schedCoversRow.holds Try.pinned (OpenSpec.ofChange schedCoversWrong)

/-- 'consollaw10.SchedMonths': WHATEVER THE INPUT: true; the input reads as it did. -/
def schedMonthsSpec : ChangeSpec := { name := "schedMonths", fn := fun _ => fun
  | [d1, d2] => { results := [.lit (.bool true)], args := [d1, d2] }
  | _ => none }
def schedMonthsRow : OpenClaim := { program := "ytophafggfmhooaa", sum := "980d2a99e4e9b40896f1cee7aead0dc81d4e3625701e4cd8bfa8d78e689651a4", func := "consol/consollaw10.SchedMonths", spec := "schedMonths", unfollowed := true, recurses := true, loops := true, apart := false }
def SchedMonthsSaid : Prop := schedMonthsRow.holds Try.pinned (OpenSpec.ofChange schedMonthsSpec)

/-- ITS FALSE NEIGHBOUR: 'it returns false'. Refute it at one input. -/
def schedMonthsWrong : ChangeSpec := { name := "schedMonths", fn := fun _ => fun
  | [d1, d2] => { results := [.lit (.bool false)], args := [d1, d2] }
  | _ => none }
def SchedMonthsWrongFalsely : Prop := schedMonthsRow.holds Try.pinned (OpenSpec.ofChange schedMonthsWrong)

/-- 'consollaw10.SchedDue': WHATEVER THE INPUT: true; the input reads as it did. -/
def schedDueSpec : ChangeSpec := { name := "schedDue", fn := fun _ => fun
  | [d1, d2, d3] => { results := [.lit (.bool true)], args := [d1, d2, d3] }
  | _ => none }
def schedDueRow : OpenClaim := { program := "ytophafggfmhooaa", sum := "980d2a99e4e9b40896f1cee7aead0dc81d4e3625701e4cd8bfa8d78e689651a4", func := "consol/consollaw10.SchedDue", spec := "schedDue", unfollowed := true, recurses := true, loops := true, apart := false }
def SchedDueSaid : Prop := schedDueRow.holds Try.pinned (OpenSpec.ofChange schedDueSpec)

/-- ITS FALSE NEIGHBOUR: 'it returns false'. Refute it at one input. -/
def schedDueWrong : ChangeSpec := { name := "schedDue", fn := fun _ => fun
  | [d1, d2, d3] => { results := [.lit (.bool false)], args := [d1, d2, d3] }
  | _ => none }
def SchedDueWrongFalsely : Prop := schedDueRow.holds Try.pinned (OpenSpec.ofChange schedDueWrong)

/-- 'consollaw10.SchedCut': WHATEVER THE INPUT: true; the input reads as it did. -/
def schedCutSpec : ChangeSpec := { name := "schedCut", fn := fun _ => fun
  | [d1, d2, d3] => { results := [.lit (.bool true)], args := [d1, d2, d3] }
  | _ => none }
def schedCutRow : OpenClaim := { program := "ytophafggfmhooaa", sum := "980d2a99e4e9b40896f1cee7aead0dc81d4e3625701e4cd8bfa8d78e689651a4", func := "consol/consollaw10.SchedCut", spec := "schedCut", unfollowed := true, recurses := true, loops := true, apart := false }
def SchedCutSaid : Prop := schedCutRow.holds Try.pinned (OpenSpec.ofChange schedCutSpec)

/-- ITS FALSE NEIGHBOUR: 'it returns false'. Refute it at one input. -/
def schedCutWrong : ChangeSpec := { name := "schedCut", fn := fun _ => fun
  | [d1, d2, d3] => { results := [.lit (.bool false)], args := [d1, d2, d3] }
  | _ => none }
def SchedCutWrongFalsely : Prop := schedCutRow.holds Try.pinned (OpenSpec.ofChange schedCutWrong)

/-- 'consollaw10.SchedPays': WHATEVER THE INPUT: true; the input reads as it did. -/
def schedPaysSpec : ChangeSpec := { name := "schedPays", fn := fun _ => fun
  | [d1, d2] => { results := [.lit (.bool true)], args := [d1, d2] }
  | _ => none }
def schedPaysRow : OpenClaim := { program := "ytophafggfmhooaa", sum := "980d2a99e4e9b40896f1cee7aead0dc81d4e3625701e4cd8bfa8d78e689651a4", func := "consol/consollaw10.SchedPays", spec := "schedPays", unfollowed := true, recurses := true, loops := true, apart := false }
def SchedPaysSaid : Prop := schedPaysRow.holds Try.pinned (OpenSpec.ofChange schedPaysSpec)

/-- ITS FALSE NEIGHBOUR: 'it returns false'. Refute it at one input. -/
def schedPaysWrong : ChangeSpec := { name := "schedPays", fn := fun _ => fun
  | [d1, d2] => { results := [.lit (.bool false)], args := [d1, d2] }
  | _ => none }
def SchedPaysWrongFalsely : Prop := schedPaysRow.holds Try.pinned (OpenSpec.ofChange schedPaysWrong)

/- THE SECOND FORM. 'bulk': how many values and letters a reading holds, each counted each time it is reached (what is shared counts as often as it is met; a slice's spare places count too). A statement '..UptoSaid' is the law's where the arguments, and the package variables that the reading takes, are together of bulk at most 1048576: NARROWER than '..Said'. Prove '..Said' where nothing that the law and all that it calls make is longer than what came in: it says more and counts as full. Else prove '..UptoSaid'. A law counts once. -/
mutual
def uptoBulk {H : Type} : DataW H → Nat
  | .lit (.string bytes) => bytes.length + 1
  | .lit _ => 1
  | .nil => 1
  | .ptr d => uptoBulk d + 1
  | .slice elems spare => uptoBulkAll elems + uptoBulkAll spare + 1
  | .agg parts => uptoBulkAll parts + 1
  | .iface _ d => uptoBulk d + 1
  | .map entries => uptoBulkEntries entries + 1
  | .held _ => 1
def uptoBulkAll {H : Type} : List (DataW H) → Nat
  | [] => 0
  | d :: r => uptoBulk d + uptoBulkAll r
def uptoBulkEntries {H : Type} : List (Lit × DataW H) → Nat
  | [] => 0
  | x :: r => uptoBulkEntry x + uptoBulkEntries r
def uptoBulkEntry {H : Type} : Lit × DataW H → Nat
  | (.string bytes, d) => bytes.length + uptoBulk d + 1
  | (_, d) => uptoBulk d + 1
 end
def uptoSmall : (H : Type) → List (DataW H) → Bool := fun _ ds => decide (uptoBulkAll ds ≤ 1048576)
def OpenSpec.upto (s : _root_.Go.ChangeSpec) : _root_.Go.OpenSpec := { _root_.Go.OpenSpec.ofChange s with cond := some uptoSmall }

/-- 'consollaw10.SchedTells', WHERE WHAT IT READS IS OF BULK AT MOST 1048576: true; the input reads as it did. -/
def schedTellsUptoRow : OpenClaim := { program := "ytophafggfmhooaa", sum := "980d2a99e4e9b40896f1cee7aead0dc81d4e3625701e4cd8bfa8d78e689651a4", func := "consol/consollaw10.SchedTells", spec := "schedTells", unfollowed := true, recurses := true, loops := true, apart := false, narrowed := true }
def SchedTellsUptoSaid : Prop := schedTellsUptoRow.holds Try.pinned (OpenSpec.upto schedTellsSpec)

/-- 'consollaw10.SchedCovers', WHERE WHAT IT READS IS OF BULK AT MOST 1048576: true; the input reads as it did. -/
def schedCoversUptoRow : OpenClaim := { program := "ytophafggfmhooaa", sum := "980d2a99e4e9b40896f1cee7aead0dc81d4e3625701e4cd8bfa8d78e689651a4", func := "consol/consollaw10.SchedCovers", spec := "schedCovers", unfollowed := true, recurses := true, loops := true, apart := false, narrowed := true }
def SchedCoversUptoSaid : Prop := schedCoversUptoRow.holds Try.pinned (OpenSpec.upto schedCoversSpec)

/-- 'consollaw10.SchedMonths', WHERE WHAT IT READS IS OF BULK AT MOST 1048576: true; the input reads as it did. -/
def schedMonthsUptoRow : OpenClaim := { program := "ytophafggfmhooaa", sum := "980d2a99e4e9b40896f1cee7aead0dc81d4e3625701e4cd8bfa8d78e689651a4", func := "consol/consollaw10.SchedMonths", spec := "schedMonths", unfollowed := true, recurses := true, loops := true, apart := false, narrowed := true }
def SchedMonthsUptoSaid : Prop := schedMonthsUptoRow.holds Try.pinned (OpenSpec.upto schedMonthsSpec)

/-- 'consollaw10.SchedDue', WHERE WHAT IT READS IS OF BULK AT MOST 1048576: true; the input reads as it did. -/
def schedDueUptoRow : OpenClaim := { program := "ytophafggfmhooaa", sum := "980d2a99e4e9b40896f1cee7aead0dc81d4e3625701e4cd8bfa8d78e689651a4", func := "consol/consollaw10.SchedDue", spec := "schedDue", unfollowed := true, recurses := true, loops := true, apart := false, narrowed := true }
def SchedDueUptoSaid : Prop := schedDueUptoRow.holds Try.pinned (OpenSpec.upto schedDueSpec)

/-- 'consollaw10.SchedCut', WHERE WHAT IT READS IS OF BULK AT MOST 1048576: true; the input reads as it did. -/
def schedCutUptoRow : OpenClaim := { program := "ytophafggfmhooaa", sum := "980d2a99e4e9b40896f1cee7aead0dc81d4e3625701e4cd8bfa8d78e689651a4", func := "consol/consollaw10.SchedCut", spec := "schedCut", unfollowed := true, recurses := true, loops := true, apart := false, narrowed := true }
def SchedCutUptoSaid : Prop := schedCutUptoRow.holds Try.pinned (OpenSpec.upto schedCutSpec)

/-- 'consollaw10.SchedPays', WHERE WHAT IT READS IS OF BULK AT MOST 1048576: true; the input reads as it did. -/
def schedPaysUptoRow : OpenClaim := { program := "ytophafggfmhooaa", sum := "980d2a99e4e9b40896f1cee7aead0dc81d4e3625701e4cd8bfa8d78e689651a4", func := "consol/consollaw10.SchedPays", spec := "schedPays", unfollowed := true, recurses := true, loops := true, apart := false, narrowed := true }
def SchedPaysUptoSaid : Prop := schedPaysUptoRow.holds Try.pinned (OpenSpec.upto schedPaysSpec)

end Rows
end Go.Proofs.Ytophafggfmhooaa
