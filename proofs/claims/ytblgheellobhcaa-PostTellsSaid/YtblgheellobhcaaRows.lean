/-
  No cell of these rows narrows 'for every input' (looked for: loops, veiled, ifaces, maps, wideKeys, modest, calm, conditions, laid).
  DERIVED. THE GIVEN ROWS OF THIS SEAT. 4 by the template 'for every input the law returns true; each argument reads behind the call as it read before'; 0 by the template 'total and deterministic' (their statements: YtblgheellobhcaaTotals.lean).
  GIVEN WITH THE SEED: the statements are not yours to turn. If you find one false, say at which input.
  Laid BY PROGRAM, IN A SANDBOX (cutbox-rows.mjs): the forced cells as the released guide's own fill.sh prints them over the translation baa6d6c37e57faa3… (all of the seat's roots in one cut). By AI agents, Wed Nov 11 2026. No macro, syntax, notation, axiom, sorry.
-/
import Derived.Test.YtblgheellobhcaaChecked
import GoSem.Claim
import GoSem.ClaimJoined
import GoSem.ClaimMapViews
import Derived.JoinedTies
import Derived.KernelRfl
namespace Go.Proofs.Ytblgheellobhcaa
/- THE CELL 'sum', in the pinned program and in every row, IS THE sha256 OF THE DUMP (.gsa) THAT YtblgheellobhcaaProg.lean LOADS. Nothing in Lean hashes anything: it is a label: what it is worth is what the hold of that sum in a sandbox is worth. -/
noncomputable def Try.pinned : Pinned := { name := "ytblgheellobhcaa", sum := "baa6d6c37e57faa3bfc726019ee8494bd124046eb191f6b48935d4ca7ad12fda", checked := Try.checked }
namespace Rows
def none {H : Type} : Left H := { results := [], args := [] }

/-- 'consollaw43.PostTells': WHATEVER THE INPUT: true; the input reads as it did. -/
def postTellsSpec : ChangeSpec := { name := "postTells", fn := fun _ => fun
  | [d1, d2, d3, d4] => { results := [.lit (.bool true)], args := [d1, d2, d3, d4] }
  | _ => none }
def postTellsRow : OpenClaim := { program := "ytblgheellobhcaa", sum := "baa6d6c37e57faa3bfc726019ee8494bd124046eb191f6b48935d4ca7ad12fda", func := "consol/consollaw43.PostTells", spec := "postTells", inPlace := ["slices.overlaps[int]"], apart := false }
def PostTellsSaid : Prop := postTellsRow.holds Try.pinned (OpenSpec.ofChange postTellsSpec)

/-- ITS FALSE NEIGHBOUR: 'it returns false'. Refute it at one input. -/
def postTellsWrong : ChangeSpec := { name := "postTells", fn := fun _ => fun
  | [d1, d2, d3, d4] => { results := [.lit (.bool false)], args := [d1, d2, d3, d4] }
  | _ => none }
def PostTellsWrongFalsely : Prop := postTellsRow.holds Try.pinned (OpenSpec.ofChange postTellsWrong)

/-- 'consollaw43.PostOnce': WHATEVER THE INPUT: true; the input reads as it did. -/
def postOnceSpec : ChangeSpec := { name := "postOnce", fn := fun _ => fun
  | [d] => { results := [.lit (.bool true)], args := [d] }
  | _ => none }
def postOnceRow : OpenClaim := { program := "ytblgheellobhcaa", sum := "baa6d6c37e57faa3bfc726019ee8494bd124046eb191f6b48935d4ca7ad12fda", func := "consol/consollaw43.PostOnce", spec := "postOnce", inPlace := ["slices.overlaps[int]"], apart := false }
def PostOnceSaid : Prop := postOnceRow.holds Try.pinned (OpenSpec.ofChange postOnceSpec)

/-- ITS FALSE NEIGHBOUR: 'it returns false'. Refute it at one input. -/
def postOnceWrong : ChangeSpec := { name := "postOnce", fn := fun _ => fun
  | [d] => { results := [.lit (.bool false)], args := [d] }
  | _ => none }
def PostOnceWrongFalsely : Prop := postOnceRow.holds Try.pinned (OpenSpec.ofChange postOnceWrong)

/-- 'consollaw43.PostAgain': WHATEVER THE INPUT: true; the input reads as it did. -/
def postAgainSpec : ChangeSpec := { name := "postAgain", fn := fun _ => fun
  | [d1, d2] => { results := [.lit (.bool true)], args := [d1, d2] }
  | _ => none }
def postAgainRow : OpenClaim := { program := "ytblgheellobhcaa", sum := "baa6d6c37e57faa3bfc726019ee8494bd124046eb191f6b48935d4ca7ad12fda", func := "consol/consollaw43.PostAgain", spec := "postAgain", inPlace := ["slices.overlaps[int]"], apart := false }
def PostAgainSaid : Prop := postAgainRow.holds Try.pinned (OpenSpec.ofChange postAgainSpec)

/-- ITS FALSE NEIGHBOUR: 'it returns false'. Refute it at one input. -/
def postAgainWrong : ChangeSpec := { name := "postAgain", fn := fun _ => fun
  | [d1, d2] => { results := [.lit (.bool false)], args := [d1, d2] }
  | _ => none }
def PostAgainWrongFalsely : Prop := postAgainRow.holds Try.pinned (OpenSpec.ofChange postAgainWrong)

/-- 'consollaw43.PostLater': WHATEVER THE INPUT: true; the input reads as it did. -/
def postLaterSpec : ChangeSpec := { name := "postLater", fn := fun _ => fun
  | [d1, d2, d3] => { results := [.lit (.bool true)], args := [d1, d2, d3] }
  | _ => none }
def postLaterRow : OpenClaim := { program := "ytblgheellobhcaa", sum := "baa6d6c37e57faa3bfc726019ee8494bd124046eb191f6b48935d4ca7ad12fda", func := "consol/consollaw43.PostLater", spec := "postLater", inPlace := ["slices.overlaps[int]"], apart := false }
def PostLaterSaid : Prop := postLaterRow.holds Try.pinned (OpenSpec.ofChange postLaterSpec)

/-- ITS FALSE NEIGHBOUR: 'it returns false'. Refute it at one input. -/
def postLaterWrong : ChangeSpec := { name := "postLater", fn := fun _ => fun
  | [d1, d2, d3] => { results := [.lit (.bool false)], args := [d1, d2, d3] }
  | _ => none }
def PostLaterWrongFalsely : Prop := postLaterRow.holds Try.pinned (OpenSpec.ofChange postLaterWrong)

/- THE SECOND FORM. 'bulk': how many values and letters a reading holds, each counted each time it is reached (what is shared counts as often as it is met; a slice's spare places count too). A statement '..UptoSaid' is the law's where the arguments, and the package variables that the reading takes, are together of bulk at most 1048576: NARROWER than '..Said'. Prove '..Said' where nothing that the law and all that it calls make is longer than what came in: it says more and counts as full. Else prove '..UptoSaid'. A law counts once. -/
mutual
def uptoBulk {H : Type} : DataW H → Nat
  | .lit (.string bytes) => bytes.length + 1
  | .lit _ => 1
  | .nil => 1
  | .ptr d => uptoBulk d + 1
  | .slice elems spare => uptoBulkAll elems + uptoBulkAll spare + 1
  | .agg parts => uptoBulkAll parts + 1
  | .iface _ d => uptoBulk d + 1
  | .map entries => uptoBulkEntries entries + 1
  | .held _ => 1
def uptoBulkAll {H : Type} : List (DataW H) → Nat
  | [] => 0
  | d :: r => uptoBulk d + uptoBulkAll r
def uptoBulkEntries {H : Type} : List (Lit × DataW H) → Nat
  | [] => 0
  | x :: r => uptoBulkEntry x + uptoBulkEntries r
def uptoBulkEntry {H : Type} : Lit × DataW H → Nat
  | (.string bytes, d) => bytes.length + uptoBulk d + 1
  | (_, d) => uptoBulk d + 1
 end
def uptoSmall : (H : Type) → List (DataW H) → Bool := fun _ ds => decide (uptoBulkAll ds ≤ 1048576)
def OpenSpec.upto (s : _root_.Go.ChangeSpec) : _root_.Go.OpenSpec := { _root_.Go.OpenSpec.ofChange s with cond := some uptoSmall }

/-- 'consollaw43.PostTells', WHERE WHAT IT READS IS OF BULK AT MOST 1048576: true; the input reads as it did. -/
def postTellsUptoRow : OpenClaim := { program := "ytblgheellobhcaa", sum := "baa6d6c37e57faa3bfc726019ee8494bd124046eb191f6b48935d4ca7ad12fda", func := "consol/consollaw43.PostTells", spec := "postTells", inPlace := ["slices.overlaps[int]"], apart := false, narrowed := true }
def PostTellsUptoSaid : Prop := postTellsUptoRow.holds Try.pinned (OpenSpec.upto postTellsSpec)

/-- 'consollaw43.PostOnce', WHERE WHAT IT READS IS OF BULK AT MOST 1048576: true; the input reads as it did. -/
def postOnceUptoRow : OpenClaim := { program := "ytblgheellobhcaa", sum := "baa6d6c37e57faa3bfc726019ee8494bd124046eb191f6b48935d4ca7ad12fda", func := "consol/consollaw43.PostOnce", spec := "postOnce", inPlace := ["slices.overlaps[int]"], apart := false, narrowed := true }
def PostOnceUptoSaid : Prop := postOnceUptoRow.holds Try.pinned (OpenSpec.upto postOnceSpec)

/-- 'consollaw43.PostAgain', WHERE WHAT IT READS IS OF BULK AT MOST 1048576: true; the input reads as it did. -/
def postAgainUptoRow : OpenClaim := { program := "ytblgheellobhcaa", sum := "baa6d6c37e57faa3bfc726019ee8494bd124046eb191f6b48935d4ca7ad12fda", func := "consol/consollaw43.PostAgain", spec := "postAgain", inPlace := ["slices.overlaps[int]"], apart := false, narrowed := true }
def PostAgainUptoSaid : Prop := postAgainUptoRow.holds Try.pinned (OpenSpec.upto postAgainSpec)

/-- 'consollaw43.PostLater', WHERE WHAT IT READS IS OF BULK AT MOST 1048576: true; the input reads as it did. -/
def postLaterUptoRow : OpenClaim := { program := "ytblgheellobhcaa", sum := "baa6d6c37e57faa3bfc726019ee8494bd124046eb191f6b48935d4ca7ad12fda", func := "consol/consollaw43.PostLater", spec := "postLater", inPlace := ["slices.overlaps[int]"], apart := false, narrowed := true }
def PostLaterUptoSaid : Prop := postLaterUptoRow.holds Try.pinned (OpenSpec.upto postLaterSpec)

end Rows
end Go.Proofs.Ytblgheellobhcaa
