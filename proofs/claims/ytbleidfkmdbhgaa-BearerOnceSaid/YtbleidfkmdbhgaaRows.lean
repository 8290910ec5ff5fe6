/-
  No cell of these rows narrows 'for every input' (looked for: loops, veiled, ifaces, maps, wideKeys, modest, calm, conditions, laid).
  DERIVED. THE GIVEN ROWS OF THIS SEAT. 4 by the template 'for every input the law returns true; each argument reads behind the call as it read before'; 0 by the template 'total and deterministic' (their statements: YtbleidfkmdbhgaaTotals.lean).
  GIVEN WITH THE SEED: the statements are not yours to turn. If you find one false, say at which input.
  Laid BY PROGRAM, IN A SANDBOX (cutbox-rows.mjs): the forced cells as the released guide's own fill.sh prints them over the translation 3c99dc4df6897969… (all of the seat's roots in one cut). By AI agents, Wed Nov 11 2026. No macro, syntax, notation, axiom, sorry.
-/
import Derived.Test.YtbleidfkmdbhgaaChecked
import GoSem.Claim
import GoSem.ClaimJoined
import GoSem.ClaimMapViews
import Derived.JoinedTies
import Derived.KernelRfl
namespace Go.Proofs.Ytbleidfkmdbhgaa
/- THE CELL 'sum', in the pinned program and in every row, IS THE sha256 OF THE DUMP (.gsa) THAT YtbleidfkmdbhgaaProg.lean LOADS. Nothing in Lean hashes anything: it is a label: what it is worth is what the hold of that sum in a sandbox is worth. -/
noncomputable def Try.pinned : Pinned := { name := "ytbleidfkmdbhgaa", sum := "3c99dc4df68979691e7cdcf68d3af9f369c48c58a23a7c26dabf49bb21c3da9b", checked := Try.checked }
namespace Rows
def none {H : Type} : Left H := { results := [], args := [] }

/-- 'consollaw31.BearerTells': WHATEVER THE INPUT: true; the input reads as it did. -/
def bearerTellsSpec : ChangeSpec := { name := "bearerTells", fn := fun _ => fun
  | [d1, d2, d3, d4] => { results := [.lit (.bool true)], args := [d1, d2, d3, d4] }
  | _ => none }
def bearerTellsRow : OpenClaim := { program := "ytbleidfkmdbhgaa", sum := "3c99dc4df68979691e7cdcf68d3af9f369c48c58a23a7c26dabf49bb21c3da9b", func := "consol/consollaw31.BearerTells", spec := "bearerTells", unfollowed := true, recurses := true, apart := false }
def BearerTellsSaid : Prop := bearerTellsRow.holds Try.pinned (OpenSpec.ofChange bearerTellsSpec)

/-- ITS FALSE NEIGHBOUR: 'it returns false'. Refute it at one input. -/
def bearerTellsWrong : ChangeSpec := { name := "bearerTells", fn := fun _ => fun
  | [d1, d2, d3, d4] => { results := [.lit (.bool false)], args := [d1, d2, d3, d4] }
  | _ => none }
def BearerTellsWrongFalsely : Prop := bearerTellsRow.holds Try.pinned (OpenSpec.ofChange bearerTellsWrong)

/-- 'consollaw31.BearerOnce': WHATEVER THE INPUT: true; the input reads as it did. -/
def bearerOnceSpec : ChangeSpec := { name := "bearerOnce", fn := fun _ => fun
  | [d1, d2] => { results := [.lit (.bool true)], args := [d1, d2] }
  | _ => none }
def bearerOnceRow : OpenClaim := { program := "ytbleidfkmdbhgaa", sum := "3c99dc4df68979691e7cdcf68d3af9f369c48c58a23a7c26dabf49bb21c3da9b", func := "consol/consollaw31.BearerOnce", spec := "bearerOnce", unfollowed := true, recurses := true, apart := false }
def BearerOnceSaid : Prop := bearerOnceRow.holds Try.pinned (OpenSpec.ofChange bearerOnceSpec)

/-- ITS FALSE NEIGHBOUR: 'it returns false'. Refute it at one input. -/
def bearerOnceWrong : ChangeSpec := { name := "bearerOnce", fn := fun _ => fun
  | [d1, d2] => { results := [.lit (.bool false)], args := [d1, d2] }
  | _ => none }
def BearerOnceWrongFalsely : Prop := bearerOnceRow.holds Try.pinned (OpenSpec.ofChange bearerOnceWrong)

/-- 'consollaw31.BearerLost': WHATEVER THE INPUT: true; the input reads as it did. -/
def bearerLostSpec : ChangeSpec := { name := "bearerLost", fn := fun _ => fun
  | [d1, d2, d3, d4, d5, d6, d7] => { results := [.lit (.bool true)], args := [d1, d2, d3, d4, d5, d6, d7] }
  | _ => none }
def bearerLostRow : OpenClaim := { program := "ytbleidfkmdbhgaa", sum := "3c99dc4df68979691e7cdcf68d3af9f369c48c58a23a7c26dabf49bb21c3da9b", func := "consol/consollaw31.BearerLost", spec := "bearerLost", unfollowed := true, recurses := true, apart := false }
def BearerLostSaid : Prop := bearerLostRow.holds Try.pinned (OpenSpec.ofChange bearerLostSpec)

/-- ITS FALSE NEIGHBOUR: 'it returns false'. Refute it at one input. -/
def bearerLostWrong : ChangeSpec := { name := "bearerLost", fn := fun _ => fun
  | [d1, d2, d3, d4, d5, d6, d7] => { results := [.lit (.bool false)], args := [d1, d2, d3, d4, d5, d6, d7] }
  | _ => none }
def BearerLostWrongFalsely : Prop := bearerLostRow.holds Try.pinned (OpenSpec.ofChange bearerLostWrong)

/-- 'consollaw31.BearerApart': WHATEVER THE INPUT: true; the input reads as it did. -/
def bearerApartSpec : ChangeSpec := { name := "bearerApart", fn := fun _ => fun
  | [d1, d2, d3] => { results := [.lit (.bool true)], args := [d1, d2, d3] }
  | _ => none }
def bearerApartRow : OpenClaim := { program := "ytbleidfkmdbhgaa", sum := "3c99dc4df68979691e7cdcf68d3af9f369c48c58a23a7c26dabf49bb21c3da9b", func := "consol/consollaw31.BearerApart", spec := "bearerApart", unfollowed := true, recurses := true, apart := false }
def BearerApartSaid : Prop := bearerApartRow.holds Try.pinned (OpenSpec.ofChange bearerApartSpec)

/-- ITS FALSE NEIGHBOUR: 'it returns false'. Refute it at one input. -/
def bearerApartWrong : ChangeSpec := { name := "bearerApart", fn := fun _ => fun
  | [d1, d2, d3] => { results := [.lit (.bool false)], args := [d1, d2, d3] }
  | _ => none }
def BearerApartWrongFalsely : Prop := bearerApartRow.holds Try.pinned (OpenSpec.ofChange bearerApartWrong)

/- THE SECOND FORM. 'bulk': how many values and letters a reading holds, each counted each time it is reached (what is shared counts as often as it is met; a slice's spare places count too). A statement '..UptoSaid' is the law's where the arguments, and the package variables that the reading takes, are together of bulk at most 1048576: NARROWER than '..Said'. Prove '..Said' where nothing that the law and all that it calls make is longer than what came in: it says more and counts as full. Else prove '..UptoSaid'. A law counts once. -/
mutual
def uptoBulk {H : Type} : DataW H → Nat
  | .lit (.string bytes) => bytes.length + 1
  | .lit _ => 1
  | .nil => 1
  | .ptr d => uptoBulk d + 1
  | .slice elems spare => uptoBulkAll elems + uptoBulkAll spare + 1
  | .agg parts => uptoBulkAll parts + 1
  | .iface _ d => uptoBulk d + 1
  | .map entries => uptoBulkEntries entries + 1
  | .held _ => 1
def uptoBulkAll {H : Type} : List (DataW H) → Nat
  | [] => 0
  | d :: r => uptoBulk d + uptoBulkAll r
def uptoBulkEntries {H : Type} : List (Lit × DataW H) → Nat
  | [] => 0
  | x :: r => uptoBulkEntry x + uptoBulkEntries r
def uptoBulkEntry {H : Type} : Lit × DataW H → Nat
  | (.string bytes, d) => bytes.length + uptoBulk d + 1
  | (_, d) => uptoBulk d + 1
 end
def uptoSmall : (H : Type) → List (DataW H) → Bool := fun _ ds => decide (uptoBulkAll ds ≤ 1048576)
def OpenSpec.upto (s : _root_.Go.ChangeSpec) : _root_.Go.OpenSpec := { _root_.Go.OpenSpec.ofChange s with cond := some uptoSmall }

/-- 'consollaw31.BearerTells', WHERE WHAT IT READS IS OF BULK AT MOST 1048576: true; the input reads as it did. -/
def bearerTellsUptoRow : OpenClaim := { program := "ytbleidfkmdbhgaa", sum := "3c99dc4df68979691e7cdcf68d3af9f369c48c58a23a7c26dabf49bb21c3da9b", func := "consol/consollaw31.BearerTells", spec := "bearerTells", unfollowed := true, recurses := true, apart := false, narrowed := true }
def BearerTellsUptoSaid : Prop := bearerTellsUptoRow.holds Try.pinned (OpenSpec.upto bearerTellsSpec)

/-- 'consollaw31.BearerOnce', WHERE WHAT IT READS IS OF BULK AT MOST 1048576: true; the input reads as it did. -/
def bearerOnceUptoRow : OpenClaim := { program := "ytbleidfkmdbhgaa", sum := "3c99dc4df68979691e7cdcf68d3af9f369c48c58a23a7c26dabf49bb21c3da9b", func := "consol/consollaw31.BearerOnce", spec := "bearerOnce", unfollowed := true, recurses := true, apart := false, narrowed := true }
def BearerOnceUptoSaid : Prop := bearerOnceUptoRow.holds Try.pinned (OpenSpec.upto bearerOnceSpec)

/-- 'consollaw31.BearerLost', WHERE WHAT IT READS IS OF BULK AT MOST 1048576: true; the input reads as it did. -/
def bearerLostUptoRow : OpenClaim := { program := "ytbleidfkmdbhgaa", sum := "3c99dc4df68979691e7cdcf68d3af9f369c48c58a23a7c26dabf49bb21c3da9b", func := "consol/consollaw31.BearerLost", spec := "bearerLost", unfollowed := true, recurses := true, apart := false, narrowed := true }
def BearerLostUptoSaid : Prop := bearerLostUptoRow.holds Try.pinned (OpenSpec.upto bearerLostSpec)

/-- 'consollaw31.BearerApart', WHERE WHAT IT READS IS OF BULK AT MOST 1048576: true; the input reads as it did. -/
def bearerApartUptoRow : OpenClaim := { program := "ytbleidfkmdbhgaa", sum := "3c99dc4df68979691e7cdcf68d3af9f369c48c58a23a7c26dabf49bb21c3da9b", func := "consol/consollaw31.BearerApart", spec := "bearerApart", unfollowed := true, recurses := true, apart := false, narrowed := true }
def BearerApartUptoSaid : Prop := bearerApartUptoRow.holds Try.pinned (OpenSpec.upto bearerApartSpec)

end Rows
end Go.Proofs.Ytbleidfkmdbhgaa
