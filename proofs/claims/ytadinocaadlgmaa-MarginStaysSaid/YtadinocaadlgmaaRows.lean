/-
  No cell of these rows narrows 'for every input' (looked for: loops, veiled, ifaces, maps, wideKeys, modest, calm, conditions, laid).
  DERIVED. THE GIVEN ROWS OF THIS SEAT. 4 by the template 'for every input the law returns true; each argument reads behind the call as it read before'; 0 by the template 'total and deterministic' (their statements: YtadinocaadlgmaaTotals.lean).
  GIVEN WITH THE SEED: the statements are not yours to turn. If you find one false, say at which input.
  Laid BY PROGRAM, IN A SANDBOX (cutbox-rows.mjs): the forced cells as the released guide's own fill.sh prints them over the translation c7b6c4c1bc3e2b7d… (all of the seat's roots in one cut). By AI agents, Wed Nov 11 2026. No macro, syntax, notation, axiom, sorry.
-/
import Derived.Test.YtadinocaadlgmaaChecked
import GoSem.Claim
import GoSem.ClaimJoined
import GoSem.ClaimMapViews
import Derived.JoinedTies
import Derived.KernelRfl
namespace Go.Proofs.Ytadinocaadlgmaa
/- THE CELL 'sum', in the pinned program and in every row, IS THE sha256 OF THE DUMP (.gsa) THAT YtadinocaadlgmaaProg.lean LOADS. Nothing in Lean hashes anything: it is a label: what it is worth is what the hold of that sum in a sandbox is worth. -/
noncomputable def Try.pinned : Pinned := { name := "ytadinocaadlgmaa", sum := "c7b6c4c1bc3e2b7d7bc57801eb12ac3ac6494f438275da9be2507b1fa88d31e0", checked := Try.checked }
namespace Rows
def none {H : Type} : Left H := { results := [], args := [] }

/-- 'consollaw41.MarginTells': WHATEVER THE INPUT: true; the input reads as it did. -/
def marginTellsSpec : ChangeSpec := { name := "marginTells", fn := fun _ => fun
  | [d1, d2, d3, d4, d5] => { results := [.lit (.bool true)], args := [d1, d2, d3, d4, d5] }
  | _ => none }
def marginTellsRow : OpenClaim := { program := "ytadinocaadlgmaa", sum := "c7b6c4c1bc3e2b7d7bc57801eb12ac3ac6494f438275da9be2507b1fa88d31e0", func := "consol/consollaw41.MarginTells", spec := "marginTells", unfollowed := true, recurses := true, apart := false }
def MarginTellsSaid : Prop := marginTellsRow.holds Try.pinned (OpenSpec.ofChange marginTellsSpec)

/-- ITS FALSE NEIGHBOUR: 'it returns false'. Refute it at one input. -/
def marginTellsWrong : ChangeSpec := { name := "marginTells", fn := fun _ => fun
  | [d1, d2, d3, d4, d5] => { results := [.lit (.bool false)], args := [d1, d2, d3, d4, d5] }
  | _ => none }
def MarginTellsWrongFalsely : Prop := marginTellsRow.holds Try.pinned (OpenSpec.ofChange marginTellsWrong)

/-- 'consollaw41.MarginSpan': WHATEVER THE INPUT: true; the input reads as it did. -/
def marginSpanSpec : ChangeSpec := { name := "marginSpan", fn := fun _ => fun
  | [d1, d2, d3, d4, d5] => { results := [.lit (.bool true)], args := [d1, d2, d3, d4, d5] }
  | _ => none }
def marginSpanRow : OpenClaim := { program := "ytadinocaadlgmaa", sum := "c7b6c4c1bc3e2b7d7bc57801eb12ac3ac6494f438275da9be2507b1fa88d31e0", func := "consol/consollaw41.MarginSpan", spec := "marginSpan", unfollowed := true, recurses := true, apart := false }
def MarginSpanSaid : Prop := marginSpanRow.holds Try.pinned (OpenSpec.ofChange marginSpanSpec)

/-- ITS FALSE NEIGHBOUR: 'it returns false'. Refute it at one input. -/
def marginSpanWrong : ChangeSpec := { name := "marginSpan", fn := fun _ => fun
  | [d1, d2, d3, d4, d5] => { results := [.lit (.bool false)], args := [d1, d2, d3, d4, d5] }
  | _ => none }
def MarginSpanWrongFalsely : Prop := marginSpanRow.holds Try.pinned (OpenSpec.ofChange marginSpanWrong)

/-- 'consollaw41.MarginChosen': WHATEVER THE INPUT: true; the input reads as it did. -/
def marginChosenSpec : ChangeSpec := { name := "marginChosen", fn := fun _ => fun
  | [d1, d2, d3, d4] => { results := [.lit (.bool true)], args := [d1, d2, d3, d4] }
  | _ => none }
def marginChosenRow : OpenClaim := { program := "ytadinocaadlgmaa", sum := "c7b6c4c1bc3e2b7d7bc57801eb12ac3ac6494f438275da9be2507b1fa88d31e0", func := "consol/consollaw41.MarginChosen", spec := "marginChosen", unfollowed := true, recurses := true, apart := false }
def MarginChosenSaid : Prop := marginChosenRow.holds Try.pinned (OpenSpec.ofChange marginChosenSpec)

/-- ITS FALSE NEIGHBOUR: 'it returns false'. Refute it at one input. -/
def marginChosenWrong : ChangeSpec := { name := "marginChosen", fn := fun _ => fun
  | [d1, d2, d3, d4] => { results := [.lit (.bool false)], args := [d1, d2, d3, d4] }
  | _ => none }
def MarginChosenWrongFalsely : Prop := marginChosenRow.holds Try.pinned (OpenSpec.ofChange marginChosenWrong)

/-- 'consollaw41.MarginStays': WHATEVER THE INPUT: true; the input reads as it did. -/
def marginStaysSpec : ChangeSpec := { name := "marginStays", fn := fun _ => fun
  | [d1, d2, d3] => { results := [.lit (.bool true)], args := [d1, d2, d3] }
  | _ => none }
def marginStaysRow : OpenClaim := { program := "ytadinocaadlgmaa", sum := "c7b6c4c1bc3e2b7d7bc57801eb12ac3ac6494f438275da9be2507b1fa88d31e0", func := "consol/consollaw41.MarginStays", spec := "marginStays", unfollowed := true, recurses := true, apart := false }
def MarginStaysSaid : Prop := marginStaysRow.holds Try.pinned (OpenSpec.ofChange marginStaysSpec)

/-- ITS FALSE NEIGHBOUR: 'it returns false'. Refute it at one input. -/
def marginStaysWrong : ChangeSpec := { name := "marginStays", fn := fun _ => fun
  | [d1, d2, d3] => { results := [.lit (.bool false)], args := [d1, d2, d3] }
  | _ => none }
def MarginStaysWrongFalsely : Prop := marginStaysRow.holds Try.pinned (OpenSpec.ofChange marginStaysWrong)

/- THE SECOND FORM. 'bulk': how many values and letters a reading holds, each counted each time it is reached (what is shared counts as often as it is met; a slice's spare places count too). A statement '..UptoSaid' is the law's where the arguments, and the package variables that the reading takes, are together of bulk at most 1048576: NARROWER than '..Said'. Prove '..Said' where nothing that the law and all that it calls make is longer than what came in: it says more and counts as full. Else prove '..UptoSaid'. A law counts once. -/
mutual
def uptoBulk {H : Type} : DataW H → Nat
  | .lit (.string bytes) => bytes.length + 1
  | .lit _ => 1
  | .nil => 1
  | .ptr d => uptoBulk d + 1
  | .slice elems spare => uptoBulkAll elems + uptoBulkAll spare + 1
  | .agg parts => uptoBulkAll parts + 1
  | .iface _ d => uptoBulk d + 1
  | .map entries => uptoBulkEntries entries + 1
  | .held _ => 1
def uptoBulkAll {H : Type} : List (DataW H) → Nat
  | [] => 0
  | d :: r => uptoBulk d + uptoBulkAll r
def uptoBulkEntries {H : Type} : List (Lit × DataW H) → Nat
  | [] => 0
  | x :: r => uptoBulkEntry x + uptoBulkEntries r
def uptoBulkEntry {H : Type} : Lit × DataW H → Nat
  | (.string bytes, d) => bytes.length + uptoBulk d + 1
  | (_, d) => uptoBulk d + 1
 end
def uptoSmall : (H : Type) → List (DataW H) → Bool := fun _ ds => decide (uptoBulkAll ds ≤ 1048576)
def OpenSpec.upto (s : _root_.Go.ChangeSpec) : _root_.Go.OpenSpec := { _root_.Go.OpenSpec.ofChange s with cond := some uptoSmall }

/-- 'consollaw41.MarginTells', WHERE WHAT IT READS IS OF BULK AT MOST 1048576: true; the input reads as it did. -/
def marginTellsUptoRow : OpenClaim := { program := "ytadinocaadlgmaa", sum := "c7b6c4c1bc3e2b7d7bc57801eb12ac3ac6494f438275da9be2507b1fa88d31e0", func := "consol/consollaw41.MarginTells", spec := "marginTells", unfollowed := true, recurses := true, apart := false, narrowed := true }
def MarginTellsUptoSaid : Prop := marginTellsUptoRow.holds Try.pinned (OpenSpec.upto marginTellsSpec)

/-- 'consollaw41.MarginSpan', WHERE WHAT IT READS IS OF BULK AT MOST 1048576: true; the input reads as it did. -/
def marginSpanUptoRow : OpenClaim := { program := "ytadinocaadlgmaa", sum := "c7b6c4c1bc3e2b7d7bc57801eb12ac3ac6494f438275da9be2507b1fa88d31e0", func := "consol/consollaw41.MarginSpan", spec := "marginSpan", unfollowed := true, recurses := true, apart := false, narrowed := true }
def MarginSpanUptoSaid : Prop := marginSpanUptoRow.holds Try.pinned (OpenSpec.upto marginSpanSpec)

/-- 'consollaw41.MarginChosen', WHERE WHAT IT READS IS OF BULK AT MOST 1048576: true; the input reads as it did. -/
def marginChosenUptoRow : OpenClaim := { program := "ytadinocaadlgmaa", sum := "c7b6c4c1bc3e2b7d7bc57801eb12ac3ac6494f438275da9be2507b1fa88d31e0", func := "consol/consollaw41.MarginChosen", spec := "marginChosen", unfollowed := true, recurses := true, apart := false, narrowed := true }
def MarginChosenUptoSaid : Prop := marginChosenUptoRow.holds Try.pinned (OpenSpec.upto marginChosenSpec)

/-- 'consollaw41.MarginStays', WHERE WHAT IT READS IS OF BULK AT MOST 1048576: true; the input reads as it did. -/
def marginStaysUptoRow : OpenClaim := { program := "ytadinocaadlgmaa", sum := "c7b6c4c1bc3e2b7d7bc57801eb12ac3ac6494f438275da9be2507b1fa88d31e0", func := "consol/consollaw41.MarginStays", spec := "marginStays", unfollowed := true, recurses := true, apart := false, narrowed := true }
def MarginStaysUptoSaid : Prop := marginStaysUptoRow.holds Try.pinned (OpenSpec.upto marginStaysSpec)

end Rows
end Go.Proofs.Ytadinocaadlgmaa
