/-
  No cell of these rows narrows 'for every input' (looked for: loops, veiled, ifaces, maps, wideKeys, modest, calm, conditions, laid).
  DERIVED. THE GIVEN ROWS OF THIS SEAT. 5 by the template 'for every input the law returns true; each argument reads behind the call as it read before'; 0 by the template 'total and deterministic' (their statements: YtndflpanccagbaaTotals.lean).
  GIVEN WITH THE SEED: the statements are not yours to turn. If you find one false, say at which input.
  Laid BY PROGRAM, IN A SANDBOX (cutbox-rows.mjs): the forced cells as the released guide's own fill.sh prints them over the translation 3d3a47575433b7bb… (all of the seat's roots in one cut). By AI agents, Wed Nov 11 2026. No macro, syntax, notation, axiom, sorry.
-/
import Derived.Test.YtndflpanccagbaaChecked
import GoSem.Claim
import GoSem.ClaimJoined
import GoSem.ClaimMapViews
import Derived.JoinedTies
import Derived.KernelRfl
namespace Go.Proofs.Ytndflpanccagbaa
/- THE CELL 'sum', in the pinned program and in every row, IS THE sha256 OF THE DUMP (.gsa) THAT YtndflpanccagbaaProg.lean LOADS. Nothing in Lean hashes anything: it is a label: what it is worth is what the hold of that sum in a sandbox is worth. -/
noncomputable def Try.pinned : Pinned := { name := "ytndflpanccagbaa", sum := "3d3a47575433b7bbaed93414cc8168067dbfe1befaecdf89f09a85e0bf214045", checked := Try.checked }
namespace Rows
def none {H : Type} : Left H := { results := [], args := [] }

/-- 'consollaw30.BookTells': WHATEVER THE INPUT: true; the input reads as it did. -/
def bookTellsSpec : ChangeSpec := { name := "bookTells", fn := fun _ => fun
  | [d1, d2, d3, d4, d5] => { results := [.lit (.bool true)], args := [d1, d2, d3, d4, d5] }
  | _ => none }
def bookTellsRow : OpenClaim := { program := "ytndflpanccagbaa", sum := "3d3a47575433b7bbaed93414cc8168067dbfe1befaecdf89f09a85e0bf214045", func := "consol/consollaw30.BookTells", spec := "bookTells", unfollowed := true, recurses := true, apart := false }
def BookTellsSaid : Prop := bookTellsRow.holds Try.pinned (OpenSpec.ofChange bookTellsSpec)

/-- ITS FALSE NEIGHBOUR: 'it returns false'. Refute it at one input. -/
def bookTellsWrong : ChangeSpec := { name := "bookTells", fn := fun _ => fun
  | [d1, d2, d3, d4, d5] => { results := [.lit (.bool false)], args := [d1, d2, d3, d4, d5] }
  | _ => none }
def BookTellsWrongFalsely : Prop := bookTellsRow.holds Try.pinned (OpenSpec.ofChange bookTellsWrong)

/-- 'consollaw30.BookSums': WHATEVER THE INPUT: true; the input reads as it did. -/
def bookSumsSpec : ChangeSpec := { name := "bookSums", fn := fun _ => fun
  | [d1, d2] => { results := [.lit (.bool true)], args := [d1, d2] }
  | _ => none }
def bookSumsRow : OpenClaim := { program := "ytndflpanccagbaa", sum := "3d3a47575433b7bbaed93414cc8168067dbfe1befaecdf89f09a85e0bf214045", func := "consol/consollaw30.BookSums", spec := "bookSums", unfollowed := true, recurses := true, apart := false }
def BookSumsSaid : Prop := bookSumsRow.holds Try.pinned (OpenSpec.ofChange bookSumsSpec)

/-- ITS FALSE NEIGHBOUR: 'it returns false'. Refute it at one input. -/
def bookSumsWrong : ChangeSpec := { name := "bookSums", fn := fun _ => fun
  | [d1, d2] => { results := [.lit (.bool false)], args := [d1, d2] }
  | _ => none }
def BookSumsWrongFalsely : Prop := bookSumsRow.holds Try.pinned (OpenSpec.ofChange bookSumsWrong)

/-- 'consollaw30.BookMoves': WHATEVER THE INPUT: true; the input reads as it did. -/
def bookMovesSpec : ChangeSpec := { name := "bookMoves", fn := fun _ => fun
  | [d1, d2, d3, d4, d5] => { results := [.lit (.bool true)], args := [d1, d2, d3, d4, d5] }
  | _ => none }
def bookMovesRow : OpenClaim := { program := "ytndflpanccagbaa", sum := "3d3a47575433b7bbaed93414cc8168067dbfe1befaecdf89f09a85e0bf214045", func := "consol/consollaw30.BookMoves", spec := "bookMoves", unfollowed := true, recurses := true, apart := false }
def BookMovesSaid : Prop := bookMovesRow.holds Try.pinned (OpenSpec.ofChange bookMovesSpec)

/-- ITS FALSE NEIGHBOUR: 'it returns false'. Refute it at one input. -/
def bookMovesWrong : ChangeSpec := { name := "bookMoves", fn := fun _ => fun
  | [d1, d2, d3, d4, d5] => { results := [.lit (.bool false)], args := [d1, d2, d3, d4, d5] }
  | _ => none }
def BookMovesWrongFalsely : Prop := bookMovesRow.holds Try.pinned (OpenSpec.ofChange bookMovesWrong)

/-- 'consollaw30.BookBack': WHATEVER THE INPUT: true; the input reads as it did. -/
def bookBackSpec : ChangeSpec := { name := "bookBack", fn := fun _ => fun
  | [d1, d2, d3, d4, d5, d6, d7] => { results := [.lit (.bool true)], args := [d1, d2, d3, d4, d5, d6, d7] }
  | _ => none }
def bookBackRow : OpenClaim := { program := "ytndflpanccagbaa", sum := "3d3a47575433b7bbaed93414cc8168067dbfe1befaecdf89f09a85e0bf214045", func := "consol/consollaw30.BookBack", spec := "bookBack", unfollowed := true, recurses := true, apart := false }
def BookBackSaid : Prop := bookBackRow.holds Try.pinned (OpenSpec.ofChange bookBackSpec)

/-- ITS FALSE NEIGHBOUR: 'it returns false'. Refute it at one input. -/
def bookBackWrong : ChangeSpec := { name := "bookBack", fn := fun _ => fun
  | [d1, d2, d3, d4, d5, d6, d7] => { results := [.lit (.bool false)], args := [d1, d2, d3, d4, d5, d6, d7] }
  | _ => none }
def BookBackWrongFalsely : Prop := bookBackRow.holds Try.pinned (OpenSpec.ofChange bookBackWrong)

/-- 'consollaw30.BookLevels': WHATEVER THE INPUT: true; the input reads as it did. -/
def bookLevelsSpec : ChangeSpec := { name := "bookLevels", fn := fun _ => fun
  | [d] => { results := [.lit (.bool true)], args := [d] }
  | _ => none }
def bookLevelsRow : OpenClaim := { program := "ytndflpanccagbaa", sum := "3d3a47575433b7bbaed93414cc8168067dbfe1befaecdf89f09a85e0bf214045", func := "consol/consollaw30.BookLevels", spec := "bookLevels", unfollowed := true, recurses := true, apart := false }
def BookLevelsSaid : Prop := bookLevelsRow.holds Try.pinned (OpenSpec.ofChange bookLevelsSpec)

/-- ITS FALSE NEIGHBOUR: 'it returns false'. Refute it at one input. -/
def bookLevelsWrong : ChangeSpec := { name := "bookLevels", fn := fun _ => fun
  | [d] => { results := [.lit (.bool false)], args := [d] }
  | _ => none }
def BookLevelsWrongFalsely : Prop := bookLevelsRow.holds Try.pinned (OpenSpec.ofChange bookLevelsWrong)

/- THE SECOND FORM. 'bulk': how many values and letters a reading holds, each counted each time it is reached (what is shared counts as often as it is met; a slice's spare places count too). A statement '..UptoSaid' is the law's where the arguments, and the package variables that the reading takes, are together of bulk at most 1048576: NARROWER than '..Said'. Prove '..Said' where nothing that the law and all that it calls make is longer than what came in: it says more and counts as full. Else prove '..UptoSaid'. A law counts once. -/
mutual
def uptoBulk {H : Type} : DataW H → Nat
  | .lit (.string bytes) => bytes.length + 1
  | .lit _ => 1
  | .nil => 1
  | .ptr d => uptoBulk d + 1
  | .slice elems spare => uptoBulkAll elems + uptoBulkAll spare + 1
  | .agg parts => uptoBulkAll parts + 1
  | .iface _ d => uptoBulk d + 1
  | .map entries => uptoBulkEntries entries + 1
  | .held _ => 1
def uptoBulkAll {H : Type} : List (DataW H) → Nat
  | [] => 0
  | d :: r => uptoBulk d + uptoBulkAll r
def uptoBulkEntries {H : Type} : List (Lit × DataW H) → Nat
  | [] => 0
  | x :: r => uptoBulkEntry x + uptoBulkEntries r
def uptoBulkEntry {H : Type} : Lit × DataW H → Nat
  | (.string bytes, d) => bytes.length + uptoBulk d + 1
  | (_, d) => uptoBulk d + 1
 end
def uptoSmall : (H : Type) → List (DataW H) → Bool := fun _ ds => decide (uptoBulkAll ds ≤ 1048576)
def OpenSpec.upto (s : _root_.Go.ChangeSpec) : _root_.Go.OpenSpec := { _root_.Go.OpenSpec.ofChange s with cond := some uptoSmall }

/-- 'consollaw30.BookTells', WHERE WHAT IT READS IS OF BULK AT MOST 1048576: true; the input reads as it did. -/
def bookTellsUptoRow : OpenClaim := { program := "ytndflpanccagbaa", sum := "3d3a47575433b7bbaed93414cc8168067dbfe1befaecdf89f09a85e0bf214045", func := "consol/consollaw30.BookTells", spec := "bookTells", unfollowed := true, recurses := true, apart := false, narrowed := true }
def BookTellsUptoSaid : Prop := bookTellsUptoRow.holds Try.pinned (OpenSpec.upto bookTellsSpec)

/-- 'consollaw30.BookSums', WHERE WHAT IT READS IS OF BULK AT MOST 1048576: true; the input reads as it did. -/
def bookSumsUptoRow : OpenClaim := { program := "ytndflpanccagbaa", sum := "3d3a47575433b7bbaed93414cc8168067dbfe1befaecdf89f09a85e0bf214045", func := "consol/consollaw30.BookSums", spec := "bookSums", unfollowed := true, recurses := true, apart := false, narrowed := true }
def BookSumsUptoSaid : Prop := bookSumsUptoRow.holds Try.pinned (OpenSpec.upto bookSumsSpec)

/-- 'consollaw30.BookMoves', WHERE WHAT IT READS IS OF BULK AT MOST 1048576: true; the input reads as it did. -/
def bookMovesUptoRow : OpenClaim := { program := "ytndflpanccagbaa", sum := "3d3a47575433b7bbaed93414cc8168067dbfe1befaecdf89f09a85e0bf214045", func := "consol/consollaw30.BookMoves", spec := "bookMoves", unfollowed := true, recurses := true, apart := false, narrowed := true }
def BookMovesUptoSaid : Prop := bookMovesUptoRow.holds Try.pinned (OpenSpec.upto bookMovesSpec)

/-- 'consollaw30.BookBack', WHERE WHAT IT READS IS OF BULK AT MOST 1048576: true; the input reads as it did. -/
def bookBackUptoRow : OpenClaim := { program := "ytndflpanccagbaa", sum := "3d3a47575433b7bbaed93414cc8168067dbfe1befaecdf89f09a85e0bf214045", func := "consol/consollaw30.BookBack", spec := "bookBack", unfollowed := true, recurses := true, apart := false, narrowed := true }
def BookBackUptoSaid : Prop := bookBackUptoRow.holds Try.pinned (OpenSpec.upto bookBackSpec)

/-- 'consollaw30.BookLevels', WHERE WHAT IT READS IS OF BULK AT MOST 1048576: true; the input reads as it did. -/
def bookLevelsUptoRow : OpenClaim := { program := "ytndflpanccagbaa", sum := "3d3a47575433b7bbaed93414cc8168067dbfe1befaecdf89f09a85e0bf214045", func := "consol/consollaw30.BookLevels", spec := "bookLevels", unfollowed := true, recurses := true, apart := false, narrowed := true }
def BookLevelsUptoSaid : Prop := bookLevelsUptoRow.holds Try.pinned (OpenSpec.upto bookLevelsSpec)

end Rows
end Go.Proofs.Ytndflpanccagbaa
