/-
  No cell of these rows narrows 'for every input' (looked for: loops, veiled, ifaces, maps, wideKeys, modest, calm, conditions, laid).
  DERIVED. THE GIVEN ROWS OF THIS SEAT. 5 by the template 'for every input the law returns true; each argument reads behind the call as it read before'; 0 by the template 'total and deterministic' (their statements: YtdobcidinpjkoaaTotals.lean).
  GIVEN WITH THE SEED: the statements are not yours to turn. If you find one false, say at which input.
  Laid BY PROGRAM, IN A SANDBOX (cutbox-rows.mjs): the forced cells as the released guide's own fill.sh prints them over the translation c1866ba8ef88b33f… (all of the seat's roots in one cut). By AI agents, Wed Nov 11 2026. No macro, syntax, notation, axiom, sorry.
-/
import Derived.Test.YtdobcidinpjkoaaChecked
import GoSem.Claim
import GoSem.ClaimJoined
import GoSem.ClaimMapViews
import Derived.JoinedTies
import Derived.KernelRfl
namespace Go.Proofs.Ytdobcidinpjkoaa
/- THE CELL 'sum', in the pinned program and in every row, IS THE sha256 OF THE DUMP (.gsa) THAT YtdobcidinpjkoaaProg.lean LOADS. Nothing in Lean hashes anything: it is a label: what it is worth is what the hold of that sum in a sandbox is worth. -/
noncomputable def Try.pinned : Pinned := { name := "ytdobcidinpjkoaa", sum := "c1866ba8ef88b33fab9855058b0e9f39867e1ff08ce970c52d80d89c280ffeb1", checked := Try.checked }
namespace Rows
def none {H : Type} : Left H := { results := [], args := [] }

/-- 'consollaw08.CalTells': WHATEVER THE INPUT: true; the input reads as it did. -/
def calTellsSpec : ChangeSpec := { name := "calTells", fn := fun _ => fun
  | [d1, d2, d3, d4] => { results := [.lit (.bool true)], args := [d1, d2, d3, d4] }
  | _ => none }
def calTellsRow : OpenClaim := { program := "ytdobcidinpjkoaa", sum := "c1866ba8ef88b33fab9855058b0e9f39867e1ff08ce970c52d80d89c280ffeb1", func := "consol/consollaw08.CalTells", spec := "calTells", apart := false }
def CalTellsSaid : Prop := calTellsRow.holds Try.pinned (OpenSpec.ofChange calTellsSpec)

/-- ITS FALSE NEIGHBOUR: 'it returns false'. Refute it at one input. -/
def calTellsWrong : ChangeSpec := { name := "calTells", fn := fun _ => fun
  | [d1, d2, d3, d4] => { results := [.lit (.bool false)], args := [d1, d2, d3, d4] }
  | _ => none }
def CalTellsWrongFalsely : Prop := calTellsRow.holds Try.pinned (OpenSpec.ofChange calTellsWrong)

/-- 'consollaw08.CalMoves': WHATEVER THE INPUT: true; the input reads as it did. -/
def calMovesSpec : ChangeSpec := { name := "calMoves", fn := fun _ => fun
  | [d1, d2] => { results := [.lit (.bool true)], args := [d1, d2] }
  | _ => none }
def calMovesRow : OpenClaim := { program := "ytdobcidinpjkoaa", sum := "c1866ba8ef88b33fab9855058b0e9f39867e1ff08ce970c52d80d89c280ffeb1", func := "consol/consollaw08.CalMoves", spec := "calMoves", apart := false }
def CalMovesSaid : Prop := calMovesRow.holds Try.pinned (OpenSpec.ofChange calMovesSpec)

/-- ITS FALSE NEIGHBOUR: 'it returns false'. Refute it at one input. -/
def calMovesWrong : ChangeSpec := { name := "calMoves", fn := fun _ => fun
  | [d1, d2] => { results := [.lit (.bool false)], args := [d1, d2] }
  | _ => none }
def CalMovesWrongFalsely : Prop := calMovesRow.holds Try.pinned (OpenSpec.ofChange calMovesWrong)

/-- 'consollaw08.CalOrder': WHATEVER THE INPUT: true; the input reads as it did. -/
def calOrderSpec : ChangeSpec := { name := "calOrder", fn := fun _ => fun
  | [d1, d2, d3, d4] => { results := [.lit (.bool true)], args := [d1, d2, d3, d4] }
  | _ => none }
def calOrderRow : OpenClaim := { program := "ytdobcidinpjkoaa", sum := "c1866ba8ef88b33fab9855058b0e9f39867e1ff08ce970c52d80d89c280ffeb1", func := "consol/consollaw08.CalOrder", spec := "calOrder", apart := false }
def CalOrderSaid : Prop := calOrderRow.holds Try.pinned (OpenSpec.ofChange calOrderSpec)

/-- ITS FALSE NEIGHBOUR: 'it returns false'. Refute it at one input. -/
def calOrderWrong : ChangeSpec := { name := "calOrder", fn := fun _ => fun
  | [d1, d2, d3, d4] => { results := [.lit (.bool false)], args := [d1, d2, d3, d4] }
  | _ => none }
def CalOrderWrongFalsely : Prop := calOrderRow.holds Try.pinned (OpenSpec.ofChange calOrderWrong)

/-- 'consollaw08.CalBack': WHATEVER THE INPUT: true; the input reads as it did. -/
def calBackSpec : ChangeSpec := { name := "calBack", fn := fun _ => fun
  | [d1, d2, d3, d4] => { results := [.lit (.bool true)], args := [d1, d2, d3, d4] }
  | _ => none }
def calBackRow : OpenClaim := { program := "ytdobcidinpjkoaa", sum := "c1866ba8ef88b33fab9855058b0e9f39867e1ff08ce970c52d80d89c280ffeb1", func := "consol/consollaw08.CalBack", spec := "calBack", apart := false }
def CalBackSaid : Prop := calBackRow.holds Try.pinned (OpenSpec.ofChange calBackSpec)

/-- ITS FALSE NEIGHBOUR: 'it returns false'. Refute it at one input. -/
def calBackWrong : ChangeSpec := { name := "calBack", fn := fun _ => fun
  | [d1, d2, d3, d4] => { results := [.lit (.bool false)], args := [d1, d2, d3, d4] }
  | _ => none }
def CalBackWrongFalsely : Prop := calBackRow.holds Try.pinned (OpenSpec.ofChange calBackWrong)

/-- 'consollaw08.CalRest': WHATEVER THE INPUT: true; the input reads as it did. -/
def calRestSpec : ChangeSpec := { name := "calRest", fn := fun _ => fun
  | [d1, d2, d3, d4] => { results := [.lit (.bool true)], args := [d1, d2, d3, d4] }
  | _ => none }
def calRestRow : OpenClaim := { program := "ytdobcidinpjkoaa", sum := "c1866ba8ef88b33fab9855058b0e9f39867e1ff08ce970c52d80d89c280ffeb1", func := "consol/consollaw08.CalRest", spec := "calRest", apart := false }
def CalRestSaid : Prop := calRestRow.holds Try.pinned (OpenSpec.ofChange calRestSpec)

/-- ITS FALSE NEIGHBOUR: 'it returns false'. Refute it at one input. -/
def calRestWrong : ChangeSpec := { name := "calRest", fn := fun _ => fun
  | [d1, d2, d3, d4] => { results := [.lit (.bool false)], args := [d1, d2, d3, d4] }
  | _ => none }
def CalRestWrongFalsely : Prop := calRestRow.holds Try.pinned (OpenSpec.ofChange calRestWrong)

/- THE SECOND FORM. 'bulk': how many values and letters a reading holds, each counted each time it is reached (what is shared counts as often as it is met; a slice's spare places count too). A statement '..UptoSaid' is the law's where the arguments, and the package variables that the reading takes, are together of bulk at most 1048576: NARROWER than '..Said'. Prove '..Said' where nothing that the law and all that it calls make is longer than what came in: it says more and counts as full. Else prove '..UptoSaid'. A law counts once. -/
mutual
def uptoBulk {H : Type} : DataW H → Nat
  | .lit (.string bytes) => bytes.length + 1
  | .lit _ => 1
  | .nil => 1
  | .ptr d => uptoBulk d + 1
  | .slice elems spare => uptoBulkAll elems + uptoBulkAll spare + 1
  | .agg parts => uptoBulkAll parts + 1
  | .iface _ d => uptoBulk d + 1
  | .map entries => uptoBulkEntries entries + 1
  | .held _ => 1
def uptoBulkAll {H : Type} : List (DataW H) → Nat
  | [] => 0
  | d :: r => uptoBulk d + uptoBulkAll r
def uptoBulkEntries {H : Type} : List (Lit × DataW H) → Nat
  | [] => 0
  | x :: r => uptoBulkEntry x + uptoBulkEntries r
def uptoBulkEntry {H : Type} : Lit × DataW H → Nat
  | (.string bytes, d) => bytes.length + uptoBulk d + 1
  | (_, d) => uptoBulk d + 1
 end
def uptoSmall : (H : Type) → List (DataW H) → Bool := fun _ ds => decide (uptoBulkAll ds ≤ 1048576)
def OpenSpec.upto (s : _root_.Go.ChangeSpec) : _root_.Go.OpenSpec := { _root_.Go.OpenSpec.ofChange s with cond := some uptoSmall }

/-- 'consollaw08.CalTells', WHERE WHAT IT READS IS OF BULK AT MOST 1048576: true; the input reads as it did. -/
def calTellsUptoRow : OpenClaim := { program := "ytdobcidinpjkoaa", sum := "c1866ba8ef88b33fab9855058b0e9f39867e1ff08ce970c52d80d89c280ffeb1", func := "consol/consollaw08.CalTells", spec := "calTells", apart := false, narrowed := true }
def CalTellsUptoSaid : Prop := calTellsUptoRow.holds Try.pinned (OpenSpec.upto calTellsSpec)

/-- 'consollaw08.CalMoves', WHERE WHAT IT READS IS OF BULK AT MOST 1048576: true; the input reads as it did. -/
def calMovesUptoRow : OpenClaim := { program := "ytdobcidinpjkoaa", sum := "c1866ba8ef88b33fab9855058b0e9f39867e1ff08ce970c52d80d89c280ffeb1", func := "consol/consollaw08.CalMoves", spec := "calMoves", apart := false, narrowed := true }
def CalMovesUptoSaid : Prop := calMovesUptoRow.holds Try.pinned (OpenSpec.upto calMovesSpec)

/-- 'consollaw08.CalOrder', WHERE WHAT IT READS IS OF BULK AT MOST 1048576: true; the input reads as it did. -/
def calOrderUptoRow : OpenClaim := { program := "ytdobcidinpjkoaa", sum := "c1866ba8ef88b33fab9855058b0e9f39867e1ff08ce970c52d80d89c280ffeb1", func := "consol/consollaw08.CalOrder", spec := "calOrder", apart := false, narrowed := true }
def CalOrderUptoSaid : Prop := calOrderUptoRow.holds Try.pinned (OpenSpec.upto calOrderSpec)

/-- 'consollaw08.CalBack', WHERE WHAT IT READS IS OF BULK AT MOST 1048576: true; the input reads as it did. -/
def calBackUptoRow : OpenClaim := { program := "ytdobcidinpjkoaa", sum := "c1866ba8ef88b33fab9855058b0e9f39867e1ff08ce970c52d80d89c280ffeb1", func := "consol/consollaw08.CalBack", spec := "calBack", apart := false, narrowed := true }
def CalBackUptoSaid : Prop := calBackUptoRow.holds Try.pinned (OpenSpec.upto calBackSpec)

/-- 'consollaw08.CalRest', WHERE WHAT IT READS IS OF BULK AT MOST 1048576: true; the input reads as it did. -/
def calRestUptoRow : OpenClaim := { program := "ytdobcidinpjkoaa", sum := "c1866ba8ef88b33fab9855058b0e9f39867e1ff08ce970c52d80d89c280ffeb1", func := "consol/consollaw08.CalRest", spec := "calRest", apart := false, narrowed := true }
def CalRestUptoSaid : Prop := calRestUptoRow.holds Try.pinned (OpenSpec.upto calRestSpec)

end Rows
end Go.Proofs.Ytdobcidinpjkoaa
