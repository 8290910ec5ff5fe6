/-
  No cell of these rows narrows 'for every input' (looked for: loops, veiled, ifaces, maps, wideKeys, modest, calm, conditions, laid).
  DERIVED. THE GIVEN ROWS OF THIS SEAT. 5 by the template 'for every input the law returns true; each argument reads behind the call as it read before'; 0 by the template 'total and deterministic' (their statements: YtidlfemliaepjaaTotals.lean).
  GIVEN WITH THE SEED: the statements are not yours to turn. If you find one false, say at which input.
  Laid BY PROGRAM, IN A SANDBOX (cutbox-rows.mjs): the forced cells as the released guide's own fill.sh prints them over the translation 76a978f4f47538d0… (all of the seat's roots in one cut). By AI agents, Wed Nov 11 2026. No macro, syntax, notation, axiom, sorry.
-/
import Derived.Test.YtidlfemliaepjaaChecked
import GoSem.Claim
import GoSem.ClaimJoined
import GoSem.ClaimMapViews
import Derived.JoinedTies
import Derived.KernelRfl
namespace Go.Proofs.Ytidlfemliaepjaa
/- THE CELL 'sum', in the pinned program and in every row, IS THE sha256 OF THE DUMP (.gsa) THAT YtidlfemliaepjaaProg.lean LOADS. Nothing in Lean hashes anything: it is a label: what it is worth is what the hold of that sum in a sandbox is worth. -/
noncomputable def Try.pinned : Pinned := { name := "ytidlfemliaepjaa", sum := "76a978f4f47538d0dc031bc9843a25fa9956335d7ed3e574f106a4e26bc25c43", checked := Try.checked }
namespace Rows
def none {H : Type} : Left H := { results := [], args := [] }

/-- 'consollaw36.OfferTells': WHATEVER THE INPUT: true; the input reads as it did. -/
def offerTellsSpec : ChangeSpec := { name := "offerTells", fn := fun _ => fun
  | [d1, d2, d3] => { results := [.lit (.bool true)], args := [d1, d2, d3] }
  | _ => none }
def offerTellsRow : OpenClaim := { program := "ytidlfemliaepjaa", sum := "76a978f4f47538d0dc031bc9843a25fa9956335d7ed3e574f106a4e26bc25c43", func := "consol/consollaw36.OfferTells", spec := "offerTells", unfollowed := true, recurses := true, apart := false }
def OfferTellsSaid : Prop := offerTellsRow.holds Try.pinned (OpenSpec.ofChange offerTellsSpec)

/-- ITS FALSE NEIGHBOUR: 'it returns false'. Refute it at one input. -/
def offerTellsWrong : ChangeSpec := { name := "offerTells", fn := fun _ => fun
  | [d1, d2, d3] => { results := [.lit (.bool false)], args := [d1, d2, d3] }
  | _ => none }
def OfferTellsWrongFalsely : Prop := offerTellsRow.holds Try.pinned (OpenSpec.ofChange offerTellsWrong)

/-- 'consollaw36.OfferAll': WHATEVER THE INPUT: true; the input reads as it did. -/
def offerAllSpec : ChangeSpec := { name := "offerAll", fn := fun _ => fun
  | [d1, d2, d3] => { results := [.lit (.bool true)], args := [d1, d2, d3] }
  | _ => none }
def offerAllRow : OpenClaim := { program := "ytidlfemliaepjaa", sum := "76a978f4f47538d0dc031bc9843a25fa9956335d7ed3e574f106a4e26bc25c43", func := "consol/consollaw36.OfferAll", spec := "offerAll", unfollowed := true, recurses := true, apart := false }
def OfferAllSaid : Prop := offerAllRow.holds Try.pinned (OpenSpec.ofChange offerAllSpec)

/-- ITS FALSE NEIGHBOUR: 'it returns false'. Refute it at one input. -/
def offerAllWrong : ChangeSpec := { name := "offerAll", fn := fun _ => fun
  | [d1, d2, d3] => { results := [.lit (.bool false)], args := [d1, d2, d3] }
  | _ => none }
def OfferAllWrongFalsely : Prop := offerAllRow.holds Try.pinned (OpenSpec.ofChange offerAllWrong)

/-- 'consollaw36.OfferFair': WHATEVER THE INPUT: true; the input reads as it did. -/
def offerFairSpec : ChangeSpec := { name := "offerFair", fn := fun _ => fun
  | [d1, d2, d3] => { results := [.lit (.bool true)], args := [d1, d2, d3] }
  | _ => none }
def offerFairRow : OpenClaim := { program := "ytidlfemliaepjaa", sum := "76a978f4f47538d0dc031bc9843a25fa9956335d7ed3e574f106a4e26bc25c43", func := "consol/consollaw36.OfferFair", spec := "offerFair", unfollowed := true, recurses := true, apart := false }
def OfferFairSaid : Prop := offerFairRow.holds Try.pinned (OpenSpec.ofChange offerFairSpec)

/-- ITS FALSE NEIGHBOUR: 'it returns false'. Refute it at one input. -/
def offerFairWrong : ChangeSpec := { name := "offerFair", fn := fun _ => fun
  | [d1, d2, d3] => { results := [.lit (.bool false)], args := [d1, d2, d3] }
  | _ => none }
def OfferFairWrongFalsely : Prop := offerFairRow.holds Try.pinned (OpenSpec.ofChange offerFairWrong)

/-- 'consollaw36.OfferEarly': WHATEVER THE INPUT: true; the input reads as it did. -/
def offerEarlySpec : ChangeSpec := { name := "offerEarly", fn := fun _ => fun
  | [d1, d2, d3, d4] => { results := [.lit (.bool true)], args := [d1, d2, d3, d4] }
  | _ => none }
def offerEarlyRow : OpenClaim := { program := "ytidlfemliaepjaa", sum := "76a978f4f47538d0dc031bc9843a25fa9956335d7ed3e574f106a4e26bc25c43", func := "consol/consollaw36.OfferEarly", spec := "offerEarly", unfollowed := true, recurses := true, apart := false }
def OfferEarlySaid : Prop := offerEarlyRow.holds Try.pinned (OpenSpec.ofChange offerEarlySpec)

/-- ITS FALSE NEIGHBOUR: 'it returns false'. Refute it at one input. -/
def offerEarlyWrong : ChangeSpec := { name := "offerEarly", fn := fun _ => fun
  | [d1, d2, d3, d4] => { results := [.lit (.bool false)], args := [d1, d2, d3, d4] }
  | _ => none }
def OfferEarlyWrongFalsely : Prop := offerEarlyRow.holds Try.pinned (OpenSpec.ofChange offerEarlyWrong)

/-- 'consollaw36.OfferGives': WHATEVER THE INPUT: true; the input reads as it did. -/
def offerGivesSpec : ChangeSpec := { name := "offerGives", fn := fun _ => fun
  | [d1, d2, d3, d4] => { results := [.lit (.bool true)], args := [d1, d2, d3, d4] }
  | _ => none }
def offerGivesRow : OpenClaim := { program := "ytidlfemliaepjaa", sum := "76a978f4f47538d0dc031bc9843a25fa9956335d7ed3e574f106a4e26bc25c43", func := "consol/consollaw36.OfferGives", spec := "offerGives", unfollowed := true, recurses := true, apart := false }
def OfferGivesSaid : Prop := offerGivesRow.holds Try.pinned (OpenSpec.ofChange offerGivesSpec)

/-- ITS FALSE NEIGHBOUR: 'it returns false'. Refute it at one input. -/
def offerGivesWrong : ChangeSpec := { name := "offerGives", fn := fun _ => fun
  | [d1, d2, d3, d4] => { results := [.lit (.bool false)], args := [d1, d2, d3, d4] }
  | _ => none }
def OfferGivesWrongFalsely : Prop := offerGivesRow.holds Try.pinned (OpenSpec.ofChange offerGivesWrong)

/- THE SECOND FORM. 'bulk': how many values and letters a reading holds, each counted each time it is reached (what is shared counts as often as it is met; a slice's spare places count too). A statement '..UptoSaid' is the law's where the arguments, and the package variables that the reading takes, are together of bulk at most 1048576: NARROWER than '..Said'. Prove '..Said' where nothing that the law and all that it calls make is longer than what came in: it says more and counts as full. Else prove '..UptoSaid'. A law counts once. -/
mutual
def uptoBulk {H : Type} : DataW H → Nat
  | .lit (.string bytes) => bytes.length + 1
  | .lit _ => 1
  | .nil => 1
  | .ptr d => uptoBulk d + 1
  | .slice elems spare => uptoBulkAll elems + uptoBulkAll spare + 1
  | .agg parts => uptoBulkAll parts + 1
  | .iface _ d => uptoBulk d + 1
  | .map entries => uptoBulkEntries entries + 1
  | .held _ => 1
def uptoBulkAll {H : Type} : List (DataW H) → Nat
  | [] => 0
  | d :: r => uptoBulk d + uptoBulkAll r
def uptoBulkEntries {H : Type} : List (Lit × DataW H) → Nat
  | [] => 0
  | x :: r => uptoBulkEntry x + uptoBulkEntries r
def uptoBulkEntry {H : Type} : Lit × DataW H → Nat
  | (.string bytes, d) => bytes.length + uptoBulk d + 1
  | (_, d) => uptoBulk d + 1
 end
def uptoSmall : (H : Type) → List (DataW H) → Bool := fun _ ds => decide (uptoBulkAll ds ≤ 1048576)
def OpenSpec.upto (s : _root_.Go.ChangeSpec) : _root_.Go.OpenSpec := { _root_.Go.OpenSpec.ofChange s with cond := some uptoSmall }

/-- 'consollaw36.OfferTells', WHERE WHAT IT READS IS OF BULK AT MOST 1048576: true; the input reads as it did. -/
def offerTellsUptoRow : OpenClaim := { program := "ytidlfemliaepjaa", sum := "76a978f4f47538d0dc031bc9843a25fa9956335d7ed3e574f106a4e26bc25c43", func := "consol/consollaw36.OfferTells", spec := "offerTells", unfollowed := true, recurses := true, apart := false, narrowed := true }
def OfferTellsUptoSaid : Prop := offerTellsUptoRow.holds Try.pinned (OpenSpec.upto offerTellsSpec)

/-- 'consollaw36.OfferAll', WHERE WHAT IT READS IS OF BULK AT MOST 1048576: true; the input reads as it did. -/
def offerAllUptoRow : OpenClaim := { program := "ytidlfemliaepjaa", sum := "76a978f4f47538d0dc031bc9843a25fa9956335d7ed3e574f106a4e26bc25c43", func := "consol/consollaw36.OfferAll", spec := "offerAll", unfollowed := true, recurses := true, apart := false, narrowed := true }
def OfferAllUptoSaid : Prop := offerAllUptoRow.holds Try.pinned (OpenSpec.upto offerAllSpec)

/-- 'consollaw36.OfferFair', WHERE WHAT IT READS IS OF BULK AT MOST 1048576: true; the input reads as it did. -/
def offerFairUptoRow : OpenClaim := { program := "ytidlfemliaepjaa", sum := "76a978f4f47538d0dc031bc9843a25fa9956335d7ed3e574f106a4e26bc25c43", func := "consol/consollaw36.OfferFair", spec := "offerFair", unfollowed := true, recurses := true, apart := false, narrowed := true }
def OfferFairUptoSaid : Prop := offerFairUptoRow.holds Try.pinned (OpenSpec.upto offerFairSpec)

/-- 'consollaw36.OfferEarly', WHERE WHAT IT READS IS OF BULK AT MOST 1048576: true; the input reads as it did. -/
def offerEarlyUptoRow : OpenClaim := { program := "ytidlfemliaepjaa", sum := "76a978f4f47538d0dc031bc9843a25fa9956335d7ed3e574f106a4e26bc25c43", func := "consol/consollaw36.OfferEarly", spec := "offerEarly", unfollowed := true, recurses := true, apart := false, narrowed := true }
def OfferEarlyUptoSaid : Prop := offerEarlyUptoRow.holds Try.pinned (OpenSpec.upto offerEarlySpec)

/-- 'consollaw36.OfferGives', WHERE WHAT IT READS IS OF BULK AT MOST 1048576: true; the input reads as it did. -/
def offerGivesUptoRow : OpenClaim := { program := "ytidlfemliaepjaa", sum := "76a978f4f47538d0dc031bc9843a25fa9956335d7ed3e574f106a4e26bc25c43", func := "consol/consollaw36.OfferGives", spec := "offerGives", unfollowed := true, recurses := true, apart := false, narrowed := true }
def OfferGivesUptoSaid : Prop := offerGivesUptoRow.holds Try.pinned (OpenSpec.upto offerGivesSpec)

end Rows
end Go.Proofs.Ytidlfemliaepjaa
