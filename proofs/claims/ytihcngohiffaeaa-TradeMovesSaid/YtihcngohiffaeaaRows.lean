/-
  No cell of these rows narrows 'for every input' (looked for: loops, veiled, ifaces, maps, wideKeys, modest, calm, conditions, laid).
  DERIVED. THE GIVEN ROWS OF THIS SEAT. 4 by the template 'for every input the law returns true; each argument reads behind the call as it read before'; 0 by the template 'total and deterministic' (their statements: YtihcngohiffaeaaTotals.lean).
  GIVEN WITH THE SEED: the statements are not yours to turn. If you find one false, say at which input.
  Laid BY PROGRAM, IN A SANDBOX (cutbox-rows.mjs): the forced cells as the released guide's own fill.sh prints them over the translation ed3df3e13cb7d150… (all of the seat's roots in one cut). By AI agents, Wed Nov 11 2026. No macro, syntax, notation, axiom, sorry.
-/
import Derived.Test.YtihcngohiffaeaaChecked
import GoSem.Claim
import GoSem.ClaimJoined
import GoSem.ClaimMapViews
import Derived.JoinedTies
import Derived.KernelRfl
namespace Go.Proofs.Ytihcngohiffaeaa
/- THE CELL 'sum', in the pinned program and in every row, IS THE sha256 OF THE DUMP (.gsa) THAT YtihcngohiffaeaaProg.lean LOADS. Nothing in Lean hashes anything: it is a label: what it is worth is what the hold of that sum in a sandbox is worth. -/
noncomputable def Try.pinned : Pinned := { name := "ytihcngohiffaeaa", sum := "ed3df3e13cb7d150ddd0fc2ea20e3e193aaf905a3f5e7322a0644ea8633736b3", checked := Try.checked }
namespace Rows
def none {H : Type} : Left H := { results := [], args := [] }

/-- 'consollaw32.TradeLater': WHATEVER THE INPUT: true; the input reads as it did. -/
def tradeLaterSpec : ChangeSpec := { name := "tradeLater", fn := fun _ => fun
  | [d1, d2, d3, d4, d5, d6] => { results := [.lit (.bool true)], args := [d1, d2, d3, d4, d5, d6] }
  | _ => none }
def tradeLaterRow : OpenClaim := { program := "ytihcngohiffaeaa", sum := "ed3df3e13cb7d150ddd0fc2ea20e3e193aaf905a3f5e7322a0644ea8633736b3", func := "consol/consollaw32.TradeLater", spec := "tradeLater", unfollowed := true, recurses := true, apart := false }
def TradeLaterSaid : Prop := tradeLaterRow.holds Try.pinned (OpenSpec.ofChange tradeLaterSpec)

/-- ITS FALSE NEIGHBOUR: 'it returns false'. Refute it at one input. -/
def tradeLaterWrong : ChangeSpec := { name := "tradeLater", fn := fun _ => fun
  | [d1, d2, d3, d4, d5, d6] => { results := [.lit (.bool false)], args := [d1, d2, d3, d4, d5, d6] }
  | _ => none }
def TradeLaterWrongFalsely : Prop := tradeLaterRow.holds Try.pinned (OpenSpec.ofChange tradeLaterWrong)

/-- 'consollaw32.TradeTells': WHATEVER THE INPUT: true; the input reads as it did. -/
def tradeTellsSpec : ChangeSpec := { name := "tradeTells", fn := fun _ => fun
  | [d1, d2, d3, d4, d5] => { results := [.lit (.bool true)], args := [d1, d2, d3, d4, d5] }
  | _ => none }
def tradeTellsRow : OpenClaim := { program := "ytihcngohiffaeaa", sum := "ed3df3e13cb7d150ddd0fc2ea20e3e193aaf905a3f5e7322a0644ea8633736b3", func := "consol/consollaw32.TradeTells", spec := "tradeTells", unfollowed := true, recurses := true, apart := false }
def TradeTellsSaid : Prop := tradeTellsRow.holds Try.pinned (OpenSpec.ofChange tradeTellsSpec)

/-- ITS FALSE NEIGHBOUR: 'it returns false'. Refute it at one input. -/
def tradeTellsWrong : ChangeSpec := { name := "tradeTells", fn := fun _ => fun
  | [d1, d2, d3, d4, d5] => { results := [.lit (.bool false)], args := [d1, d2, d3, d4, d5] }
  | _ => none }
def TradeTellsWrongFalsely : Prop := tradeTellsRow.holds Try.pinned (OpenSpec.ofChange tradeTellsWrong)

/-- 'consollaw32.TradeLoans': WHATEVER THE INPUT: true; the input reads as it did. -/
def tradeLoansSpec : ChangeSpec := { name := "tradeLoans", fn := fun _ => fun
  | [d1, d2, d3] => { results := [.lit (.bool true)], args := [d1, d2, d3] }
  | _ => none }
def tradeLoansRow : OpenClaim := { program := "ytihcngohiffaeaa", sum := "ed3df3e13cb7d150ddd0fc2ea20e3e193aaf905a3f5e7322a0644ea8633736b3", func := "consol/consollaw32.TradeLoans", spec := "tradeLoans", unfollowed := true, recurses := true, apart := false }
def TradeLoansSaid : Prop := tradeLoansRow.holds Try.pinned (OpenSpec.ofChange tradeLoansSpec)

/-- ITS FALSE NEIGHBOUR: 'it returns false'. Refute it at one input. -/
def tradeLoansWrong : ChangeSpec := { name := "tradeLoans", fn := fun _ => fun
  | [d1, d2, d3] => { results := [.lit (.bool false)], args := [d1, d2, d3] }
  | _ => none }
def TradeLoansWrongFalsely : Prop := tradeLoansRow.holds Try.pinned (OpenSpec.ofChange tradeLoansWrong)

/-- 'consollaw32.TradeMoves': WHATEVER THE INPUT: true; the input reads as it did. -/
def tradeMovesSpec : ChangeSpec := { name := "tradeMoves", fn := fun _ => fun
  | [d1, d2, d3, d4] => { results := [.lit (.bool true)], args := [d1, d2, d3, d4] }
  | _ => none }
def tradeMovesRow : OpenClaim := { program := "ytihcngohiffaeaa", sum := "ed3df3e13cb7d150ddd0fc2ea20e3e193aaf905a3f5e7322a0644ea8633736b3", func := "consol/consollaw32.TradeMoves", spec := "tradeMoves", unfollowed := true, recurses := true, apart := false }
def TradeMovesSaid : Prop := tradeMovesRow.holds Try.pinned (OpenSpec.ofChange tradeMovesSpec)

/-- ITS FALSE NEIGHBOUR: 'it returns false'. Refute it at one input. -/
def tradeMovesWrong : ChangeSpec := { name := "tradeMoves", fn := fun _ => fun
  | [d1, d2, d3, d4] => { results := [.lit (.bool false)], args := [d1, d2, d3, d4] }
  | _ => none }
def TradeMovesWrongFalsely : Prop := tradeMovesRow.holds Try.pinned (OpenSpec.ofChange tradeMovesWrong)

/- THE SECOND FORM. 'bulk': how many values and letters a reading holds, each counted each time it is reached (what is shared counts as often as it is met; a slice's spare places count too). A statement '..UptoSaid' is the law's where the arguments, and the package variables that the reading takes, are together of bulk at most 1048576: NARROWER than '..Said'. Prove '..Said' where nothing that the law and all that it calls make is longer than what came in: it says more and counts as full. Else prove '..UptoSaid'. A law counts once. -/
mutual
def uptoBulk {H : Type} : DataW H → Nat
  | .lit (.string bytes) => bytes.length + 1
  | .lit _ => 1
  | .nil => 1
  | .ptr d => uptoBulk d + 1
  | .slice elems spare => uptoBulkAll elems + uptoBulkAll spare + 1
  | .agg parts => uptoBulkAll parts + 1
  | .iface _ d => uptoBulk d + 1
  | .map entries => uptoBulkEntries entries + 1
  | .held _ => 1
def uptoBulkAll {H : Type} : List (DataW H) → Nat
  | [] => 0
  | d :: r => uptoBulk d + uptoBulkAll r
def uptoBulkEntries {H : Type} : List (Lit × DataW H) → Nat
  | [] => 0
  | x :: r => uptoBulkEntry x + uptoBulkEntries r
def uptoBulkEntry {H : Type} : Lit × DataW H → Nat
  | (.string bytes, d) => bytes.length + uptoBulk d + 1
  | (_, d) => uptoBulk d + 1
 end
def uptoSmall : (H : Type) → List (DataW H) → Bool := fun _ ds => decide (uptoBulkAll ds ≤ 1048576)
def OpenSpec.upto (s : _root_.Go.ChangeSpec) : _root_.Go.OpenSpec := { _root_.Go.OpenSpec.ofChange s with cond := some uptoSmall }

/-- 'consollaw32.TradeLater', WHERE WHAT IT READS IS OF BULK AT MOST 1048576: true; the input reads as it did. -/
def tradeLaterUptoRow : OpenClaim := { program := "ytihcngohiffaeaa", sum := "ed3df3e13cb7d150ddd0fc2ea20e3e193aaf905a3f5e7322a0644ea8633736b3", func := "consol/consollaw32.TradeLater", spec := "tradeLater", unfollowed := true, recurses := true, apart := false, narrowed := true }
def TradeLaterUptoSaid : Prop := tradeLaterUptoRow.holds Try.pinned (OpenSpec.upto tradeLaterSpec)

/-- 'consollaw32.TradeTells', WHERE WHAT IT READS IS OF BULK AT MOST 1048576: true; the input reads as it did. -/
def tradeTellsUptoRow : OpenClaim := { program := "ytihcngohiffaeaa", sum := "ed3df3e13cb7d150ddd0fc2ea20e3e193aaf905a3f5e7322a0644ea8633736b3", func := "consol/consollaw32.TradeTells", spec := "tradeTells", unfollowed := true, recurses := true, apart := false, narrowed := true }
def TradeTellsUptoSaid : Prop := tradeTellsUptoRow.holds Try.pinned (OpenSpec.upto tradeTellsSpec)

/-- 'consollaw32.TradeLoans', WHERE WHAT IT READS IS OF BULK AT MOST 1048576: true; the input reads as it did. -/
def tradeLoansUptoRow : OpenClaim := { program := "ytihcngohiffaeaa", sum := "ed3df3e13cb7d150ddd0fc2ea20e3e193aaf905a3f5e7322a0644ea8633736b3", func := "consol/consollaw32.TradeLoans", spec := "tradeLoans", unfollowed := true, recurses := true, apart := false, narrowed := true }
def TradeLoansUptoSaid : Prop := tradeLoansUptoRow.holds Try.pinned (OpenSpec.upto tradeLoansSpec)

/-- 'consollaw32.TradeMoves', WHERE WHAT IT READS IS OF BULK AT MOST 1048576: true; the input reads as it did. -/
def tradeMovesUptoRow : OpenClaim := { program := "ytihcngohiffaeaa", sum := "ed3df3e13cb7d150ddd0fc2ea20e3e193aaf905a3f5e7322a0644ea8633736b3", func := "consol/consollaw32.TradeMoves", spec := "tradeMoves", unfollowed := true, recurses := true, apart := false, narrowed := true }
def TradeMovesUptoSaid : Prop := tradeMovesUptoRow.holds Try.pinned (OpenSpec.upto tradeMovesSpec)

end Rows
end Go.Proofs.Ytihcngohiffaeaa
