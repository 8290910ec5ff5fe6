/-
  No cell of these rows narrows 'for every input' (looked for: loops, veiled, ifaces, maps, wideKeys, modest, calm, conditions, laid).
  DERIVED. THE GIVEN ROWS OF THIS SEAT. 4 by the template 'for every input the law returns true; each argument reads behind the call as it read before'; 0 by the template 'total and deterministic' (their statements: YtapalendgokfoaaTotals.lean).
  GIVEN WITH THE SEED: the statements are not yours to turn. If you find one false, say at which input.
  Laid BY PROGRAM, IN A SANDBOX (cutbox-rows.mjs): the forced cells as the released guide's own fill.sh prints them over the translation 8d91344dddce7554… (all of the seat's roots in one cut). By AI agents, Wed Nov 11 2026. No macro, syntax, notation, axiom, sorry.
-/
import Derived.Test.YtapalendgokfoaaChecked
import GoSem.Claim
import GoSem.ClaimJoined
import GoSem.ClaimMapViews
import Derived.JoinedTies
import Derived.KernelRfl
namespace Go.Proofs.Ytapalendgokfoaa
/- THE CELL 'sum', in the pinned program and in every row, IS THE sha256 OF THE DUMP (.gsa) THAT YtapalendgokfoaaProg.lean LOADS. Nothing in Lean hashes anything: it is a label: what it is worth is what the hold of that sum in a sandbox is worth. -/
noncomputable def Try.pinned : Pinned := { name := "ytapalendgokfoaa", sum := "8d91344dddce755409d41d5a959448f34638ddc5d7145efb9dd272158b90b403", checked := Try.checked }
namespace Rows
def none {H : Type} : Left H := { results := [], args := [] }

/-- 'consollaw46.AgentTells': WHATEVER THE INPUT: true; the input reads as it did. -/
def agentTellsSpec : ChangeSpec := { name := "agentTells", fn := fun _ => fun
  | [d1, d2, d3] => { results := [.lit (.bool true)], args := [d1, d2, d3] }
  | _ => none }
def agentTellsRow : OpenClaim := { program := "ytapalendgokfoaa", sum := "8d91344dddce755409d41d5a959448f34638ddc5d7145efb9dd272158b90b403", func := "consol/consollaw46.AgentTells", spec := "agentTells", apart := false }
def AgentTellsSaid : Prop := agentTellsRow.holds Try.pinned (OpenSpec.ofChange agentTellsSpec)

/-- ITS FALSE NEIGHBOUR: 'it returns false'. Refute it at one input. -/
def agentTellsWrong : ChangeSpec := { name := "agentTells", fn := fun _ => fun
  | [d1, d2, d3] => { results := [.lit (.bool false)], args := [d1, d2, d3] }
  | _ => none }
def AgentTellsWrongFalsely : Prop := agentTellsRow.holds Try.pinned (OpenSpec.ofChange agentTellsWrong)

/-- 'consollaw46.AgentKeeps': WHATEVER THE INPUT: true; the input reads as it did. -/
def agentKeepsSpec : ChangeSpec := { name := "agentKeeps", fn := fun _ => fun
  | [d] => { results := [.lit (.bool true)], args := [d] }
  | _ => none }
def agentKeepsRow : OpenClaim := { program := "ytapalendgokfoaa", sum := "8d91344dddce755409d41d5a959448f34638ddc5d7145efb9dd272158b90b403", func := "consol/consollaw46.AgentKeeps", spec := "agentKeeps", apart := false }
def AgentKeepsSaid : Prop := agentKeepsRow.holds Try.pinned (OpenSpec.ofChange agentKeepsSpec)

/-- ITS FALSE NEIGHBOUR: 'it returns false'. Refute it at one input. -/
def agentKeepsWrong : ChangeSpec := { name := "agentKeeps", fn := fun _ => fun
  | [d] => { results := [.lit (.bool false)], args := [d] }
  | _ => none }
def AgentKeepsWrongFalsely : Prop := agentKeepsRow.holds Try.pinned (OpenSpec.ofChange agentKeepsWrong)

/-- 'consollaw46.AgentBack': WHATEVER THE INPUT: true; the input reads as it did. -/
def agentBackSpec : ChangeSpec := { name := "agentBack", fn := fun _ => fun
  | [d1, d2, d3, d4] => { results := [.lit (.bool true)], args := [d1, d2, d3, d4] }
  | _ => none }
def agentBackRow : OpenClaim := { program := "ytapalendgokfoaa", sum := "8d91344dddce755409d41d5a959448f34638ddc5d7145efb9dd272158b90b403", func := "consol/consollaw46.AgentBack", spec := "agentBack", apart := false }
def AgentBackSaid : Prop := agentBackRow.holds Try.pinned (OpenSpec.ofChange agentBackSpec)

/-- ITS FALSE NEIGHBOUR: 'it returns false'. Refute it at one input. -/
def agentBackWrong : ChangeSpec := { name := "agentBack", fn := fun _ => fun
  | [d1, d2, d3, d4] => { results := [.lit (.bool false)], args := [d1, d2, d3, d4] }
  | _ => none }
def AgentBackWrongFalsely : Prop := agentBackRow.holds Try.pinned (OpenSpec.ofChange agentBackWrong)

/-- 'consollaw46.AgentGone': WHATEVER THE INPUT: true; the input reads as it did. -/
def agentGoneSpec : ChangeSpec := { name := "agentGone", fn := fun _ => fun
  | [d1, d2, d3] => { results := [.lit (.bool true)], args := [d1, d2, d3] }
  | _ => none }
def agentGoneRow : OpenClaim := { program := "ytapalendgokfoaa", sum := "8d91344dddce755409d41d5a959448f34638ddc5d7145efb9dd272158b90b403", func := "consol/consollaw46.AgentGone", spec := "agentGone", apart := false }
def AgentGoneSaid : Prop := agentGoneRow.holds Try.pinned (OpenSpec.ofChange agentGoneSpec)

/-- ITS FALSE NEIGHBOUR: 'it returns false'. Refute it at one input. -/
def agentGoneWrong : ChangeSpec := { name := "agentGone", fn := fun _ => fun
  | [d1, d2, d3] => { results := [.lit (.bool false)], args := [d1, d2, d3] }
  | _ => none }
def AgentGoneWrongFalsely : Prop := agentGoneRow.holds Try.pinned (OpenSpec.ofChange agentGoneWrong)

/- THE SECOND FORM. 'bulk': how many values and letters a reading holds, each counted each time it is reached (what is shared counts as often as it is met; a slice's spare places count too). A statement '..UptoSaid' is the law's where the arguments, and the package variables that the reading takes, are together of bulk at most 1048576: NARROWER than '..Said'. Prove '..Said' where nothing that the law and all that it calls make is longer than what came in: it says more and counts as full. Else prove '..UptoSaid'. A law counts once. -/
mutual
def uptoBulk {H : Type} : DataW H → Nat
  | .lit (.string bytes) => bytes.length + 1
  | .lit _ => 1
  | .nil => 1
  | .ptr d => uptoBulk d + 1
  | .slice elems spare => uptoBulkAll elems + uptoBulkAll spare + 1
  | .agg parts => uptoBulkAll parts + 1
  | .iface _ d => uptoBulk d + 1
  | .map entries => uptoBulkEntries entries + 1
  | .held _ => 1
def uptoBulkAll {H : Type} : List (DataW H) → Nat
  | [] => 0
  | d :: r => uptoBulk d + uptoBulkAll r
def uptoBulkEntries {H : Type} : List (Lit × DataW H) → Nat
  | [] => 0
  | x :: r => uptoBulkEntry x + uptoBulkEntries r
def uptoBulkEntry {H : Type} : Lit × DataW H → Nat
  | (.string bytes, d) => bytes.length + uptoBulk d + 1
  | (_, d) => uptoBulk d + 1
 end
def uptoSmall : (H : Type) → List (DataW H) → Bool := fun _ ds => decide (uptoBulkAll ds ≤ 1048576)
def OpenSpec.upto (s : _root_.Go.ChangeSpec) : _root_.Go.OpenSpec := { _root_.Go.OpenSpec.ofChange s with cond := some uptoSmall }

/-- 'consollaw46.AgentTells', WHERE WHAT IT READS IS OF BULK AT MOST 1048576: true; the input reads as it did. -/
def agentTellsUptoRow : OpenClaim := { program := "ytapalendgokfoaa", sum := "8d91344dddce755409d41d5a959448f34638ddc5d7145efb9dd272158b90b403", func := "consol/consollaw46.AgentTells", spec := "agentTells", apart := false, narrowed := true }
def AgentTellsUptoSaid : Prop := agentTellsUptoRow.holds Try.pinned (OpenSpec.upto agentTellsSpec)

/-- 'consollaw46.AgentKeeps', WHERE WHAT IT READS IS OF BULK AT MOST 1048576: true; the input reads as it did. -/
def agentKeepsUptoRow : OpenClaim := { program := "ytapalendgokfoaa", sum := "8d91344dddce755409d41d5a959448f34638ddc5d7145efb9dd272158b90b403", func := "consol/consollaw46.AgentKeeps", spec := "agentKeeps", apart := false, narrowed := true }
def AgentKeepsUptoSaid : Prop := agentKeepsUptoRow.holds Try.pinned (OpenSpec.upto agentKeepsSpec)

/-- 'consollaw46.AgentBack', WHERE WHAT IT READS IS OF BULK AT MOST 1048576: true; the input reads as it did. -/
def agentBackUptoRow : OpenClaim := { program := "ytapalendgokfoaa", sum := "8d91344dddce755409d41d5a959448f34638ddc5d7145efb9dd272158b90b403", func := "consol/consollaw46.AgentBack", spec := "agentBack", apart := false, narrowed := true }
def AgentBackUptoSaid : Prop := agentBackUptoRow.holds Try.pinned (OpenSpec.upto agentBackSpec)

/-- 'consollaw46.AgentGone', WHERE WHAT IT READS IS OF BULK AT MOST 1048576: true; the input reads as it did. -/
def agentGoneUptoRow : OpenClaim := { program := "ytapalendgokfoaa", sum := "8d91344dddce755409d41d5a959448f34638ddc5d7145efb9dd272158b90b403", func := "consol/consollaw46.AgentGone", spec := "agentGone", apart := false, narrowed := true }
def AgentGoneUptoSaid : Prop := agentGoneUptoRow.holds Try.pinned (OpenSpec.upto agentGoneSpec)

end Rows
end Go.Proofs.Ytapalendgokfoaa
