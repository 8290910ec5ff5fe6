/-
  No cell of these rows narrows 'for every input' (looked for: loops, veiled, ifaces, maps, wideKeys, modest, calm, conditions, laid).
  DERIVED. THE GIVEN ROWS OF THIS SEAT. 4 by the template 'for every input the law returns true; each argument reads behind the call as it read before'; 0 by the template 'total and deterministic' (their statements: YtajnmcabnkidjaaTotals.lean).
  GIVEN WITH THE SEED: the statements are not yours to turn. If you find one false, say at which input.
  Laid BY PROGRAM, IN A SANDBOX (cutbox-rows.mjs): the forced cells as the released guide's own fill.sh prints them over the translation baac3f5975c203c3… (all of the seat's roots in one cut). By AI agents, Wed Nov 11 2026. No macro, syntax, notation, axiom, sorry.
-/
import Derived.Test.YtajnmcabnkidjaaChecked
import GoSem.Claim
import GoSem.ClaimJoined
import GoSem.ClaimMapViews
import Derived.JoinedTies
import Derived.KernelRfl
namespace Go.Proofs.Ytajnmcabnkidjaa
/- THE CELL 'sum', in the pinned program and in every row, IS THE sha256 OF THE DUMP (.gsa) THAT YtajnmcabnkidjaaProg.lean LOADS. Nothing in Lean hashes anything: it is a label: what it is worth is what the hold of that sum in a sandbox is worth. -/
noncomputable def Try.pinned : Pinned := { name := "ytajnmcabnkidjaa", sum := "baac3f5975c203c31ab585489d9c5875db04c96f12aa7b8c38a16047accd1e59", checked := Try.checked }
namespace Rows
def none {H : Type} : Left H := { results := [], args := [] }

/-- 'consollaw23.FallTells': WHATEVER THE INPUT: true; the input reads as it did. -/
def fallTellsSpec : ChangeSpec := { name := "fallTells", fn := fun _ => fun
  | [d1, d2, d3] => { results := [.lit (.bool true)], args := [d1, d2, d3] }
  | _ => none }
def fallTellsRow : OpenClaim := { program := "ytajnmcabnkidjaa", sum := "baac3f5975c203c31ab585489d9c5875db04c96f12aa7b8c38a16047accd1e59", func := "consol/consollaw23.FallTells", spec := "fallTells", unfollowed := true, recurses := true, apart := false }
def FallTellsSaid : Prop := fallTellsRow.holds Try.pinned (OpenSpec.ofChange fallTellsSpec)

/-- ITS FALSE NEIGHBOUR: 'it returns false'. Refute it at one input. -/
def fallTellsWrong : ChangeSpec := { name := "fallTells", fn := fun _ => fun
  | [d1, d2, d3] => { results := [.lit (.bool false)], args := [d1, d2, d3] }
  | _ => none }
def FallTellsWrongFalsely : Prop := fallTellsRow.holds Try.pinned (OpenSpec.ofChange fallTellsWrong)

/-- 'consollaw23.FallKeeps': WHATEVER THE INPUT: true; the input reads as it did. -/
def fallKeepsSpec : ChangeSpec := { name := "fallKeeps", fn := fun _ => fun
  | [d1, d2] => { results := [.lit (.bool true)], args := [d1, d2] }
  | _ => none }
def fallKeepsRow : OpenClaim := { program := "ytajnmcabnkidjaa", sum := "baac3f5975c203c31ab585489d9c5875db04c96f12aa7b8c38a16047accd1e59", func := "consol/consollaw23.FallKeeps", spec := "fallKeeps", unfollowed := true, recurses := true, apart := false }
def FallKeepsSaid : Prop := fallKeepsRow.holds Try.pinned (OpenSpec.ofChange fallKeepsSpec)

/-- ITS FALSE NEIGHBOUR: 'it returns false'. Refute it at one input. -/
def fallKeepsWrong : ChangeSpec := { name := "fallKeeps", fn := fun _ => fun
  | [d1, d2] => { results := [.lit (.bool false)], args := [d1, d2] }
  | _ => none }
def FallKeepsWrongFalsely : Prop := fallKeepsRow.holds Try.pinned (OpenSpec.ofChange fallKeepsWrong)

/-- 'consollaw23.FallOrder': WHATEVER THE INPUT: true; the input reads as it did. -/
def fallOrderSpec : ChangeSpec := { name := "fallOrder", fn := fun _ => fun
  | [d1, d2] => { results := [.lit (.bool true)], args := [d1, d2] }
  | _ => none }
def fallOrderRow : OpenClaim := { program := "ytajnmcabnkidjaa", sum := "baac3f5975c203c31ab585489d9c5875db04c96f12aa7b8c38a16047accd1e59", func := "consol/consollaw23.FallOrder", spec := "fallOrder", unfollowed := true, recurses := true, apart := false }
def FallOrderSaid : Prop := fallOrderRow.holds Try.pinned (OpenSpec.ofChange fallOrderSpec)

/-- ITS FALSE NEIGHBOUR: 'it returns false'. Refute it at one input. -/
def fallOrderWrong : ChangeSpec := { name := "fallOrder", fn := fun _ => fun
  | [d1, d2] => { results := [.lit (.bool false)], args := [d1, d2] }
  | _ => none }
def FallOrderWrongFalsely : Prop := fallOrderRow.holds Try.pinned (OpenSpec.ofChange fallOrderWrong)

/-- 'consollaw23.FallTwice': WHATEVER THE INPUT: true; the input reads as it did. -/
def fallTwiceSpec : ChangeSpec := { name := "fallTwice", fn := fun _ => fun
  | [d1, d2, d3] => { results := [.lit (.bool true)], args := [d1, d2, d3] }
  | _ => none }
def fallTwiceRow : OpenClaim := { program := "ytajnmcabnkidjaa", sum := "baac3f5975c203c31ab585489d9c5875db04c96f12aa7b8c38a16047accd1e59", func := "consol/consollaw23.FallTwice", spec := "fallTwice", unfollowed := true, recurses := true, apart := false }
def FallTwiceSaid : Prop := fallTwiceRow.holds Try.pinned (OpenSpec.ofChange fallTwiceSpec)

/-- ITS FALSE NEIGHBOUR: 'it returns false'. Refute it at one input. -/
def fallTwiceWrong : ChangeSpec := { name := "fallTwice", fn := fun _ => fun
  | [d1, d2, d3] => { results := [.lit (.bool false)], args := [d1, d2, d3] }
  | _ => none }
def FallTwiceWrongFalsely : Prop := fallTwiceRow.holds Try.pinned (OpenSpec.ofChange fallTwiceWrong)

/- THE SECOND FORM. 'bulk': how many values and letters a reading holds, each counted each time it is reached (what is shared counts as often as it is met; a slice's spare places count too). A statement '..UptoSaid' is the law's where the arguments, and the package variables that the reading takes, are together of bulk at most 1048576: NARROWER than '..Said'. Prove '..Said' where nothing that the law and all that it calls make is longer than what came in: it says more and counts as full. Else prove '..UptoSaid'. A law counts once. -/
mutual
def uptoBulk {H : Type} : DataW H → Nat
  | .lit (.string bytes) => bytes.length + 1
  | .lit _ => 1
  | .nil => 1
  | .ptr d => uptoBulk d + 1
  | .slice elems spare => uptoBulkAll elems + uptoBulkAll spare + 1
  | .agg parts => uptoBulkAll parts + 1
  | .iface _ d => uptoBulk d + 1
  | .map entries => uptoBulkEntries entries + 1
  | .held _ => 1
def uptoBulkAll {H : Type} : List (DataW H) → Nat
  | [] => 0
  | d :: r => uptoBulk d + uptoBulkAll r
def uptoBulkEntries {H : Type} : List (Lit × DataW H) → Nat
  | [] => 0
  | x :: r => uptoBulkEntry x + uptoBulkEntries r
def uptoBulkEntry {H : Type} : Lit × DataW H → Nat
  | (.string bytes, d) => bytes.length + uptoBulk d + 1
  | (_, d) => uptoBulk d + 1
 end
def uptoSmall : (H : Type) → List (DataW H) → Bool := fun _ ds => decide (uptoBulkAll ds ≤ 1048576)
def OpenSpec.upto (s : _root_.Go.ChangeSpec) : _root_.Go.OpenSpec := { _root_.Go.OpenSpec.ofChange s with cond := some uptoSmall }

/-- 'consollaw23.FallTells', WHERE WHAT IT READS IS OF BULK AT MOST 1048576: true; the input reads as it did. -/
def fallTellsUptoRow : OpenClaim := { program := "ytajnmcabnkidjaa", sum := "baac3f5975c203c31ab585489d9c5875db04c96f12aa7b8c38a16047accd1e59", func := "consol/consollaw23.FallTells", spec := "fallTells", unfollowed := true, recurses := true, apart := false, narrowed := true }
def FallTellsUptoSaid : Prop := fallTellsUptoRow.holds Try.pinned (OpenSpec.upto fallTellsSpec)

/-- 'consollaw23.FallKeeps', WHERE WHAT IT READS IS OF BULK AT MOST 1048576: true; the input reads as it did. -/
def fallKeepsUptoRow : OpenClaim := { program := "ytajnmcabnkidjaa", sum := "baac3f5975c203c31ab585489d9c5875db04c96f12aa7b8c38a16047accd1e59", func := "consol/consollaw23.FallKeeps", spec := "fallKeeps", unfollowed := true, recurses := true, apart := false, narrowed := true }
def FallKeepsUptoSaid : Prop := fallKeepsUptoRow.holds Try.pinned (OpenSpec.upto fallKeepsSpec)

/-- 'consollaw23.FallOrder', WHERE WHAT IT READS IS OF BULK AT MOST 1048576: true; the input reads as it did. -/
def fallOrderUptoRow : OpenClaim := { program := "ytajnmcabnkidjaa", sum := "baac3f5975c203c31ab585489d9c5875db04c96f12aa7b8c38a16047accd1e59", func := "consol/consollaw23.FallOrder", spec := "fallOrder", unfollowed := true, recurses := true, apart := false, narrowed := true }
def FallOrderUptoSaid : Prop := fallOrderUptoRow.holds Try.pinned (OpenSpec.upto fallOrderSpec)

/-- 'consollaw23.FallTwice', WHERE WHAT IT READS IS OF BULK AT MOST 1048576: true; the input reads as it did. -/
def fallTwiceUptoRow : OpenClaim := { program := "ytajnmcabnkidjaa", sum := "baac3f5975c203c31ab585489d9c5875db04c96f12aa7b8c38a16047accd1e59", func := "consol/consollaw23.FallTwice", spec := "fallTwice", unfollowed := true, recurses := true, apart := false, narrowed := true }
def FallTwiceUptoSaid : Prop := fallTwiceUptoRow.holds Try.pinned (OpenSpec.upto fallTwiceSpec)

end Rows
end Go.Proofs.Ytajnmcabnkidjaa
