/-
  No cell of these rows narrows 'for every input' (looked for: loops, veiled, ifaces, maps, wideKeys, modest, calm, conditions, laid).
  DERIVED. THE GIVEN ROWS OF THIS SEAT. 5 by the template 'for every input the law returns true; each argument reads behind the call as it read before'; 0 by the template 'total and deterministic' (their statements: YtjoehgmdkeigiaaTotals.lean).
  GIVEN WITH THE SEED: the statements are not yours to turn. If you find one false, say at which input.
  Laid BY PROGRAM, IN A SANDBOX (cutbox-rows.mjs): the forced cells as the released guide's own fill.sh prints them over the translation e810f874a3e43edf… (all of the seat's roots in one cut). By AI agents, Wed Nov 11 2026. No macro, syntax, notation, axiom, sorry.
-/
import Derived.Test.YtjoehgmdkeigiaaChecked
import GoSem.Claim
import GoSem.ClaimJoined
import GoSem.ClaimMapViews
import Derived.JoinedTies
import Derived.KernelRfl
namespace Go.Proofs.Ytjoehgmdkeigiaa
/- THE CELL 'sum', in the pinned program and in every row, IS THE sha256 OF THE DUMP (.gsa) THAT YtjoehgmdkeigiaaProg.lean LOADS. Nothing in Lean hashes anything: it is a label: what it is worth is what the hold of that sum in a sandbox is worth. -/
noncomputable def Try.pinned : Pinned := { name := "ytjoehgmdkeigiaa", sum := "e810f874a3e43edf862c66baa4a55ace6d5905190660b8021964263e1ed780b9", checked := Try.checked }
namespace Rows
def none {H : Type} : Left H := { results := [], args := [] }

/-- 'consollaw33.EntitleTells': WHATEVER THE INPUT: true; the input reads as it did. -/
def entitleTellsSpec : ChangeSpec := { name := "entitleTells", fn := fun _ => fun
  | [d1, d2, d3, d4, d5, d6, d7] => { results := [.lit (.bool true)], args := [d1, d2, d3, d4, d5, d6, d7] }
  | _ => none }
def entitleTellsRow : OpenClaim := { program := "ytjoehgmdkeigiaa", sum := "e810f874a3e43edf862c66baa4a55ace6d5905190660b8021964263e1ed780b9", func := "consol/consollaw33.EntitleTells", spec := "entitleTells", unfollowed := true, recurses := true, apart := false }
def EntitleTellsSaid : Prop := entitleTellsRow.holds Try.pinned (OpenSpec.ofChange entitleTellsSpec)

/-- ITS FALSE NEIGHBOUR: 'it returns false'. Refute it at one input. -/
def entitleTellsWrong : ChangeSpec := { name := "entitleTells", fn := fun _ => fun
  | [d1, d2, d3, d4, d5, d6, d7] => { results := [.lit (.bool false)], args := [d1, d2, d3, d4, d5, d6, d7] }
  | _ => none }
def EntitleTellsWrongFalsely : Prop := entitleTellsRow.holds Try.pinned (OpenSpec.ofChange entitleTellsWrong)

/-- 'consollaw33.EntitleOnce': WHATEVER THE INPUT: true; the input reads as it did. -/
def entitleOnceSpec : ChangeSpec := { name := "entitleOnce", fn := fun _ => fun
  | [d1, d2, d3, d4] => { results := [.lit (.bool true)], args := [d1, d2, d3, d4] }
  | _ => none }
def entitleOnceRow : OpenClaim := { program := "ytjoehgmdkeigiaa", sum := "e810f874a3e43edf862c66baa4a55ace6d5905190660b8021964263e1ed780b9", func := "consol/consollaw33.EntitleOnce", spec := "entitleOnce", unfollowed := true, recurses := true, apart := false }
def EntitleOnceSaid : Prop := entitleOnceRow.holds Try.pinned (OpenSpec.ofChange entitleOnceSpec)

/-- ITS FALSE NEIGHBOUR: 'it returns false'. Refute it at one input. -/
def entitleOnceWrong : ChangeSpec := { name := "entitleOnce", fn := fun _ => fun
  | [d1, d2, d3, d4] => { results := [.lit (.bool false)], args := [d1, d2, d3, d4] }
  | _ => none }
def EntitleOnceWrongFalsely : Prop := entitleOnceRow.holds Try.pinned (OpenSpec.ofChange entitleOnceWrong)

/-- 'consollaw33.EntitleVotes': WHATEVER THE INPUT: true; the input reads as it did. -/
def entitleVotesSpec : ChangeSpec := { name := "entitleVotes", fn := fun _ => fun
  | [d1, d2, d3] => { results := [.lit (.bool true)], args := [d1, d2, d3] }
  | _ => none }
def entitleVotesRow : OpenClaim := { program := "ytjoehgmdkeigiaa", sum := "e810f874a3e43edf862c66baa4a55ace6d5905190660b8021964263e1ed780b9", func := "consol/consollaw33.EntitleVotes", spec := "entitleVotes", unfollowed := true, recurses := true, apart := false }
def EntitleVotesSaid : Prop := entitleVotesRow.holds Try.pinned (OpenSpec.ofChange entitleVotesSpec)

/-- ITS FALSE NEIGHBOUR: 'it returns false'. Refute it at one input. -/
def entitleVotesWrong : ChangeSpec := { name := "entitleVotes", fn := fun _ => fun
  | [d1, d2, d3] => { results := [.lit (.bool false)], args := [d1, d2, d3] }
  | _ => none }
def EntitleVotesWrongFalsely : Prop := entitleVotesRow.holds Try.pinned (OpenSpec.ofChange entitleVotesWrong)

/-- 'consollaw33.EntitleAdds': WHATEVER THE INPUT: true; the input reads as it did. -/
def entitleAddsSpec : ChangeSpec := { name := "entitleAdds", fn := fun _ => fun
  | [d1, d2, d3, d4, d5] => { results := [.lit (.bool true)], args := [d1, d2, d3, d4, d5] }
  | _ => none }
def entitleAddsRow : OpenClaim := { program := "ytjoehgmdkeigiaa", sum := "e810f874a3e43edf862c66baa4a55ace6d5905190660b8021964263e1ed780b9", func := "consol/consollaw33.EntitleAdds", spec := "entitleAdds", unfollowed := true, recurses := true, apart := false }
def EntitleAddsSaid : Prop := entitleAddsRow.holds Try.pinned (OpenSpec.ofChange entitleAddsSpec)

/-- ITS FALSE NEIGHBOUR: 'it returns false'. Refute it at one input. -/
def entitleAddsWrong : ChangeSpec := { name := "entitleAdds", fn := fun _ => fun
  | [d1, d2, d3, d4, d5] => { results := [.lit (.bool false)], args := [d1, d2, d3, d4, d5] }
  | _ => none }
def EntitleAddsWrongFalsely : Prop := entitleAddsRow.holds Try.pinned (OpenSpec.ofChange entitleAddsWrong)

/-- 'consollaw33.EntitleSettles': WHATEVER THE INPUT: true; the input reads as it did. -/
def entitleSettlesSpec : ChangeSpec := { name := "entitleSettles", fn := fun _ => fun
  | [d1, d2, d3, d4] => { results := [.lit (.bool true)], args := [d1, d2, d3, d4] }
  | _ => none }
def entitleSettlesRow : OpenClaim := { program := "ytjoehgmdkeigiaa", sum := "e810f874a3e43edf862c66baa4a55ace6d5905190660b8021964263e1ed780b9", func := "consol/consollaw33.EntitleSettles", spec := "entitleSettles", unfollowed := true, recurses := true, apart := false }
def EntitleSettlesSaid : Prop := entitleSettlesRow.holds Try.pinned (OpenSpec.ofChange entitleSettlesSpec)

/-- ITS FALSE NEIGHBOUR: 'it returns false'. Refute it at one input. -/
def entitleSettlesWrong : ChangeSpec := { name := "entitleSettles", fn := fun _ => fun
  | [d1, d2, d3, d4] => { results := [.lit (.bool false)], args := [d1, d2, d3, d4] }
  | _ => none }
def EntitleSettlesWrongFalsely : Prop := entitleSettlesRow.holds Try.pinned (OpenSpec.ofChange entitleSettlesWrong)

/- THE SECOND FORM. 'bulk': how many values and letters a reading holds, each counted each time it is reached (what is shared counts as often as it is met; a slice's spare places count too). A statement '..UptoSaid' is the law's where the arguments, and the package variables that the reading takes, are together of bulk at most 1048576: NARROWER than '..Said'. Prove '..Said' where nothing that the law and all that it calls make is longer than what came in: it says more and counts as full. Else prove '..UptoSaid'. A law counts once. -/
mutual
def uptoBulk {H : Type} : DataW H → Nat
  | .lit (.string bytes) => bytes.length + 1
  | .lit _ => 1
  | .nil => 1
  | .ptr d => uptoBulk d + 1
  | .slice elems spare => uptoBulkAll elems + uptoBulkAll spare + 1
  | .agg parts => uptoBulkAll parts + 1
  | .iface _ d => uptoBulk d + 1
  | .map entries => uptoBulkEntries entries + 1
  | .held _ => 1
def uptoBulkAll {H : Type} : List (DataW H) → Nat
  | [] => 0
  | d :: r => uptoBulk d + uptoBulkAll r
def uptoBulkEntries {H : Type} : List (Lit × DataW H) → Nat
  | [] => 0
  | x :: r => uptoBulkEntry x + uptoBulkEntries r
def uptoBulkEntry {H : Type} : Lit × DataW H → Nat
  | (.string bytes, d) => bytes.length + uptoBulk d + 1
  | (_, d) => uptoBulk d + 1
 end
def uptoSmall : (H : Type) → List (DataW H) → Bool := fun _ ds => decide (uptoBulkAll ds ≤ 1048576)
def OpenSpec.upto (s : _root_.Go.ChangeSpec) : _root_.Go.OpenSpec := { _root_.Go.OpenSpec.ofChange s with cond := some uptoSmall }

/-- 'consollaw33.EntitleTells', WHERE WHAT IT READS IS OF BULK AT MOST 1048576: true; the input reads as it did. -/
def entitleTellsUptoRow : OpenClaim := { program := "ytjoehgmdkeigiaa", sum := "e810f874a3e43edf862c66baa4a55ace6d5905190660b8021964263e1ed780b9", func := "consol/consollaw33.EntitleTells", spec := "entitleTells", unfollowed := true, recurses := true, apart := false, narrowed := true }
def EntitleTellsUptoSaid : Prop := entitleTellsUptoRow.holds Try.pinned (OpenSpec.upto entitleTellsSpec)

/-- 'consollaw33.EntitleOnce', WHERE WHAT IT READS IS OF BULK AT MOST 1048576: true; the input reads as it did. -/
def entitleOnceUptoRow : OpenClaim := { program := "ytjoehgmdkeigiaa", sum := "e810f874a3e43edf862c66baa4a55ace6d5905190660b8021964263e1ed780b9", func := "consol/consollaw33.EntitleOnce", spec := "entitleOnce", unfollowed := true, recurses := true, apart := false, narrowed := true }
def EntitleOnceUptoSaid : Prop := entitleOnceUptoRow.holds Try.pinned (OpenSpec.upto entitleOnceSpec)

/-- 'consollaw33.EntitleVotes', WHERE WHAT IT READS IS OF BULK AT MOST 1048576: true; the input reads as it did. -/
def entitleVotesUptoRow : OpenClaim := { program := "ytjoehgmdkeigiaa", sum := "e810f874a3e43edf862c66baa4a55ace6d5905190660b8021964263e1ed780b9", func := "consol/consollaw33.EntitleVotes", spec := "entitleVotes", unfollowed := true, recurses := true, apart := false, narrowed := true }
def EntitleVotesUptoSaid : Prop := entitleVotesUptoRow.holds Try.pinned (OpenSpec.upto entitleVotesSpec)

/-- 'consollaw33.EntitleAdds', WHERE WHAT IT READS IS OF BULK AT MOST 1048576: true; the input reads as it did. -/
def entitleAddsUptoRow : OpenClaim := { program := "ytjoehgmdkeigiaa", sum := "e810f874a3e43edf862c66baa4a55ace6d5905190660b8021964263e1ed780b9", func := "consol/consollaw33.EntitleAdds", spec := "entitleAdds", unfollowed := true, recurses := true, apart := false, narrowed := true }
def EntitleAddsUptoSaid : Prop := entitleAddsUptoRow.holds Try.pinned (OpenSpec.upto entitleAddsSpec)

/-- 'consollaw33.EntitleSettles', WHERE WHAT IT READS IS OF BULK AT MOST 1048576: true; the input reads as it did. -/
def entitleSettlesUptoRow : OpenClaim := { program := "ytjoehgmdkeigiaa", sum := "e810f874a3e43edf862c66baa4a55ace6d5905190660b8021964263e1ed780b9", func := "consol/consollaw33.EntitleSettles", spec := "entitleSettles", unfollowed := true, recurses := true, apart := false, narrowed := true }
def EntitleSettlesUptoSaid : Prop := entitleSettlesUptoRow.holds Try.pinned (OpenSpec.upto entitleSettlesSpec)

end Rows
end Go.Proofs.Ytjoehgmdkeigiaa
