/-
  No cell of these rows narrows 'for every input' (looked for: loops, veiled, ifaces, maps, wideKeys, modest, calm, conditions, laid).
  DERIVED. THE GIVEN ROWS OF THIS SEAT. 4 by the template 'for every input the law returns true; each argument reads behind the call as it read before'; 0 by the template 'total and deterministic' (their statements: YtgfndgkdamomdaaTotals.lean).
  GIVEN WITH THE SEED: the statements are not yours to turn. If you find one false, say at which input.
  Laid BY PROGRAM, IN A SANDBOX (cutbox-rows.mjs): the forced cells as the released guide's own fill.sh prints them over the translation 356010b7ed85c886… (all of the seat's roots in one cut). By AI agents, Wed Nov 11 2026. No macro, syntax, notation, axiom, sorry.
-/
import Derived.Test.YtgfndgkdamomdaaChecked
import GoSem.Claim
import GoSem.ClaimJoined
import GoSem.ClaimMapViews
import Derived.JoinedTies
import Derived.KernelRfl
namespace Go.Proofs.Ytgfndgkdamomdaa
/- THE CELL 'sum', in the pinned program and in every row, IS THE sha256 OF THE DUMP (.gsa) THAT YtgfndgkdamomdaaProg.lean LOADS. Nothing in Lean hashes anything: it is a label: what it is worth is what the hold of that sum in a sandbox is worth. -/
noncomputable def Try.pinned : Pinned := { name := "ytgfndgkdamomdaa", sum := "356010b7ed85c886e84d1da78661013767ae3b0055f6f7f2015d6ffc45172256", checked := Try.checked }
namespace Rows
def none {H : Type} : Left H := { results := [], args := [] }

/-- 'guerdonlaw48.ShardOf': WHATEVER THE INPUT: true; the input reads as it did. -/
def shardOfSpec : ChangeSpec := { name := "shardOf", fn := fun _ => fun
  | [d1, d2] => { results := [.lit (.bool true)], args := [d1, d2] }
  | _ => none }
def shardOfRow : OpenClaim := { program := "ytgfndgkdamomdaa", sum := "356010b7ed85c886e84d1da78661013767ae3b0055f6f7f2015d6ffc45172256", func := "guerdon/guerdonlaw48.ShardOf", spec := "shardOf", apart := false }
def ShardOfSaid : Prop := shardOfRow.holds Try.pinned (OpenSpec.ofChange shardOfSpec)

/-- ITS FALSE NEIGHBOUR: 'it returns false'. Refute it at one input. -/
def shardOfWrong : ChangeSpec := { name := "shardOf", fn := fun _ => fun
  | [d1, d2] => { results := [.lit (.bool false)], args := [d1, d2] }
  | _ => none }
def ShardOfWrongFalsely : Prop := shardOfRow.holds Try.pinned (OpenSpec.ofChange shardOfWrong)

/-- 'guerdonlaw48.ShardLists': WHATEVER THE INPUT: true; the input reads as it did. -/
def shardListsSpec : ChangeSpec := { name := "shardLists", fn := fun _ => fun
  | [d1, d2] => { results := [.lit (.bool true)], args := [d1, d2] }
  | _ => none }
def shardListsRow : OpenClaim := { program := "ytgfndgkdamomdaa", sum := "356010b7ed85c886e84d1da78661013767ae3b0055f6f7f2015d6ffc45172256", func := "guerdon/guerdonlaw48.ShardLists", spec := "shardLists", apart := false }
def ShardListsSaid : Prop := shardListsRow.holds Try.pinned (OpenSpec.ofChange shardListsSpec)

/-- ITS FALSE NEIGHBOUR: 'it returns false'. Refute it at one input. -/
def shardListsWrong : ChangeSpec := { name := "shardLists", fn := fun _ => fun
  | [d1, d2] => { results := [.lit (.bool false)], args := [d1, d2] }
  | _ => none }
def ShardListsWrongFalsely : Prop := shardListsRow.holds Try.pinned (OpenSpec.ofChange shardListsWrong)

/-- 'guerdonlaw48.ShardMerge': WHATEVER THE INPUT: true; the input reads as it did. -/
def shardMergeSpec : ChangeSpec := { name := "shardMerge", fn := fun _ => fun
  | [d1, d2, d3] => { results := [.lit (.bool true)], args := [d1, d2, d3] }
  | _ => none }
def shardMergeRow : OpenClaim := { program := "ytgfndgkdamomdaa", sum := "356010b7ed85c886e84d1da78661013767ae3b0055f6f7f2015d6ffc45172256", func := "guerdon/guerdonlaw48.ShardMerge", spec := "shardMerge", apart := false }
def ShardMergeSaid : Prop := shardMergeRow.holds Try.pinned (OpenSpec.ofChange shardMergeSpec)

/-- ITS FALSE NEIGHBOUR: 'it returns false'. Refute it at one input. -/
def shardMergeWrong : ChangeSpec := { name := "shardMerge", fn := fun _ => fun
  | [d1, d2, d3] => { results := [.lit (.bool false)], args := [d1, d2, d3] }
  | _ => none }
def ShardMergeWrongFalsely : Prop := shardMergeRow.holds Try.pinned (OpenSpec.ofChange shardMergeWrong)

/-- 'guerdonlaw48.ShardPartition': WHATEVER THE INPUT: true; the input reads as it did. -/
def shardPartitionSpec : ChangeSpec := { name := "shardPartition", fn := fun _ => fun
  | [d1, d2] => { results := [.lit (.bool true)], args := [d1, d2] }
  | _ => none }
def shardPartitionRow : OpenClaim := { program := "ytgfndgkdamomdaa", sum := "356010b7ed85c886e84d1da78661013767ae3b0055f6f7f2015d6ffc45172256", func := "guerdon/guerdonlaw48.ShardPartition", spec := "shardPartition", apart := false }
def ShardPartitionSaid : Prop := shardPartitionRow.holds Try.pinned (OpenSpec.ofChange shardPartitionSpec)

/-- ITS FALSE NEIGHBOUR: 'it returns false'. Refute it at one input. -/
def shardPartitionWrong : ChangeSpec := { name := "shardPartition", fn := fun _ => fun
  | [d1, d2] => { results := [.lit (.bool false)], args := [d1, d2] }
  | _ => none }
def ShardPartitionWrongFalsely : Prop := shardPartitionRow.holds Try.pinned (OpenSpec.ofChange shardPartitionWrong)

/- THE SECOND FORM. 'bulk': how many values and letters a reading holds, each counted each time it is reached (what is shared counts as often as it is met; a slice's spare places count too). A statement '..UptoSaid' is the law's where the arguments, and the package variables that the reading takes, are together of bulk at most 1048576: NARROWER than '..Said'. Prove '..Said' where nothing that the law and all that it calls make is longer than what came in: it says more and counts as full. Else prove '..UptoSaid'. A law counts once. -/
mutual
def uptoBulk {H : Type} : DataW H → Nat
  | .lit (.string bytes) => bytes.length + 1
  | .lit _ => 1
  | .nil => 1
  | .ptr d => uptoBulk d + 1
  | .slice elems spare => uptoBulkAll elems + uptoBulkAll spare + 1
  | .agg parts => uptoBulkAll parts + 1
  | .iface _ d => uptoBulk d + 1
  | .map entries => uptoBulkEntries entries + 1
  | .held _ => 1
def uptoBulkAll {H : Type} : List (DataW H) → Nat
  | [] => 0
  | d :: r => uptoBulk d + uptoBulkAll r
def uptoBulkEntries {H : Type} : List (Lit × DataW H) → Nat
  | [] => 0
  | x :: r => uptoBulkEntry x + uptoBulkEntries r
def uptoBulkEntry {H : Type} : Lit × DataW H → Nat
  | (.string bytes, d) => bytes.length + uptoBulk d + 1
  | (_, d) => uptoBulk d + 1
 end
def uptoSmall : (H : Type) → List (DataW H) → Bool := fun _ ds => decide (uptoBulkAll ds ≤ 1048576)
def OpenSpec.upto (s : _root_.Go.ChangeSpec) : _root_.Go.OpenSpec := { _root_.Go.OpenSpec.ofChange s with cond := some uptoSmall }

/-- 'guerdonlaw48.ShardOf', WHERE WHAT IT READS IS OF BULK AT MOST 1048576: true; the input reads as it did. -/
def shardOfUptoRow : OpenClaim := { program := "ytgfndgkdamomdaa", sum := "356010b7ed85c886e84d1da78661013767ae3b0055f6f7f2015d6ffc45172256", func := "guerdon/guerdonlaw48.ShardOf", spec := "shardOf", apart := false, narrowed := true }
def ShardOfUptoSaid : Prop := shardOfUptoRow.holds Try.pinned (OpenSpec.upto shardOfSpec)

/-- 'guerdonlaw48.ShardLists', WHERE WHAT IT READS IS OF BULK AT MOST 1048576: true; the input reads as it did. -/
def shardListsUptoRow : OpenClaim := { program := "ytgfndgkdamomdaa", sum := "356010b7ed85c886e84d1da78661013767ae3b0055f6f7f2015d6ffc45172256", func := "guerdon/guerdonlaw48.ShardLists", spec := "shardLists", apart := false, narrowed := true }
def ShardListsUptoSaid : Prop := shardListsUptoRow.holds Try.pinned (OpenSpec.upto shardListsSpec)

/-- 'guerdonlaw48.ShardMerge', WHERE WHAT IT READS IS OF BULK AT MOST 1048576: true; the input reads as it did. -/
def shardMergeUptoRow : OpenClaim := { program := "ytgfndgkdamomdaa", sum := "356010b7ed85c886e84d1da78661013767ae3b0055f6f7f2015d6ffc45172256", func := "guerdon/guerdonlaw48.ShardMerge", spec := "shardMerge", apart := false, narrowed := true }
def ShardMergeUptoSaid : Prop := shardMergeUptoRow.holds Try.pinned (OpenSpec.upto shardMergeSpec)

/-- 'guerdonlaw48.ShardPartition', WHERE WHAT IT READS IS OF BULK AT MOST 1048576: true; the input reads as it did. -/
def shardPartitionUptoRow : OpenClaim := { program := "ytgfndgkdamomdaa", sum := "356010b7ed85c886e84d1da78661013767ae3b0055f6f7f2015d6ffc45172256", func := "guerdon/guerdonlaw48.ShardPartition", spec := "shardPartition", apart := false, narrowed := true }
def ShardPartitionUptoSaid : Prop := shardPartitionUptoRow.holds Try.pinned (OpenSpec.upto shardPartitionSpec)

end Rows
end Go.Proofs.Ytgfndgkdamomdaa
