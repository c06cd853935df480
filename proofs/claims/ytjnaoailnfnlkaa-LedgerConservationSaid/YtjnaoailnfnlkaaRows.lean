/-
  No cell of these rows narrows 'for every input' (looked for: loops, veiled, ifaces, maps, wideKeys, modest, calm, conditions, laid).
  DERIVED. THE GIVEN ROWS OF THIS SEAT. 5 by the template 'for every input the law returns true; each argument reads behind the call as it read before'; 0 by the template 'total and deterministic' (their statements: YtjnaoailnfnlkaaTotals.lean).
  GIVEN WITH THE SEED: the statements are not yours to turn. If you find one false, say at which input.
  Laid BY PROGRAM, IN A SANDBOX (cutbox-rows.mjs): the forced cells as the released guide's own fill.sh prints them over the translation 2ea08dcdfdfe8161… (all of the seat's roots in one cut). By AI agents, Wed Nov 11 2026. No macro, syntax, notation, axiom, sorry.
-/
import Derived.Test.YtjnaoailnfnlkaaChecked
import GoSem.Claim
import GoSem.ClaimJoined
import GoSem.ClaimMapViews
import Derived.JoinedTies
import Derived.KernelRfl
namespace Go.Proofs.Ytjnaoailnfnlkaa
/- THE CELL 'sum', in the pinned program and in every row, IS THE sha256 OF THE DUMP (.gsa) THAT YtjnaoailnfnlkaaProg.lean LOADS. Nothing in Lean hashes anything: it is a label: what it is worth is what the hold of that sum in a sandbox is worth. -/
noncomputable def Try.pinned : Pinned := { name := "ytjnaoailnfnlkaa", sum := "2ea08dcdfdfe8161734a11f3288c95bcbd74f69fd9573177986c87b3fc568399", checked := Try.checked }
namespace Rows
def none {H : Type} : Left H := { results := [], args := [] }

/-- 'guerdonlaw37.LedgerValidate': WHATEVER THE INPUT: true; the input reads as it did. -/
def ledgerValidateSpec : ChangeSpec := { name := "ledgerValidate", fn := fun _ => fun
  | [d] => { results := [.lit (.bool true)], args := [d] }
  | _ => none }
def ledgerValidateRow : OpenClaim := { program := "ytjnaoailnfnlkaa", sum := "2ea08dcdfdfe8161734a11f3288c95bcbd74f69fd9573177986c87b3fc568399", func := "guerdon/guerdonlaw37.LedgerValidate", spec := "ledgerValidate", inPlace := ["slices.overlaps[int]"], unfollowed := true, recurses := true, apart := false }
def LedgerValidateSaid : Prop := ledgerValidateRow.holds Try.pinned (OpenSpec.ofChange ledgerValidateSpec)

/-- ITS FALSE NEIGHBOUR: 'it returns false'. Refute it at one input. -/
def ledgerValidateWrong : ChangeSpec := { name := "ledgerValidate", fn := fun _ => fun
  | [d] => { results := [.lit (.bool false)], args := [d] }
  | _ => none }
def LedgerValidateWrongFalsely : Prop := ledgerValidateRow.holds Try.pinned (OpenSpec.ofChange ledgerValidateWrong)

/-- 'guerdonlaw37.LedgerSums': WHATEVER THE INPUT: true; the input reads as it did. -/
def ledgerSumsSpec : ChangeSpec := { name := "ledgerSums", fn := fun _ => fun
  | [d1, d2, d3] => { results := [.lit (.bool true)], args := [d1, d2, d3] }
  | _ => none }
def ledgerSumsRow : OpenClaim := { program := "ytjnaoailnfnlkaa", sum := "2ea08dcdfdfe8161734a11f3288c95bcbd74f69fd9573177986c87b3fc568399", func := "guerdon/guerdonlaw37.LedgerSums", spec := "ledgerSums", inPlace := ["slices.overlaps[int]"], unfollowed := true, recurses := true, apart := false }
def LedgerSumsSaid : Prop := ledgerSumsRow.holds Try.pinned (OpenSpec.ofChange ledgerSumsSpec)

/-- ITS FALSE NEIGHBOUR: 'it returns false'. Refute it at one input. -/
def ledgerSumsWrong : ChangeSpec := { name := "ledgerSums", fn := fun _ => fun
  | [d1, d2, d3] => { results := [.lit (.bool false)], args := [d1, d2, d3] }
  | _ => none }
def LedgerSumsWrongFalsely : Prop := ledgerSumsRow.holds Try.pinned (OpenSpec.ofChange ledgerSumsWrong)

/-- 'guerdonlaw37.LedgerMonths': WHATEVER THE INPUT: true; the input reads as it did. -/
def ledgerMonthsSpec : ChangeSpec := { name := "ledgerMonths", fn := fun _ => fun
  | [d] => { results := [.lit (.bool true)], args := [d] }
  | _ => none }
def ledgerMonthsRow : OpenClaim := { program := "ytjnaoailnfnlkaa", sum := "2ea08dcdfdfe8161734a11f3288c95bcbd74f69fd9573177986c87b3fc568399", func := "guerdon/guerdonlaw37.LedgerMonths", spec := "ledgerMonths", inPlace := ["slices.overlaps[int]"], unfollowed := true, recurses := true, apart := false }
def LedgerMonthsSaid : Prop := ledgerMonthsRow.holds Try.pinned (OpenSpec.ofChange ledgerMonthsSpec)

/-- ITS FALSE NEIGHBOUR: 'it returns false'. Refute it at one input. -/
def ledgerMonthsWrong : ChangeSpec := { name := "ledgerMonths", fn := fun _ => fun
  | [d] => { results := [.lit (.bool false)], args := [d] }
  | _ => none }
def LedgerMonthsWrongFalsely : Prop := ledgerMonthsRow.holds Try.pinned (OpenSpec.ofChange ledgerMonthsWrong)

/-- 'guerdonlaw37.LedgerConservation': WHATEVER THE INPUT: true; the input reads as it did. -/
def ledgerConservationSpec : ChangeSpec := { name := "ledgerConservation", fn := fun _ => fun
  | [d1, d2] => { results := [.lit (.bool true)], args := [d1, d2] }
  | _ => none }
def ledgerConservationRow : OpenClaim := { program := "ytjnaoailnfnlkaa", sum := "2ea08dcdfdfe8161734a11f3288c95bcbd74f69fd9573177986c87b3fc568399", func := "guerdon/guerdonlaw37.LedgerConservation", spec := "ledgerConservation", inPlace := ["slices.overlaps[int]"], unfollowed := true, recurses := true, apart := false }
def LedgerConservationSaid : Prop := ledgerConservationRow.holds Try.pinned (OpenSpec.ofChange ledgerConservationSpec)

/-- ITS FALSE NEIGHBOUR: 'it returns false'. Refute it at one input. -/
def ledgerConservationWrong : ChangeSpec := { name := "ledgerConservation", fn := fun _ => fun
  | [d1, d2] => { results := [.lit (.bool false)], args := [d1, d2] }
  | _ => none }
def LedgerConservationWrongFalsely : Prop := ledgerConservationRow.holds Try.pinned (OpenSpec.ofChange ledgerConservationWrong)

/-- 'guerdonlaw37.LedgerTooLong': WHATEVER THE INPUT: true; the input reads as it did. -/
def ledgerTooLongSpec : ChangeSpec := { name := "ledgerTooLong", fn := fun _ => fun
  | [d1, d2] => { results := [.lit (.bool true)], args := [d1, d2] }
  | _ => none }
def ledgerTooLongRow : OpenClaim := { program := "ytjnaoailnfnlkaa", sum := "2ea08dcdfdfe8161734a11f3288c95bcbd74f69fd9573177986c87b3fc568399", func := "guerdon/guerdonlaw37.LedgerTooLong", spec := "ledgerTooLong", inPlace := ["slices.overlaps[int]"], unfollowed := true, recurses := true, apart := false }
def LedgerTooLongSaid : Prop := ledgerTooLongRow.holds Try.pinned (OpenSpec.ofChange ledgerTooLongSpec)

/-- ITS FALSE NEIGHBOUR: 'it returns false'. Refute it at one input. -/
def ledgerTooLongWrong : ChangeSpec := { name := "ledgerTooLong", fn := fun _ => fun
  | [d1, d2] => { results := [.lit (.bool false)], args := [d1, d2] }
  | _ => none }
def LedgerTooLongWrongFalsely : Prop := ledgerTooLongRow.holds Try.pinned (OpenSpec.ofChange ledgerTooLongWrong)

/- THE SECOND FORM. 'bulk': how many values and letters a reading holds, each counted each time it is reached (what is shared counts as often as it is met; a slice's spare places count too). A statement '..UptoSaid' is the law's where the arguments, and the package variables that the reading takes, are together of bulk at most 1048576: NARROWER than '..Said'. Prove '..Said' where nothing that the law and all that it calls make is longer than what came in: it says more and counts as full. Else prove '..UptoSaid'. A law counts once. -/
mutual
def uptoBulk {H : Type} : DataW H → Nat
  | .lit (.string bytes) => bytes.length + 1
  | .lit _ => 1
  | .nil => 1
  | .ptr d => uptoBulk d + 1
  | .slice elems spare => uptoBulkAll elems + uptoBulkAll spare + 1
  | .agg parts => uptoBulkAll parts + 1
  | .iface _ d => uptoBulk d + 1
  | .map entries => uptoBulkEntries entries + 1
  | .held _ => 1
def uptoBulkAll {H : Type} : List (DataW H) → Nat
  | [] => 0
  | d :: r => uptoBulk d + uptoBulkAll r
def uptoBulkEntries {H : Type} : List (Lit × DataW H) → Nat
  | [] => 0
  | x :: r => uptoBulkEntry x + uptoBulkEntries r
def uptoBulkEntry {H : Type} : Lit × DataW H → Nat
  | (.string bytes, d) => bytes.length + uptoBulk d + 1
  | (_, d) => uptoBulk d + 1
 end
def uptoSmall : (H : Type) → List (DataW H) → Bool := fun _ ds => decide (uptoBulkAll ds ≤ 1048576)
def OpenSpec.upto (s : _root_.Go.ChangeSpec) : _root_.Go.OpenSpec := { _root_.Go.OpenSpec.ofChange s with cond := some uptoSmall }

/-- 'guerdonlaw37.LedgerValidate', WHERE WHAT IT READS IS OF BULK AT MOST 1048576: true; the input reads as it did. -/
def ledgerValidateUptoRow : OpenClaim := { program := "ytjnaoailnfnlkaa", sum := "2ea08dcdfdfe8161734a11f3288c95bcbd74f69fd9573177986c87b3fc568399", func := "guerdon/guerdonlaw37.LedgerValidate", spec := "ledgerValidate", inPlace := ["slices.overlaps[int]"], unfollowed := true, recurses := true, apart := false, narrowed := true }
def LedgerValidateUptoSaid : Prop := ledgerValidateUptoRow.holds Try.pinned (OpenSpec.upto ledgerValidateSpec)

/-- 'guerdonlaw37.LedgerSums', WHERE WHAT IT READS IS OF BULK AT MOST 1048576: true; the input reads as it did. -/
def ledgerSumsUptoRow : OpenClaim := { program := "ytjnaoailnfnlkaa", sum := "2ea08dcdfdfe8161734a11f3288c95bcbd74f69fd9573177986c87b3fc568399", func := "guerdon/guerdonlaw37.LedgerSums", spec := "ledgerSums", inPlace := ["slices.overlaps[int]"], unfollowed := true, recurses := true, apart := false, narrowed := true }
def LedgerSumsUptoSaid : Prop := ledgerSumsUptoRow.holds Try.pinned (OpenSpec.upto ledgerSumsSpec)

/-- 'guerdonlaw37.LedgerMonths', WHERE WHAT IT READS IS OF BULK AT MOST 1048576: true; the input reads as it did. -/
def ledgerMonthsUptoRow : OpenClaim := { program := "ytjnaoailnfnlkaa", sum := "2ea08dcdfdfe8161734a11f3288c95bcbd74f69fd9573177986c87b3fc568399", func := "guerdon/guerdonlaw37.LedgerMonths", spec := "ledgerMonths", inPlace := ["slices.overlaps[int]"], unfollowed := true, recurses := true, apart := false, narrowed := true }
def LedgerMonthsUptoSaid : Prop := ledgerMonthsUptoRow.holds Try.pinned (OpenSpec.upto ledgerMonthsSpec)

/-- 'guerdonlaw37.LedgerConservation', WHERE WHAT IT READS IS OF BULK AT MOST 1048576: true; the input reads as it did. -/
def ledgerConservationUptoRow : OpenClaim := { program := "ytjnaoailnfnlkaa", sum := "2ea08dcdfdfe8161734a11f3288c95bcbd74f69fd9573177986c87b3fc568399", func := "guerdon/guerdonlaw37.LedgerConservation", spec := "ledgerConservation", inPlace := ["slices.overlaps[int]"], unfollowed := true, recurses := true, apart := false, narrowed := true }
def LedgerConservationUptoSaid : Prop := ledgerConservationUptoRow.holds Try.pinned (OpenSpec.upto ledgerConservationSpec)

/-- 'guerdonlaw37.LedgerTooLong', WHERE WHAT IT READS IS OF BULK AT MOST 1048576: true; the input reads as it did. -/
def ledgerTooLongUptoRow : OpenClaim := { program := "ytjnaoailnfnlkaa", sum := "2ea08dcdfdfe8161734a11f3288c95bcbd74f69fd9573177986c87b3fc568399", func := "guerdon/guerdonlaw37.LedgerTooLong", spec := "ledgerTooLong", inPlace := ["slices.overlaps[int]"], unfollowed := true, recurses := true, apart := false, narrowed := true }
def LedgerTooLongUptoSaid : Prop := ledgerTooLongUptoRow.holds Try.pinned (OpenSpec.upto ledgerTooLongSpec)

end Rows
end Go.Proofs.Ytjnaoailnfnlkaa
