/-
  No cell of these rows narrows 'for every input' (looked for: loops, veiled, ifaces, maps, wideKeys, modest, calm, conditions, laid).
  DERIVED. THE GIVEN ROWS OF THIS SEAT. 5 by the template 'for every input the law returns true; each argument reads behind the call as it read before'; 0 by the template 'total and deterministic' (their statements: YteohihdkpnbcdadTotals.lean).
  GIVEN WITH THE SEED: the statements are not yours to turn. If you find one false, say at which input.
  Laid BY PROGRAM, IN A SANDBOX (cutbox-rows.mjs): the forced cells as the released guide's own fill.sh prints them over the translation 549d22d90ffe22a3… (all of the seat's roots in one cut). By AI agents, Wed Nov 11 2026. No macro, syntax, notation, axiom, sorry.
-/
import Derived.Test.YteohihdkpnbcdadChecked
import GoSem.Claim
import GoSem.ClaimJoined
import GoSem.ClaimMapViews
import Derived.JoinedTies
import Derived.KernelRfl
namespace Go.Proofs.Yteohihdkpnbcdad
/- THE CELL 'sum', in the pinned program and in every row, IS THE sha256 OF THE DUMP (.gsa) THAT YteohihdkpnbcdadProg.lean LOADS. Nothing in Lean hashes anything: it is a label: what it is worth is what the hold of that sum in a sandbox is worth. -/
noncomputable def Try.pinned : Pinned := { name := "yteohihdkpnbcdad", sum := "549d22d90ffe22a360ac2f17879266f6b27da12d89a18cd21bdcd4007b2b84d6", checked := Try.checked }
namespace Rows
def none {H : Type} : Left H := { results := [], args := [] }

/-- 'guerdonlaw40.PaymentPay': WHATEVER THE INPUT: true; the input reads as it did. -/
def paymentPaySpec : ChangeSpec := { name := "paymentPay", fn := fun _ => fun
  | [d1, d2, d3, d4] => { results := [.lit (.bool true)], args := [d1, d2, d3, d4] }
  | _ => none }
def paymentPayRow : OpenClaim := { program := "yteohihdkpnbcdad", sum := "549d22d90ffe22a360ac2f17879266f6b27da12d89a18cd21bdcd4007b2b84d6", func := "guerdon/guerdonlaw40.PaymentPay", spec := "paymentPay", named := ["math/bits.divideError", "math/bits.overflowError"], apart := false }
def PaymentPaySaid : Prop := paymentPayRow.holds Try.pinned (OpenSpec.ofChange paymentPaySpec)

/-- ITS FALSE NEIGHBOUR: 'it returns false'. Refute it at one input. -/
def paymentPayWrong : ChangeSpec := { name := "paymentPay", fn := fun _ => fun
  | [d1, d2, d3, d4] => { results := [.lit (.bool false)], args := [d1, d2, d3, d4] }
  | _ => none }
def PaymentPayWrongFalsely : Prop := paymentPayRow.holds Try.pinned (OpenSpec.ofChange paymentPayWrong)

/-- 'guerdonlaw40.PaymentCash': WHATEVER THE INPUT: true; the input reads as it did. -/
def paymentCashSpec : ChangeSpec := { name := "paymentCash", fn := fun _ => fun
  | [d] => { results := [.lit (.bool true)], args := [d] }
  | _ => none }
def paymentCashRow : OpenClaim := { program := "yteohihdkpnbcdad", sum := "549d22d90ffe22a360ac2f17879266f6b27da12d89a18cd21bdcd4007b2b84d6", func := "guerdon/guerdonlaw40.PaymentCash", spec := "paymentCash", named := ["math/bits.divideError", "math/bits.overflowError"], apart := false }
def PaymentCashSaid : Prop := paymentCashRow.holds Try.pinned (OpenSpec.ofChange paymentCashSpec)

/-- ITS FALSE NEIGHBOUR: 'it returns false'. Refute it at one input. -/
def paymentCashWrong : ChangeSpec := { name := "paymentCash", fn := fun _ => fun
  | [d] => { results := [.lit (.bool false)], args := [d] }
  | _ => none }
def PaymentCashWrongFalsely : Prop := paymentCashRow.holds Try.pinned (OpenSpec.ofChange paymentCashWrong)

/-- 'guerdonlaw40.PaymentSchedule': WHATEVER THE INPUT: true; the input reads as it did. -/
def paymentScheduleSpec : ChangeSpec := { name := "paymentSchedule", fn := fun _ => fun
  | [d1, d2, d3] => { results := [.lit (.bool true)], args := [d1, d2, d3] }
  | _ => none }
def paymentScheduleRow : OpenClaim := { program := "yteohihdkpnbcdad", sum := "549d22d90ffe22a360ac2f17879266f6b27da12d89a18cd21bdcd4007b2b84d6", func := "guerdon/guerdonlaw40.PaymentSchedule", spec := "paymentSchedule", named := ["math/bits.divideError", "math/bits.overflowError"], apart := false }
def PaymentScheduleSaid : Prop := paymentScheduleRow.holds Try.pinned (OpenSpec.ofChange paymentScheduleSpec)

/-- ITS FALSE NEIGHBOUR: 'it returns false'. Refute it at one input. -/
def paymentScheduleWrong : ChangeSpec := { name := "paymentSchedule", fn := fun _ => fun
  | [d1, d2, d3] => { results := [.lit (.bool false)], args := [d1, d2, d3] }
  | _ => none }
def PaymentScheduleWrongFalsely : Prop := paymentScheduleRow.holds Try.pinned (OpenSpec.ofChange paymentScheduleWrong)

/-- 'guerdonlaw40.PaymentClearsArrears': WHATEVER THE INPUT: true; the input reads as it did. -/
def paymentClearsArrearsSpec : ChangeSpec := { name := "paymentClearsArrears", fn := fun _ => fun
  | [d1, d2, d3, d4] => { results := [.lit (.bool true)], args := [d1, d2, d3, d4] }
  | _ => none }
def paymentClearsArrearsRow : OpenClaim := { program := "yteohihdkpnbcdad", sum := "549d22d90ffe22a360ac2f17879266f6b27da12d89a18cd21bdcd4007b2b84d6", func := "guerdon/guerdonlaw40.PaymentClearsArrears", spec := "paymentClearsArrears", named := ["math/bits.divideError", "math/bits.overflowError"], apart := false }
def PaymentClearsArrearsSaid : Prop := paymentClearsArrearsRow.holds Try.pinned (OpenSpec.ofChange paymentClearsArrearsSpec)

/-- ITS FALSE NEIGHBOUR: 'it returns false'. Refute it at one input. -/
def paymentClearsArrearsWrong : ChangeSpec := { name := "paymentClearsArrears", fn := fun _ => fun
  | [d1, d2, d3, d4] => { results := [.lit (.bool false)], args := [d1, d2, d3, d4] }
  | _ => none }
def PaymentClearsArrearsWrongFalsely : Prop := paymentClearsArrearsRow.holds Try.pinned (OpenSpec.ofChange paymentClearsArrearsWrong)

/-- 'guerdonlaw48.ShardOf': WHATEVER THE INPUT: true; the input reads as it did. -/
def shardOfSpec : ChangeSpec := { name := "shardOf", fn := fun _ => fun
  | [d1, d2] => { results := [.lit (.bool true)], args := [d1, d2] }
  | _ => none }
def shardOfRow : OpenClaim := { program := "yteohihdkpnbcdad", sum := "549d22d90ffe22a360ac2f17879266f6b27da12d89a18cd21bdcd4007b2b84d6", func := "guerdon/guerdonlaw48.ShardOf", spec := "shardOf", apart := false }
def ShardOfSaid : Prop := shardOfRow.holds Try.pinned (OpenSpec.ofChange shardOfSpec)

/-- ITS FALSE NEIGHBOUR: 'it returns false'. Refute it at one input. -/
def shardOfWrong : ChangeSpec := { name := "shardOf", fn := fun _ => fun
  | [d1, d2] => { results := [.lit (.bool false)], args := [d1, d2] }
  | _ => none }
def ShardOfWrongFalsely : Prop := shardOfRow.holds Try.pinned (OpenSpec.ofChange shardOfWrong)

/- THE SECOND FORM. 'bulk': how many values and letters a reading holds, each counted each time it is reached (what is shared counts as often as it is met; a slice's spare places count too). A statement '..UptoSaid' is the law's where the arguments, and the package variables that the reading takes, are together of bulk at most 1048576: NARROWER than '..Said'. Prove '..Said' where nothing that the law and all that it calls make is longer than what came in: it says more and counts as full. Else prove '..UptoSaid'. A law counts once. -/
mutual
def uptoBulk {H : Type} : DataW H → Nat
  | .lit (.string bytes) => bytes.length + 1
  | .lit _ => 1
  | .nil => 1
  | .ptr d => uptoBulk d + 1
  | .slice elems spare => uptoBulkAll elems + uptoBulkAll spare + 1
  | .agg parts => uptoBulkAll parts + 1
  | .iface _ d => uptoBulk d + 1
  | .map entries => uptoBulkEntries entries + 1
  | .held _ => 1
def uptoBulkAll {H : Type} : List (DataW H) → Nat
  | [] => 0
  | d :: r => uptoBulk d + uptoBulkAll r
def uptoBulkEntries {H : Type} : List (Lit × DataW H) → Nat
  | [] => 0
  | x :: r => uptoBulkEntry x + uptoBulkEntries r
def uptoBulkEntry {H : Type} : Lit × DataW H → Nat
  | (.string bytes, d) => bytes.length + uptoBulk d + 1
  | (_, d) => uptoBulk d + 1
 end
def uptoSmall : (H : Type) → List (DataW H) → Bool := fun _ ds => decide (uptoBulkAll ds ≤ 1048576)
def OpenSpec.upto (s : _root_.Go.ChangeSpec) : _root_.Go.OpenSpec := { _root_.Go.OpenSpec.ofChange s with cond := some uptoSmall }

/-- 'guerdonlaw40.PaymentPay', WHERE WHAT IT READS IS OF BULK AT MOST 1048576: true; the input reads as it did. -/
def paymentPayUptoRow : OpenClaim := { program := "yteohihdkpnbcdad", sum := "549d22d90ffe22a360ac2f17879266f6b27da12d89a18cd21bdcd4007b2b84d6", func := "guerdon/guerdonlaw40.PaymentPay", spec := "paymentPay", named := ["math/bits.divideError", "math/bits.overflowError"], apart := false, narrowed := true }
def PaymentPayUptoSaid : Prop := paymentPayUptoRow.holds Try.pinned (OpenSpec.upto paymentPaySpec)

/-- 'guerdonlaw40.PaymentCash', WHERE WHAT IT READS IS OF BULK AT MOST 1048576: true; the input reads as it did. -/
def paymentCashUptoRow : OpenClaim := { program := "yteohihdkpnbcdad", sum := "549d22d90ffe22a360ac2f17879266f6b27da12d89a18cd21bdcd4007b2b84d6", func := "guerdon/guerdonlaw40.PaymentCash", spec := "paymentCash", named := ["math/bits.divideError", "math/bits.overflowError"], apart := false, narrowed := true }
def PaymentCashUptoSaid : Prop := paymentCashUptoRow.holds Try.pinned (OpenSpec.upto paymentCashSpec)

/-- 'guerdonlaw40.PaymentSchedule', WHERE WHAT IT READS IS OF BULK AT MOST 1048576: true; the input reads as it did. -/
def paymentScheduleUptoRow : OpenClaim := { program := "yteohihdkpnbcdad", sum := "549d22d90ffe22a360ac2f17879266f6b27da12d89a18cd21bdcd4007b2b84d6", func := "guerdon/guerdonlaw40.PaymentSchedule", spec := "paymentSchedule", named := ["math/bits.divideError", "math/bits.overflowError"], apart := false, narrowed := true }
def PaymentScheduleUptoSaid : Prop := paymentScheduleUptoRow.holds Try.pinned (OpenSpec.upto paymentScheduleSpec)

/-- 'guerdonlaw40.PaymentClearsArrears', WHERE WHAT IT READS IS OF BULK AT MOST 1048576: true; the input reads as it did. -/
def paymentClearsArrearsUptoRow : OpenClaim := { program := "yteohihdkpnbcdad", sum := "549d22d90ffe22a360ac2f17879266f6b27da12d89a18cd21bdcd4007b2b84d6", func := "guerdon/guerdonlaw40.PaymentClearsArrears", spec := "paymentClearsArrears", named := ["math/bits.divideError", "math/bits.overflowError"], apart := false, narrowed := true }
def PaymentClearsArrearsUptoSaid : Prop := paymentClearsArrearsUptoRow.holds Try.pinned (OpenSpec.upto paymentClearsArrearsSpec)

/-- 'guerdonlaw48.ShardOf', WHERE WHAT IT READS IS OF BULK AT MOST 1048576: true; the input reads as it did. -/
def shardOfUptoRow : OpenClaim := { program := "yteohihdkpnbcdad", sum := "549d22d90ffe22a360ac2f17879266f6b27da12d89a18cd21bdcd4007b2b84d6", func := "guerdon/guerdonlaw48.ShardOf", spec := "shardOf", apart := false, narrowed := true }
def ShardOfUptoSaid : Prop := shardOfUptoRow.holds Try.pinned (OpenSpec.upto shardOfSpec)

end Rows
end Go.Proofs.Yteohihdkpnbcdad
