/- A part of the proof that the law returns true for every input: no condition. -/
import Derived.Test.YtcaeapfbmhmmkaaA10
set_option maxRecDepth 100000
set_option linter.unusedVariables false
set_option linter.unusedSimpArgs false
namespace Go.Lift.L14
open Go.Lift Go.Proofs

theorem e3 (p q : List Int) (b : List Bool) : runF GB [] Try.f3 200 (bod Try.f3) (entry [LI p, LI q, LB b]) =
  bif (bif (bif decide ((p.length : Int) > 100) then true else decide ((q.length : Int) > 100)) then true else decide ((b.length : Int) > 100)) then .ret (.tv (B true))
  else .ret (.tv (B (bif (bif (bif (bif sel p q b == sel p q b then (fcT p q b).1 == (fcT p q b).1 else false) then (fcT p q b).2.1 == (fcT p q b).2.1 else false) then (fcT p q b).2.2 == (fcT p q b).2.2 else false) then true else false))) := by kernel_rfl

def Flaw3 : List TD → Option (Bool × SV)
  | [⟨.slice (.int .i64), p⟩, ⟨.slice (.int .i64), q⟩, ⟨.slice .bool, b⟩] => some (true, .tv (B true))
  | _ => none

theorem env3 : Env Try.prog T (GB.add 3 Flaw3) := by
  refine envB.fun' (fn := Try.f3) (by kernel_rfl) (by kernel_rfl) (by kernel_rfl) fun tds r h => ?_
  unfold Flaw3 at h
  split at h
  · rename_i p q b
    simp only [Option.some.injEq, Prod.mk.injEq, true_and] at h
    subst h
    refine ⟨Nat.le_of_ble_eq_true (by kernel_rfl), .more 200 (fun _ => []) _ _ _ (.of_eq (e3 p q b) ?_)⟩
    simp only [beq_self_eq_true, cond_true]
    exact .bif (fun _ => .ret _) (fun _ => .ret _)
  · simp at h
end Go.Lift.L14
