/- The law returns true for every input: no condition. -/
import Derived.Test.YteohihdkpnbcdacP
import Derived.Test.YteohihdkpnbcdacRows
set_option maxRecDepth 100000
set_option linter.unusedVariables false
namespace Go.Proofs.Yteohihdkpnbcdac.recoveryLimit
open Go.ChangeShapes Go.WideShapes Go.ChangeAt Go.RowKit Go.Lift Go.Lift.L39

theorem own : ownKnob Try.prog.godebug = none := by kernel_rfl
theorem laid : laidOutB Try.prog = true := by kernel_rfl

theorem lifted (os : Os) (started : os.Started) (H : Type) (enc : TypeId × Value → H) :
    ReturnsInHanded {} Try.checked os 3 .any (Rows.recoveryLimitSpec.pre6 enc Try.prog Try.f3 Rows.recoveryLimitRow.domain false) (Rows.recoveryLimitSpec.post enc Try.prog Try.f3 false true false false) := by
  refine returnsInHanded_of_change (C := Try.checked) own started (by kernel_rfl) Try.func3
    (ChangeSpec.witness6 (enc := enc) (C := Try.checked) false ⟨#[], #[.int .i64 0, .int .i64 0, .int .i64 0], []⟩ 8 (by kernel_rfl) (by kernel_rfl) (by kernel_rfl) (by kernel_rfl)) ?_
  intro W base args ds gs before hval hW hcnd _
  refine law_contract (P := Try.prog) (T := T) (ts := [(.int .i64), (.int .i64), (.int .i64)]) (tb := 4) has8b (by kernel_rfl) rfl (fun ds h => ?_) (by kernel_rfl) (by kernel_rfl) laid (by kernel_rfl) (fun tds h hw => ?_) W base args ds gs before hval hW
  · match ds, h with
    | [_, _, _], _ => rfl
  · match tds, h with
    | [⟨_, x0⟩, ⟨_, x1⟩, ⟨_, x2⟩], h =>
      simp only [List.map_cons, List.map_nil, List.cons.injEq, and_true] at h
      obtain ⟨rfl, rfl, rfl⟩ := h
      rw [Tbl.add_self]
      have w0 := hw ⟨_, x0⟩ (.head _)
      have w1 := hw ⟨_, x1⟩ (.tail _ (.head _))
      have w2 := hw ⟨_, x2⟩ (.tail _ (.tail _ (.head _)))
      exact someK (band (band (wfI w0) (wfI w1)) (wfI w2))

theorem over : Rows.recoveryLimitRow.holds Try.pinned (OpenSpec.ofChange Rows.recoveryLimitSpec) :=
  OpenClaim.holds_of_wide 3 Try.f3 rfl rfl rfl rfl rfl rfl rfl ⟨rfl, rfl, rfl, rfl, rfl⟩ rfl rfl rfl rfl rfl (by kernel_rfl) Try.func3 (by kernel_rfl)
    (of_decide_eq_true (by kernel_rfl)) (by unfold Func.isWrapper; first | (rw [if_pos (by decide +kernel)]; kernel_rfl) | (rw [if_neg (by decide +kernel)]; exact ⟨rfl, rfl⟩))
    (fun os started H enc _ => lifted os started H enc)

theorem proved : Rows.RecoveryLimitSaid := over
end Go.Proofs.Yteohihdkpnbcdac.recoveryLimit
