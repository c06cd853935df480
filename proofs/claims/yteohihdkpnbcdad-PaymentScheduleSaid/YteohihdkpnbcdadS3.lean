/- The law returns true for every input: no condition. -/
import Derived.Test.YteohihdkpnbcdadQ
import Derived.Test.YteohihdkpnbcdadRows
set_option maxRecDepth 100000
set_option linter.unusedVariables false
namespace Go.Proofs.Yteohihdkpnbcdad.paymentSchedule
open Go.ChangeShapes Go.WideShapes Go.ChangeAt Go.RowKit Go.Lift Go.Lift.L40

theorem own : ownKnob Try.prog.godebug = none := by kernel_rfl
theorem laid : laidOutB Try.prog = true := by kernel_rfl

theorem lifted (os : Os) (started : os.Started) (H : Type) (enc : TypeId × Value → H) :
    ReturnsInHanded {} Try.checked os 5 .any (Rows.paymentScheduleSpec.pre6 enc Try.prog Try.f5 Rows.paymentScheduleRow.domain false) (Rows.paymentScheduleSpec.post enc Try.prog Try.f5 false true false false) := by
  refine returnsInHanded_of_change (C := Try.checked) own started (by kernel_rfl) Try.func5
    (ChangeSpec.witness6 (enc := enc) (C := Try.checked) false ⟨#[], #[.int .i64 0, .int .i64 0, .agg #[.int .i64 0, .int .i64 0, .int .i64 0, .int .i64 0, .int .i64 0, .int .i64 0, .int .i64 0, .int .i64 0, .slice none 0 0]], []⟩ 8 (by kernel_rfl) (by kernel_rfl) (by kernel_rfl) (by kernel_rfl)) ?_
  intro W base args ds gs before hval hW hcnd _
  refine law_contract (P := Try.prog) (T := T) (ts := [(.int .i64), (.int .i64), (.cons (.int .i64) (.cons (.int .i64) (.cons (.int .i64) (.cons (.int .i64) (.cons (.int .i64) (.cons (.int .i64) (.cons (.int .i64) (.cons (.cons (.int .i64) (.cons (.slice (.int .i64)) (.nil))) (.nil)))))))))]) (tb := 4) has20q (by kernel_rfl) rfl (fun ds h => ?_) (by kernel_rfl) (by kernel_rfl) laid (by kernel_rfl) (fun tds h hw => ?_) W base args ds gs before hval hW
  · match ds, h with
    | [_, _, _], _ => rfl
  · match tds, h with
    | [⟨_, x0⟩, ⟨_, x1⟩, ⟨_, x2⟩], h =>
      simp only [List.map_cons, List.map_nil, List.cons.injEq, and_true] at h
      obtain ⟨rfl, rfl, rfl⟩ := h
      rw [Tbl.add_self]
      have w0 := hw ⟨_, x0⟩ (.head _)
      have w1 := hw ⟨_, x1⟩ (.tail _ (.head _))
      have w2 := hw ⟨_, x2⟩ (.tail _ (.tail _ (.head _)))
      exact someK (band (band (wfI w0) (wfI w1)) (wfConf w2))

theorem over : Rows.paymentScheduleRow.holds Try.pinned (OpenSpec.ofChange Rows.paymentScheduleSpec) :=
  OpenClaim.holds_of_wide 5 Try.f5 rfl rfl rfl rfl rfl rfl rfl ⟨rfl, rfl, rfl, rfl, rfl⟩ rfl rfl rfl rfl rfl (by kernel_rfl) Try.func5 (by kernel_rfl)
    (of_decide_eq_true (by kernel_rfl)) (by unfold Func.isWrapper; first | (rw [if_pos (by decide +kernel)]; kernel_rfl) | (rw [if_neg (by decide +kernel)]; exact ⟨rfl, rfl⟩))
    (fun os started H enc _ => lifted os started H enc)

theorem proved : Rows.PaymentScheduleSaid := over
end Go.Proofs.Yteohihdkpnbcdad.paymentSchedule
