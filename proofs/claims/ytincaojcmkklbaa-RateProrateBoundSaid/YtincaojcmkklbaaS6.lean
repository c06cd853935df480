/- The law returns true for every input: no condition. -/
import Derived.Test.YtincaojcmkklbaaZ1
import Derived.Test.YtincaojcmkklbaaRows
set_option maxRecDepth 100000
set_option linter.unusedVariables false
namespace Go.Proofs.Ytincaojcmkklbaa.rateProrateBound
open Go.ChangeShapes Go.WideShapes Go.ChangeAt Go.RowKit Go.Lift Go.Lift.L03

theorem own : ownKnob Try.prog.godebug = none := by kernel_rfl
theorem laid : laidOutB Try.prog = true := by kernel_rfl

theorem lifted (os : Os) (started : os.Started) (H : Type) (enc : TypeId × Value → H) :
    ReturnsInHanded {} Try.checked os 6 .any (Rows.rateProrateBoundSpec.pre6 enc Try.prog Try.f6 Rows.rateProrateBoundRow.domain false) (Rows.rateProrateBoundSpec.post enc Try.prog Try.f6 false true false false) := by
  refine returnsInHanded_of_change (C := Try.checked) own started (by kernel_rfl) Try.func6
    (ChangeSpec.witness6 (enc := enc) (C := Try.checked) false ⟨#[], #[.int .i64 0, .int .i64 0, .int .i64 0, .int .i64 0], []⟩ 8 (by kernel_rfl) (by kernel_rfl) (by kernel_rfl) (by kernel_rfl)) ?_
  intro W base args ds gs before hval hW hcnd _
  refine law_contract (P := Try.prog) (T := T) (ts := [(.int .i64), (.int .i64), (.int .i64), (.int .i64)]) (tb := 4) has6 (by kernel_rfl) rfl (fun ds h => ?_) (by kernel_rfl) (by kernel_rfl) laid (by kernel_rfl) (fun tds h hw => ?_) W base args ds gs before hval hW
  · match ds, h with
    | [_, _, _, _], _ => rfl
  · match tds, h with
    | [⟨_, x0⟩, ⟨_, x1⟩, ⟨_, x2⟩, ⟨_, x3⟩], h =>
      simp only [List.map_cons, List.map_nil, List.cons.injEq, and_true] at h
      obtain ⟨rfl, rfl, rfl, rfl⟩ := h
      rw [Tbl.add_self]
      have h0 : i64ok x0 = true := i64_wf (hw ⟨.int .i64, x0⟩ (.head _)); have h1 : i64ok x1 = true := i64_wf (hw ⟨.int .i64, x1⟩ (.tail _ (.head _))); have h3 : i64ok x3 = true := i64_wf (hw ⟨.int .i64, x3⟩ (.tail _ (.tail _ (.tail _ (.head _))))); show some (i64ok x0 && i64ok x1 && i64ok x3, _) = _; rw [h0, h1, h3]; rfl

theorem over : Rows.rateProrateBoundRow.holds Try.pinned (OpenSpec.ofChange Rows.rateProrateBoundSpec) :=
  OpenClaim.holds_of_wide 6 Try.f6 rfl rfl rfl rfl rfl rfl rfl ⟨rfl, rfl, rfl, rfl, rfl⟩ rfl rfl rfl rfl rfl (by kernel_rfl) Try.func6 (by kernel_rfl)
    (of_decide_eq_true (by kernel_rfl)) (by unfold Func.isWrapper; first | (rw [if_pos (by decide +kernel)]; kernel_rfl) | (rw [if_neg (by decide +kernel)]; exact ⟨rfl, rfl⟩))
    (fun os started H enc _ => lifted os started H enc)

theorem proved : Rows.RateProrateBoundSaid := over
end Go.Proofs.Ytincaojcmkklbaa.rateProrateBound
