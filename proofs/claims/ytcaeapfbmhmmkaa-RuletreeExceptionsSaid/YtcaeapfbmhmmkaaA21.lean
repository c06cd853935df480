/- A part of the proof that the law returns true for every input: no condition. -/
import Derived.Test.YtcaeapfbmhmmkaaA20
import Derived.Test.YtcaeapfbmhmmkaaRows
set_option maxRecDepth 100000
set_option linter.unusedVariables false
namespace Go.Proofs.Ytcaeapfbmhmmkaa.exceptions
open Go.ChangeShapes Go.WideShapes Go.ChangeAt Go.RowKit Go.Lift Go.Lift.L14

theorem own : ownKnob Try.prog.godebug = none := by kernel_rfl
theorem laid : laidOutB Try.prog = true := by kernel_rfl

theorem lifted (os : Os) (started : os.Started) (H : Type) (enc : TypeId × Value → H) :
    ReturnsInHanded {} Try.checked os 5 .any (Rows.ruletreeExceptionsSpec.pre6 enc Try.prog Try.f5 Rows.ruletreeExceptionsRow.domain false) (Rows.ruletreeExceptionsSpec.post enc Try.prog Try.f5 false true false false) := by
  refine returnsInHanded_of_change (C := Try.checked) own started (by kernel_rfl) Try.func5
    (ChangeSpec.witness6 (enc := enc) (C := Try.checked) false ⟨#[], #[.slice none 0 0, .slice none 0 0, .int .u8 0], []⟩ 8 (by kernel_rfl) (by kernel_rfl) (by kernel_rfl) (by kernel_rfl)) ?_
  intro W base args ds gs before hval hW hcnd _
  refine law_contract (P := Try.prog) (T := T) (ts := [.slice (.int .i64), .slice (.int .i64), .int .u8]) (tb := 4) env5 (by kernel_rfl) rfl (fun ds h => ?_) (by kernel_rfl) (by kernel_rfl) laid (by kernel_rfl) (fun tds h hw => ?_) W base args ds gs before hval hW
  · match ds, h with
    | [_, _, _], _ => rfl
  · match tds, h, hw with
    | [⟨_, p⟩, ⟨_, q⟩, ⟨_, a⟩], h, hw =>
      simp at h
      obtain ⟨rfl, rfl, rfl⟩ := h
      have h1 : (Lit.int .u8 a).wf = true := hw ⟨.int .u8, a⟩ (by simp)
      have h2 : u8ok a = true := by
        simp only [Lit.wf, Bool.and_eq_true, decide_eq_true_eq] at h1
        have e1 : IntKind.min .u8 = 0 := rfl
        have e2 : IntKind.max .u8 = 255 := rfl
        rw [e1, e2] at h1
        simp only [u8ok, Bool.and_eq_true, decide_eq_true_eq]
        exact h1
      show some (u8ok a, SV.tv (B true)) = _
      rw [h2]

theorem over : Rows.ruletreeExceptionsRow.holds Try.pinned (OpenSpec.ofChange Rows.ruletreeExceptionsSpec) :=
  OpenClaim.holds_of_wide 5 Try.f5 rfl rfl rfl rfl rfl rfl rfl ⟨rfl, rfl, rfl, rfl, rfl⟩ rfl rfl rfl rfl rfl (by kernel_rfl) Try.func5 (by kernel_rfl)
    (of_decide_eq_true (by kernel_rfl)) (by unfold Func.isWrapper; first | (rw [if_pos (by decide +kernel)]; kernel_rfl) | (rw [if_neg (by decide +kernel)]; exact ⟨rfl, rfl⟩))
    (fun os started H enc _ => lifted os started H enc)

theorem proved : Rows.RuletreeExceptionsSaid := over
end Go.Proofs.Ytcaeapfbmhmmkaa.exceptions
