/- The law returns true for every input: no condition. -/
import Derived.Test.YtgfndgkdamomdaaN
import Derived.Test.YtgfndgkdamomdaaRows
set_option maxRecDepth 100000
set_option linter.unusedVariables false
namespace Go.Proofs.Ytgfndgkdamomdaa.shardMerge
open Go.ChangeShapes Go.WideShapes Go.ChangeAt Go.RowKit Go.Lift Go.Lift.V48

theorem own : ownKnob Try.prog.godebug = none := by kernel_rfl
theorem laid : laidOutB Try.prog = true := by kernel_rfl

theorem lifted (os : Os) (started : os.Started) (H : Type) (enc : TypeId × Value → H) :
    ReturnsInHanded {} Try.checked os 5 .any (Rows.shardMergeSpec.pre6 enc Try.prog Try.f5 Rows.shardMergeRow.domain false) (Rows.shardMergeSpec.post enc Try.prog Try.f5 false true false false) := by
  refine returnsInHanded_of_change_sized (C := Try.checked) own started (by kernel_rfl) Try.func5
    (ChangeSpec.witness6 (enc := enc) (C := Try.checked) false ⟨#[], #[.slice none 0 0, .slice none 0 0, .slice none 0 0], []⟩ 8 (by kernel_rfl) (by kernel_rfl) (by kernel_rfl) (by kernel_rfl)) ?_
  intro W base args ds gs before hval hW hcnd hsz _
  refine law_contract_sized (P := Try.prog) (T := T) (ts := [(.slice (.cons (.cons (.int .i64) (.cons (.int .i64) (.cons (.int .i64) (.cons (.slice (.cons (.int .i64) (.cons (.int .i64) (.cons (.int .i64) (.cons (.cons (.int .i64) (.cons (.int .i64) (.cons (.int .i64) (.nil)))) (.cons (.cons (.int .i64) (.cons (.int .i64) (.nil))) (.cons (.int .i64) (.nil)))))))) (.nil))))) (.cons (.slice (.cons (.int .i64) (.cons (.int .i64) (.cons (.int .i64) (.cons (.int .i64) (.nil)))))) (.cons (.slice (.cons (.int .i64) (.cons (.int .i64) (.cons (.int .i64) (.cons (.int .i64) (.cons (.int .i64) (.cons (.int .i64) (.cons (.int .i64) (.nil))))))))) (.cons (.int .i64) (.cons (.int .i64) (.nil))))))), (.slice (.slice (.int .i64))), (.slice (.slice (.cons (.cons (.int .i64) (.cons (.int .i64) (.cons (.int .i64) (.cons (.slice (.cons (.int .i64) (.cons (.int .i64) (.cons (.int .i64) (.cons (.cons (.int .i64) (.cons (.int .i64) (.cons (.int .i64) (.nil)))) (.cons (.cons (.int .i64) (.cons (.int .i64) (.nil))) (.cons (.int .i64) (.nil)))))))) (.nil))))) (.cons (.slice (.cons (.int .i64) (.cons (.int .i64) (.cons (.int .i64) (.cons (.int .i64) (.nil)))))) (.cons (.slice (.cons (.int .i64) (.cons (.int .i64) (.cons (.int .i64) (.cons (.int .i64) (.cons (.int .i64) (.cons (.int .i64) (.cons (.int .i64) (.nil))))))))) (.cons (.int .i64) (.cons (.int .i64) (.nil))))))))]) (tb := 4) has5 (by kernel_rfl) rfl (fun ds h => ?_) (by kernel_rfl) (by kernel_rfl) laid (by kernel_rfl) (fun tds h hw hz => ?_) W base args ds gs before hval hW hsz
  · match ds, h with
    | [_, _, _], _ => rfl
  · match tds, h with
    | [⟨_, x0⟩, ⟨_, x1⟩, ⟨_, x2⟩], h =>
      simp only [List.map_cons, List.map_nil, List.cons.injEq, and_true] at h
      obtain ⟨rfl, rfl, rfl⟩ := h
      rw [Tbl.add_self]
      have w0 := hw ⟨_, x0⟩ (.head _)
      have w1 := hw ⟨_, x1⟩ (.tail _ (.head _))
      have w2 := hw ⟨_, x2⟩ (.tail _ (.tail _ (.head _)))
      have z0 := hz ⟨_, x0⟩ (.head _)
      have z1 := hz ⟨_, x1⟩ (.tail _ (.head _))
      have z2 := hz ⟨_, x2⟩ (.tail _ (.tail _ (.head _)))
      exact (show _ = some (k5 x0 x1 x2, SV.tv ⟨.bool, true⟩) by rfl).trans (by rw [k5_of x0 x1 x2 z0 z2])

theorem over : Rows.shardMergeRow.holds Try.pinned (OpenSpec.ofChange Rows.shardMergeSpec) :=
  OpenClaim.holds_of_wide 5 Try.f5 rfl rfl rfl rfl rfl rfl rfl ⟨rfl, rfl, rfl, rfl, rfl⟩ rfl rfl rfl rfl rfl (by kernel_rfl) Try.func5 (by kernel_rfl)
    (of_decide_eq_true (by kernel_rfl)) (by unfold Func.isWrapper; first | (rw [if_pos (by decide +kernel)]; kernel_rfl) | (rw [if_neg (by decide +kernel)]; exact ⟨rfl, rfl⟩))
    (fun os started H enc _ => lifted os started H enc)

theorem proved : Rows.ShardMergeSaid := over
end Go.Proofs.Ytgfndgkdamomdaa.shardMerge
