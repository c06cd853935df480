/- A part of the proof that the law returns true for every input: no condition. -/
import Derived.Test.YtincaojcmkklbaaR7
set_option maxRecDepth 100000
set_option linter.unusedVariables false
set_option linter.unusedSimpArgs false
namespace Go.Lift.L03
open Go.Lift Go.Proofs

/-! small functions -/
theorem has22 : Hs 22 Fmul := env22 env0
theorem has24 : Hs 24 Fdiv := (env24 (env32 (env41 env0))).only
def modeOk (m : Int) : Bool := decide (m ≥ 0) && decide (m ≤ 5)
def Fmode := FC1 (.int .i64) (fun _ => true) fun m => .tv (B (modeOk m))
theorem band_bif {a b : Bool} : (bif a then b else false) = (a && b) := by cases a <;> rfl
theorem bor_bif {a b : Bool} : (bif a then true else b) = (a || b) := by cases a <;> rfl
theorem has20 : Hs 20 Fmode :=
  Has.fc1 (fn := Try.f20) env0 (by kernel_rfl) (by kernel_rfl) (by kernel_rfl) (by kernel_rfl) fun m _ =>
    .run0 (n := 100) (ks := []) (L := .ret (.tv (B (bif decide (m ≥ 0) then decide (m ≤ 5) else false)))) (by kernel_rfl) (.ret' (by rw [band_bif]; rfl))
theorem has33 : Hs 33 Fmode :=
  Has.fc1 (fn := Try.f33) env0 (by kernel_rfl) (by kernel_rfl) (by kernel_rfl) (by kernel_rfl) fun m _ =>
    .run0 (n := 100) (ks := []) (L := .ret (.tv (B (bif decide (m ≥ 0) then decide (m ≤ 5) else false)))) (by kernel_rfl) (.ret' (by rw [band_bif]; rfl))
theorem has37 : Hs 37 Fmode :=
  Has.fc1 (fn := Try.f37) env0 (by kernel_rfl) (by kernel_rfl) (by kernel_rfl) (by kernel_rfl) fun m _ =>
    .run0 (n := 100) (ks := []) (L := .ret (.tv (B (bif decide (m ≥ 0) then decide (m ≤ 5) else false)))) (by kernel_rfl) (.ret' (by rw [band_bif]; rfl))

/-- beyond a limit, which is a number from 0 to 2^62 -/
def beyondI (n l : Int) : Bool := decide (n > l) || decide (n < -l)
def limOk (l : Int) : Bool := decide (0 ≤ l) && decide (l ≤ 4611686018427387904)
theorem limOk_spec {l : Int} (h : limOk l = true) : 0 ≤ l ∧ l ≤ 4611686018427387904 := by simpa [limOk] using h
def Fbey := FC2 (.int .i64) (.int .i64) (fun _ l => limOk l) fun n l => .tv (B (beyondI n l))
theorem bey_eq {n l : Int} (h : limOk l = true) : (bif decide (n > l) then true else decide (n < w (0 - l))) = beyondI n l := by
  obtain ⟨l0, l1⟩ := limOk_spec h
  rw [bor_bif, show w (0 - l) = 0 - l from wrap_id (by omega) (by omega), Int.zero_sub]; rfl
theorem has21 : Hs 21 Fbey :=
  Has.fc2 (fn := Try.f21) env0 (by kernel_rfl) (by kernel_rfl) (by kernel_rfl) (by kernel_rfl) fun n l h =>
    .run0 (n := 100) (ks := []) (L := .ret (.tv (B (bif decide (n > l) then true else decide (n < w (0 - l)))))) (by kernel_rfl) (.ret' (by rw [bey_eq h]))
theorem has26 : Hs 26 Fbey :=
  Has.fc2 (fn := Try.f26) env0 (by kernel_rfl) (by kernel_rfl) (by kernel_rfl) (by kernel_rfl) fun n l h =>
    .run0 (n := 100) (ks := []) (L := .ret (.tv (B (bif decide (n > l) then true else decide (n < w (0 - l)))))) (by kernel_rfl) (.ret' (by rw [bey_eq h]))
theorem has38 : Hs 38 Fbey :=
  Has.fc2 (fn := Try.f38) env0 (by kernel_rfl) (by kernel_rfl) (by kernel_rfl) (by kernel_rfl) fun n l h =>
    .run0 (n := 100) (ks := []) (L := .ret (.tv (B (bif decide (n > l) then true else decide (n < w (0 - l)))))) (by kernel_rfl) (.ret' (by rw [bey_eq h]))

/-! absolute values -/
def i64ok (n : Int) : Bool := decide (-9223372036854775808 ≤ n) && decide (n ≤ 9223372036854775807)
theorem i64ok_spec {n : Int} (h : i64ok n = true) : -9223372036854775808 ≤ n ∧ n ≤ 9223372036854775807 := by simpa [i64ok] using h
def absI (n : Int) : Int := (n.natAbs : Nat)
def Fabs := FC1 (.int .i64) i64ok fun n => .tv (U (absI n))
theorem w64_neg {n : Int} (h1 : -9223372036854775808 ≤ n) (h : n < 0) : w64 n = n + 18446744073709551616 := by
  unfold w64 IntKind.wrap
  simp [IntKind.signed, IntKind.bits]
  omega
theorem abs_pos {n : Int} (h : ¬ n < 0) (h1 : n ≤ 9223372036854775807) : w64 n = absI n := by
  unfold absI
  rw [show n = ((n.natAbs : Nat) : Int) by omega, w64k (by omega)]
  simp
theorem abs_neg1 {n : Int} (h : n < 0) (h1 : -9223372036854775808 ≤ n) : w64 (IntKind.wrap .i64 (0 - n)) = absI n := by
  unfold absI
  by_cases hm : n = -9223372036854775808
  · subst hm; rfl
  · rw [wrap_id (by omega) (by omega), show (0 - n) = ((n.natAbs : Nat) : Int) by omega]; exact w64k (by omega)
theorem abs_neg2 {n : Int} (h : n < 0) (h1 : -9223372036854775808 ≤ n) : w64 (0 - w64 n) = absI n := by
  unfold absI
  have e : w64 n = n + 18446744073709551616 := w64_neg h1 h
  have e2 : w64 (0 - (n + 18446744073709551616)) = ((n.natAbs : Nat) : Int) := by
    unfold w64 IntKind.wrap
    simp [IntKind.signed, IntKind.bits]
    omega
  rw [e, e2]
theorem has23 : Hs 23 Fabs :=
  Has.fc1 (fn := Try.f23) env0 (by kernel_rfl) (by kernel_rfl) (by kernel_rfl) (by kernel_rfl) fun n h =>
    .run0 (n := 100) (ks := []) (L := bif decide (n < 0) then .ret (.tv (U (w64 (IntKind.wrap .i64 (0 - n))))) else .ret (.tv (U (w64 n)))) (by kernel_rfl)
      (.bif (fun h1 => .ret' (by rw [abs_neg1 (of_decide_eq_true h1) (i64ok_spec h).1])) fun h1 => .ret' (by rw [abs_pos (of_decide_eq_false h1) (i64ok_spec h).2]))
theorem has34 : Hs 34 Fabs :=
  Has.fc1 (fn := Try.f34) env0 (by kernel_rfl) (by kernel_rfl) (by kernel_rfl) (by kernel_rfl) fun n h =>
    .run0 (n := 100) (ks := []) (L := bif decide (n < 0) then .ret (.tv (U (w64 (0 - w64 n)))) else .ret (.tv (U (w64 n)))) (by kernel_rfl)
      (.bif (fun h1 => .ret' (by rw [abs_neg2 (of_decide_eq_true h1) (i64ok_spec h).1])) fun h1 => .ret' (by rw [abs_pos (of_decide_eq_false h1) (i64ok_spec h).2]))
end Go.Lift.L03
