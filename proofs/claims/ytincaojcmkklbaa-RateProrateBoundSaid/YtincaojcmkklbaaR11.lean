/- A part of the proof that the law returns true for every input: no condition. -/
import Derived.Test.YtincaojcmkklbaaR10
set_option maxRecDepth 100000
set_option linter.unusedVariables false
set_option linter.unusedSimpArgs false
namespace Go.Lift.L03
open Go.Lift Go.Proofs

/-! rounding of floor quotients -/
def up28' (f r d m : Int) : Bool :=
  bif (bif m == 4 then true else m == 5) then
    bif r == d - r then (bif (bif m == 4 then decide (f ≥ 0) else false) then true else (bif m == 5 then !(f.tmod 2 == 0) else false)) else decide (r > d - r)
  else (bif (bif m == 1 then true else (bif m == 2 then decide (f < 0) else false)) then true else (bif m == 3 then decide (f ≥ 0) else false))
def rndF (f r d m : Int) : Int := bif r == 0 then f else bif up28' f r d m then f + 1 else f

theorem sgn_zero (neg : Bool) : sgn neg 0 = 0 := by cases neg <;> rfl

theorem tmod2 (f : Int) : (f.tmod 2 == 0) = decide (f % 2 = 0) := by
  rw [Bool.eq_iff_iff]; simp [Int.dvd_iff_tmod_eq_zero.symm]; omega

theorem rnd_agree {Q R D : Nat} (hR : R < D) (neg : Bool) {m : Int} (hm : modeOk m = true) :
    sgn neg ((up1 Q R D neg m : Nat) : Int) = rndF (sgn neg ((Q * D + R : Nat) : Int) / (D : Int)) (sgn neg ((Q * D + R : Nat) : Int) % (D : Int)) D m := by
  have hm' : m = 0 ∨ m = 1 ∨ m = 2 ∨ m = 3 ∨ m = 4 ∨ m = 5 := by
    simp only [modeOk, Bool.and_eq_true, decide_eq_true_eq] at hm; omega
  have hD : (0 : Int) < D := by omega
  cases neg with
  | false =>
    have e1 : ((Q * D + R : Nat) : Int) / (D : Int) = (Q : Int) := by
      rw [← Int.natCast_ediv, Nat.add_comm, Nat.add_mul_div_right _ _ (by omega), Nat.div_eq_of_lt hR, Nat.zero_add]
    have e2 : ((Q * D + R : Nat) : Int) % (D : Int) = (R : Int) := by
      rw [← Int.natCast_emod, Nat.add_comm, Nat.add_mul_mod_self_right, Nat.mod_eq_of_lt hR]
    simp only [sgn, cond_false, e1, e2]
    unfold up1 rndF up28'
    by_cases h0 : R = 0
    · subst h0
      rcases hm' with rfl | rfl | rfl | rfl | rfl | rfl <;> simp [upN, show ¬ D = 0 by omega, show ¬ (0 = D) by omega]
    · have hb : ((R : Int) == 0) = false := by simp; omega
      have hE : ((R : Int) == (D : Int) - R) = decide (2 * R = D) := by rw [Bool.eq_iff_iff]; simp; omega
      have hG : decide ((R : Int) > (D : Int) - R) = decide (D < 2 * R) := by rw [decide_eq_decide]; omega
      rw [hb, cond_false, tmod2, hE, hG]
      have hq : ((Q : Int) % 2 = 0) = (Q % 2 = 0) := by simp; omega
      have hn : ¬ ((Q : Int) < 0) := by omega
      have hp : (Q % 2 = 1 ∧ ¬ (Q : Int) % 2 = 0) ∨ (¬ Q % 2 = 1 ∧ (Q : Int) % 2 = 0) := by omega
      rcases Nat.lt_trichotomy (2 * R) D with hlt | heq | hgt
      · rcases hm' with rfl | rfl | rfl | rfl | rfl | rfl <;>
          simp [upN, show 0 < R by omega, show ¬ 2 * R = D by omega, show ¬ D < 2 * R by omega, show ¬ D ≤ 2 * R by omega, hn]
      · rcases hp with ⟨p1, p2⟩ | ⟨p1, p2⟩ <;> rcases hm' with rfl | rfl | rfl | rfl | rfl | rfl <;>
          simp [upN, show 0 < R by omega, heq, hn, p1, p2]
      · rcases hm' with rfl | rfl | rfl | rfl | rfl | rfl <;>
          simp [upN, show 0 < R by omega, show ¬ 2 * R = D by omega, show D < 2 * R by omega, show D ≤ 2 * R by omega, hn]
  | true =>
    by_cases h0 : R = 0
    · subst h0
      have e1 : (-((Q * D + 0 : Nat) : Int)) / (D : Int) = -(Q : Int) := by
        rw [show (-((Q * D + 0 : Nat) : Int)) = -(Q : Int) * (D : Int) by simp [Int.neg_mul]]
        exact Int.mul_ediv_cancel _ (by omega)
      have e2 : (-((Q * D + 0 : Nat) : Int)) % (D : Int) = 0 := by
        rw [show (-((Q * D + 0 : Nat) : Int)) = -(Q : Int) * (D : Int) by simp [Int.neg_mul]]
        exact Int.mul_emod_left _ _
      simp only [sgn, cond_true, e1, e2]
      unfold up1 rndF
      rcases hm' with rfl | rfl | rfl | rfl | rfl | rfl <;> simp [upN, show ¬ D = 0 by omega, show ¬ (0 = D) by omega]
    · have e0 : (-((Q * D + R : Nat) : Int)) = ((D - R : Nat) : Int) + (-(Q : Int) - 1) * (D : Int) := by
        rw [Int.sub_mul, Int.neg_mul, Int.natCast_add, Int.natCast_mul, Int.natCast_sub (by omega)]; omega
      have e1 : (-((Q * D + R : Nat) : Int)) / (D : Int) = -(Q : Int) - 1 := by
        rw [e0, Int.add_mul_ediv_right _ _ (by omega), Int.ediv_eq_zero_of_lt (by omega) (by omega), Int.zero_add]
      have e2 : (-((Q * D + R : Nat) : Int)) % (D : Int) = ((D - R : Nat) : Int) := by
        rw [e0, Int.add_mul_emod_self_right, Int.emod_eq_of_lt (by omega) (by omega)]
      simp only [sgn, cond_true, e1, e2]
      unfold up1 rndF up28'
      have hb : (((D - R : Nat) : Int) == 0) = false := by simp; omega
      have hE : (((D - R : Nat) : Int) == (D : Int) - ((D - R : Nat) : Int)) = decide (2 * R = D) := by rw [Bool.eq_iff_iff]; simp; omega
      have hG : decide (((D - R : Nat) : Int) > (D : Int) - ((D - R : Nat) : Int)) = decide (2 * R < D) := by rw [decide_eq_decide]; omega
      rw [hb, cond_false, tmod2, hE, hG]
      have hn1 : -(Q : Int) - 1 < 0 := by omega
      have hn2 : ¬ (1 ≤ -(Q : Int)) := by omega
      have hp : (Q % 2 = 1 ∧ (-(Q : Int) - 1) % 2 = 0) ∨ (¬ Q % 2 = 1 ∧ ¬ (-(Q : Int) - 1) % 2 = 0) := by omega
      have fin0 : (-(Q : Int) - 1 + 1) = -(Q : Int) := by omega
      have fin1 : (-((Q : Int) + 1)) = -(Q : Int) - 1 := by omega
      rcases Nat.lt_trichotomy (2 * R) D with hlt | heq | hgt
      · rcases hm' with rfl | rfl | rfl | rfl | rfl | rfl <;>
          simp [upN, show 0 < R by omega, show ¬ 2 * R = D by omega, show ¬ D < 2 * R by omega, show ¬ D ≤ 2 * R by omega, show 2 * R < D by omega, hn1, hn2] <;> omega
      · rcases hp with ⟨p1, p2⟩ | ⟨p1, p2⟩ <;> rcases hm' with rfl | rfl | rfl | rfl | rfl | rfl <;>
          simp [upN, show 0 < R by omega, heq, hn1, hn2, p1, p2] <;> omega
      · rcases hm' with rfl | rfl | rfl | rfl | rfl | rfl <;>
          simp [upN, show 0 < R by omega, show ¬ 2 * R = D by omega, show D < 2 * R by omega, show D ≤ 2 * R by omega, show ¬ 2 * R < D by omega, hn1, hn2] <;> omega
end Go.Lift.L03
