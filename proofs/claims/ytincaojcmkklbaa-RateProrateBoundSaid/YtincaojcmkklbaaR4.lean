/- A part of the proof that the law returns true for every input: no condition. -/
import Derived.Test.YtincaojcmkklbaaR3
set_option maxRecDepth 100000
set_option linter.unusedVariables false
set_option linter.unusedSimpArgs false
namespace Go.Lift.L03
open Go.Lift Go.Proofs

/-! the school method, one digit -/
structure Dig (Y a b u w : Nat) : Prop where
  hy : Y = a * 4294967296 + b
  hb : b < 4294967296
  ha : 2147483648 ≤ a
  ha' : a < 4294967296
  hu : u < Y
  hw : w < 4294967296

def qd (Y u w : Nat) : Nat := (u * 4294967296 + w) / Y

theorem Dig.pos {Y a b u w : Nat} (d : Dig Y a b u w) : 0 < Y := by have := d.hy; have := d.ha; omega

theorem Dig.lt {Y a b u w : Nat} (d : Dig Y a b u w) : qd Y u w < 4294967296 := by
  unfold qd
  rw [Nat.div_lt_iff_lt_mul d.pos]
  have h1 := d.hu
  have h2 := d.hw
  have : (u + 1) * 4294967296 ≤ Y * 4294967296 := Nat.mul_le_mul_right _ h1
  rw [Nat.mul_comm 4294967296 Y]
  omega

theorem add_lt_cancel (z x w y : Nat) : z + x + w < z + y ↔ x + w < y := by omega

theorem Dig.gt_iff {Y a b u w : Nat} (d : Dig Y a b u w) {q r : Nat} (h : q * a + r = u) : qd Y u w < q ↔ r * 4294967296 + w < q * b := by
  unfold qd
  rw [Nat.div_lt_iff_lt_mul d.pos]
  have e1 : q * Y = q * a * 4294967296 + q * b := by rw [d.hy, Nat.mul_add, Nat.mul_assoc]
  have e2 : u * 4294967296 = q * a * 4294967296 + r * 4294967296 := by rw [← h, Nat.add_mul]
  rw [e1, e2]
  exact add_lt_cancel _ _ _ _

theorem Dig.big {Y a b u w : Nat} (d : Dig Y a b u w) {q r : Nat} (h : q * a + r = u) (hr : 4294967296 ≤ r) : q ≤ qd Y u w := by
  refine Nat.le_of_not_lt fun hlt => ?_
  rw [d.gt_iff h] at hlt
  have hb := d.hb
  have hq : q < 4294967296 := by
    refine Nat.lt_of_not_le fun hq => ?_
    have h1 : 4294967296 * a ≤ q * a := Nat.mul_le_mul_right _ hq
    have := d.hu
    have := d.hy
    omega
  have : q * b ≤ 4294967296 * b := Nat.mul_le_mul_right _ (Nat.le_of_lt hq)
  omega

theorem Dig.first {Y a b u w : Nat} (d : Dig Y a b u w) : qd Y u w ≤ u / a ∧ u / a ≤ 4294967297 ∧ u / a * a + u % a = u ∧ u % a < a := by
  have hpos : 0 < a := by have := d.ha; omega
  refine ⟨?_, ?_, ?_, Nat.mod_lt _ hpos⟩
  · rw [Nat.le_div_iff_mul_le hpos]
    have h1 : qd Y u w * Y ≤ u * 4294967296 + w := Nat.div_mul_le_self _ _
    have h2 : qd Y u w * Y = qd Y u w * a * 4294967296 + qd Y u w * b := by rw [d.hy, Nat.mul_add, Nat.mul_assoc]
    have := d.hw
    generalize qd Y u w * a = z at *
    omega
  · have : u / a < 4294967298 := by
      rw [Nat.div_lt_iff_lt_mul hpos]
      have := d.hu; have := d.hy; have := d.hb; have := d.ha
      rw [Nat.mul_comm]
      omega
    omega
  · rw [Nat.mul_comm]; exact Nat.div_add_mod u a

theorem Dig.over_eq {Y a b u w : Nat} (d : Dig Y a b u w) {q r : Nat} (h : q * a + r = u) (hr : r < 4294967296) : over b q r w = decide (qd Y u w < q) := by
  unfold over
  have hb := d.hb; have hw := d.hw
  by_cases hq : q ≥ 4294967296
  · have h1 : decide ((q : Int) ≥ 4294967296) = true := by simp; omega
    have := d.lt
    rw [h1, cond_true, decide_eq_true (by omega)]
  · have h1 : decide ((q : Int) ≥ 4294967296) = false := by simp; omega
    rw [h1, cond_false]
    have hqb : q * b < 18446744073709551616 := by
      have : q * b ≤ 4294967295 * b := Nat.mul_le_mul_right _ (by omega)
      omega
    have e1 : w64 ((q : Int) * (b : Int)) = ((q * b : Nat) : Int) := by rw [← Int.natCast_mul]; exact w64k hqb
    have e2 : w64 (w64 (4294967296 * (r : Int)) + (w : Int)) = ((r * 4294967296 + w : Nat) : Int) := by
      have : (4294967296 * (r : Int)) = ((r * 4294967296 : Nat) : Int) := by omega
      rw [this, w64k (by omega), ← Int.natCast_add, w64k (by omega)]
    rw [e1, e2, decide_eq_decide, d.gt_iff h]
    omega

theorem Dig.rest {Y a b u w : Nat} (d : Dig Y a b u w) (hY : Y < 18446744073709551616) : v24 Y u w (qd Y u w) = (((u * 4294967296 + w) % Y : Nat) : Int) := by
  have hm := Nat.div_add_mod (u * 4294967296 + w) Y
  have hlt : (u * 4294967296 + w) % Y < Y := Nat.mod_lt _ d.pos
  unfold v24
  have e1 : w64 (w64 ((u : Int) * 4294967296) + (w : Int)) = (((u * 4294967296 + w) % 18446744073709551616 : Nat) : Int) := by
    have : ((u : Int) * 4294967296) = ((u * 4294967296 : Nat) : Int) := by omega
    rw [this, show w64 ((u * 4294967296 : Nat) : Int) = ((u * 4294967296 % 18446744073709551616 : Nat) : Int) from wrapUN _, ← Int.natCast_add,
      show w64 ((u * 4294967296 % 18446744073709551616 + w : Nat) : Int) = (((u * 4294967296 % 18446744073709551616 + w) % 18446744073709551616 : Nat) : Int) from wrapUN _]
    congr 1
    omega
  have e2 : w64 (((qd Y u w : Nat) : Int) * (Y : Int)) = ((qd Y u w * Y % 18446744073709551616 : Nat) : Int) := by
    rw [← Int.natCast_mul]; exact wrapUN _
  rw [e1, e2]
  have hq : qd Y u w * Y = Y * ((u * 4294967296 + w) / Y) := Nat.mul_comm _ _
  rw [hq]
  generalize Y * ((u * 4294967296 + w) / Y) = z at *
  generalize (u * 4294967296 + w) % Y = rr at *
  rw [← hm]
  unfold w64 IntKind.wrap
  simp [IntKind.signed, IntKind.bits]
  omega
end Go.Lift.L03
