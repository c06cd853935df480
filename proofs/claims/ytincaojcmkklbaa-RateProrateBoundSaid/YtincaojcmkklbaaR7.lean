/- A part of the proof that the law returns true for every input: no condition. -/
import Derived.Test.YtincaojcmkklbaaR6
set_option maxRecDepth 100000
set_option linter.unusedVariables false
set_option linter.unusedSimpArgs false
namespace Go.Lift.L03
open Go.Lift Go.Proofs

theorem slN (n s : Nat) (hs : s ≤ 64) : sl (n : Int) (s : Int) = ((n * 2 ^ s % 18446744073709551616 : Nat) : Int) := by
  unfold sl
  rw [Int.toNat_natCast, Nat.min_eq_left hs, show ((2 : Int) ^ s) = ((2 ^ s : Nat) : Int) by simp, ← Int.natCast_mul]
  exact wrapUN _
theorem srN (n s : Nat) (hs : s ≤ 64) : sr (n : Int) (s : Int) = ((n / 2 ^ s : Nat) : Int) := by
  unfold sr
  rw [Int.toNat_natCast, Nat.min_eq_left hs, show ((2 : Int) ^ s) = ((2 ^ s : Nat) : Int) by simp]
  exact fdivN _ _

theorem pow64 (s : Nat) (hs : s ≤ 64) : 2 ^ (64 - s) * 2 ^ s = 18446744073709551616 := by
  rw [← Nat.pow_add, show 64 - s + s = 64 by omega]

theorem qsum {A C : Nat} (hA : A < 4294967296) (hC : C < 4294967296) : w64 (w64 ((A : Int) * 4294967296) + (C : Int)) = ((A * 4294967296 + C : Nat) : Int) := by
  rw [show ((A : Int) * 4294967296) = ((A * 4294967296 : Nat) : Int) by omega, w64k (by omega), wadd (by omega)]

theorem join (u w : Nat) : (u * 4294967296 + w / 4294967296) * 4294967296 + w % 4294967296 = u * 18446744073709551616 + w := by omega

/-- the whole division, out of two digits -/
theorem two_digits {Y B u u1 u0 : Nat} (hY : 0 < Y) :
    ((u * B + u1) * B + u0) / Y = (u * B + u1) / Y * B + ((u * B + u1) % Y * B + u0) / Y ∧ ((u * B + u1) * B + u0) % Y = ((u * B + u1) % Y * B + u0) % Y := by
  have h1 := Nat.div_add_mod (u * B + u1) Y
  generalize u * B + u1 = x at *
  have e : x * B + u0 = (x % Y * B + u0) + Y * (x / Y * B) := by
    have : x * B = Y * (x / Y) * B + x % Y * B := by rw [← Nat.add_mul, h1]
    rw [this, Nat.mul_assoc]
    omega
  rw [e]
  constructor
  · rw [Nat.add_mul_div_left _ _ hY, Nat.add_comm]
  · rw [Nat.add_mul_mod_self_left]

theorem env24 {G : Tbl} (hE : Env Try.prog T (GD G)) : Env Try.prog T ((GD G).add 24 Fdiv) := by
  refine hE.fun' (fn := Try.f24) (by kernel_rfl) (by kernel_rfl) (by kernel_rfl) fun tds r h => ?_
  obtain ⟨hi, lo, y, rfl, hk, rfl⟩ := FC3.inv h
  · simp only [Bool.and_eq_true] at hk
    obtain ⟨⟨⟨hhi, hlo⟩, hyy⟩, hlt⟩ := hk
    refine ⟨Nat.le_of_ble_eq_true (by kernel_rfl), .more 200 (fun _ => ks24) _ _ _ (.of_eq (e24 G hi lo y) ?_)⟩
    have hyo := hyy
    obtain ⟨hi, rfl, h1⟩ := u64ok_spec hhi
    obtain ⟨lo, rfl, h2⟩ := u64ok_spec hlo
    obtain ⟨y, rfl, h3⟩ := u64ok_spec hyy
    have hlt : hi < y := by have := ltI_spec hlt; omega
    have c1 : ((y : Int) == 0) = false := by simp; omega
    have c2 : decide ((y : Int) ≤ (hi : Int)) = false := by simp; omega
    rw [c1, c2, cond_false, cond_false]
    unfold divQ divR
    simp only [Int.toNat_natCast]
    refine .bif (fun h => ?_) (fun h => ?_)
    · have : hi = 0 := by simpa using h
      subst this
      simp only [Bool.not_false, cond_true, Nat.zero_mul, Nat.zero_add]
      rw [tdivN, tmodN, w64k (Nat.lt_of_le_of_lt (Nat.div_le_self _ _) h2)]
      exact .ret _
    · have hpos : 0 < hi := by simp at h; omega
      have hy0 : 0 < y := by omega
      obtain ⟨l1, l2, l3, l4⟩ := len_bits h3 hy0
      obtain ⟨s, hs⟩ : ∃ s, s = 64 - lenN1 y := ⟨_, rfl⟩
      have hs64 : s ≤ 63 := by omega
      have hsOf : sOf (y : Int) = (s : Int) := by
        unfold sOf lenI
        rw [Int.toNat_natCast, wrap_id (by omega) (by omega), show (64 - ((lenN1 y : Nat) : Int)) = ((s : Nat) : Int) by omega]
        exact w64k (by omega)
      have hp : 0 < 2 ^ s := Nat.pow_pos (by omega)
      have hYlt : y * 2 ^ s < 18446744073709551616 := by
        have : y * 2 ^ s < 2 ^ lenN1 y * 2 ^ s := Nat.mul_lt_mul_of_pos_right l4 hp
        rw [← Nat.pow_add, show lenN1 y + s = 64 by omega] at this
        exact this
      have hYge : 9223372036854775808 ≤ y * 2 ^ s := by
        have : 2 ^ (lenN1 y - 1) * 2 ^ s ≤ y * 2 ^ s := Nat.mul_le_mul_right _ l3
        rw [← Nat.pow_add, show lenN1 y - 1 + s = 63 by omega] at this
        exact this
      have hp64 := pow64 s (by omega)
      have hq : 0 < 2 ^ (64 - s) := Nat.pow_pos (by omega)
      have hb : lo / 2 ^ (64 - s) < 2 ^ s := by
        rw [Nat.div_lt_iff_lt_mul hq, Nat.mul_comm, hp64]
        exact h2
      have huY : 2 ^ s * hi + lo / 2 ^ (64 - s) < y * 2 ^ s := by
        have : 2 ^ s * (hi + 1) ≤ 2 ^ s * y := Nat.mul_le_mul_left _ hlt
        rw [Nat.mul_comm (2 ^ s) y, Nat.mul_add, Nat.mul_one] at this
        omega
      have k1 : sl (y : Int) (s : Int) = ((y * 2 ^ s : Nat) : Int) := by rw [slN y s (by omega), Nat.mod_eq_of_lt hYlt]
      have k2 : w64 (64 - (s : Int)) = ((64 - s : Nat) : Int) := by
        rw [show (64 - (s : Int)) = ((64 - s : Nat) : Int) by omega]
        exact w64k (by omega)
      have k3 : un32 (hi : Int) (lo : Int) (s : Int) = ((2 ^ s * hi + lo / 2 ^ (64 - s) : Nat) : Int) := by
        unfold un32
        have hlt1 : 2 ^ s * hi < 18446744073709551616 := Nat.lt_of_le_of_lt (Nat.le_add_right _ _) (Nat.lt_trans huY hYlt)
        rw [k2, slN hi s (by omega), srN lo (64 - s) (by omega), Nat.mul_comm hi (2 ^ s), Nat.mod_eq_of_lt hlt1]
        exact orU hb (Nat.lt_trans huY hYlt)
      have k4 : sl (lo : Int) (s : Int) = ((lo * 2 ^ s % 18446744073709551616 : Nat) : Int) := slN lo s (by omega)
      have hm : lo * 2 ^ s % 18446744073709551616 < 18446744073709551616 := Nat.mod_lt _ (by omega)
      -- the number under the shift
      have hN : (2 ^ s * hi + lo / 2 ^ (64 - s)) * 18446744073709551616 + lo * 2 ^ s % 18446744073709551616 = (hi * 18446744073709551616 + lo) * 2 ^ s := by
        have e1 := Nat.div_add_mod lo (2 ^ (64 - s))
        have e2 : lo * 2 ^ s = lo / 2 ^ (64 - s) * 18446744073709551616 + lo % 2 ^ (64 - s) * 2 ^ s := by
          calc lo * 2 ^ s = (2 ^ (64 - s) * (lo / 2 ^ (64 - s)) + lo % 2 ^ (64 - s)) * 2 ^ s := by rw [e1]
            _ = lo / 2 ^ (64 - s) * (2 ^ (64 - s) * 2 ^ s) + lo % 2 ^ (64 - s) * 2 ^ s := by rw [Nat.add_mul, Nat.mul_comm (2 ^ (64 - s)) (lo / 2 ^ (64 - s)), Nat.mul_assoc]
            _ = _ := by rw [hp64]
        have e3 : lo % 2 ^ (64 - s) * 2 ^ s < 18446744073709551616 := by
          rw [← hp64]
          exact Nat.mul_lt_mul_of_pos_right (Nat.mod_lt _ hq) hp
        have e4 : lo * 2 ^ s % 18446744073709551616 = lo % 2 ^ (64 - s) * 2 ^ s := by
          rw [e2, Nat.mul_comm (lo / 2 ^ (64 - s)), Nat.mul_add_mod, Nat.mod_eq_of_lt e3]
        rw [e4, Nat.add_mul (hi * 18446744073709551616), e2, Nat.add_mul (2 ^ s * hi)]
        have e5 : 2 ^ s * hi * 18446744073709551616 = hi * 18446744073709551616 * 2 ^ s := by
          rw [Nat.mul_comm (2 ^ s) hi, Nat.mul_assoc, Nat.mul_comm (2 ^ s), ← Nat.mul_assoc]
        rw [e5]
        omega
      have hhd : ∀ n : Nat, hi32 (n : Int) = ((n / 4294967296 : Nat) : Int) := fun n => fdivN n 4294967296
      have hld : ∀ {n : Nat}, n < 18446744073709551616 → lo32 (n : Int) = ((n % 4294967296 : Nat) : Int) := fun h => maskU h
      rw [hsOf, hyo, cond_true, decide_eq_true (show (0 : Int) ≤ (s : Int) by omega), cond_true, cond_true, k2, decide_eq_true (show (0 : Int) ≤ ((64 - s : Nat) : Int) by omega), cond_true, cond_true,
        k1, k3, k4, hhd, hhd, hld hYlt, hld hm]
      generalize hYe : y * 2 ^ s = Y at *
      generalize hue : 2 ^ s * hi + lo / 2 ^ (64 - s) = u at *
      generalize hwe : lo * 2 ^ s % 18446744073709551616 = w at *
      have d1 : Dig Y (Y / 4294967296) (Y % 4294967296) u (w / 4294967296) := ⟨by omega, by omega, by omega, by omega, huY, by omega⟩
      have hR1 : (u * 4294967296 + w / 4294967296) % Y < Y := Nat.mod_lt _ d1.pos
      have d2 : Dig Y (Y / 4294967296) (Y % 4294967296) ((u * 4294967296 + w / 4294967296) % Y) (w % 4294967296) := ⟨by omega, by omega, by omega, by omega, hR1, by omega⟩
      have ca : (!(((Y / 4294967296 : Nat) : Int) == 0)) = true := by
        simp only [Bool.not_eq_true', beq_eq_false_iff_ne]; omega
      obtain ⟨f1, f2⟩ := first_vals d1 hYlt
      rw [ca, cond_true, f1, f2]
      obtain ⟨p1, p2, p3, p4⟩ := d1.first
      refine loop1 G d1 (s : Int) ((w % 4294967296 : Nat) : Int) ?_ _ _ p3 (by omega) p1 p2
      unfold after1
      rw [ca, cond_true, d1.rest hYlt]
      obtain ⟨f1, f2⟩ := first_vals d2 hYlt
      rw [f1, f2]
      obtain ⟨p1, p2, p3, p4⟩ := d2.first
      refine loop2 G d2 (s : Int) (u : Int) ((w / 4294967296 : Nat) : Int) ((qd Y u (w / 4294967296) : Nat) : Int) ?_ _ _ p3 (by omega) p1 p2
      unfold after2
      have hQ1 := d1.lt
      have hQ0 := d2.lt
      rw [decide_eq_true (show (0 : Int) ≤ (s : Int) by omega), cond_true, d2.rest hYlt, srN _ s (by omega)]
      have q1 := qsum hQ1 hQ0
      obtain ⟨t1, t2⟩ := two_digits (B := 4294967296) (u := u) (u1 := w / 4294967296) (u0 := w % 4294967296) d1.pos
      have hw' : (u * 4294967296 + w / 4294967296) * 4294967296 + w % 4294967296 = (hi * 18446744073709551616 + lo) * 2 ^ s := (join u w).trans hN
      rw [hw', ← hYe, Nat.mul_div_mul_right _ _ hp] at t1
      rw [hw', ← hYe, Nat.mul_mod_mul_right] at t2
      rw [q1]
      have r1 : qd Y u (w / 4294967296) * 4294967296 + qd Y ((u * 4294967296 + w / 4294967296) % Y) (w % 4294967296) = (hi * 18446744073709551616 + lo) / y := by
        rw [t1]; unfold qd; rw [hYe]
      have r2 : ((u * 4294967296 + w / 4294967296) % Y * 4294967296 + w % 4294967296) % Y / 2 ^ s = (hi * 18446744073709551616 + lo) % y := by
        rw [← hYe, ← t2, Nat.mul_div_cancel _ hp]
      rw [r1, r2]
      exact .ret _
end Go.Lift.L03
