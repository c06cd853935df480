/- A part of the proof that the law returns true for every input: no condition. -/
import Derived.Test.YtincaojcmkklbaaB
import Derived.Lib.Mul64
set_option maxRecDepth 100000
namespace Go.Lift.L03
open Go.Lift Go.Proofs

theorem wrapU {n : Int} (h0 : 0 ≤ n) (h : n < 18446744073709551616) : IntKind.wrap .u64 n = n := by
  unfold IntKind.wrap
  simp [IntKind.signed, IntKind.bits]
  omega
theorem wrapUN (n : Nat) : IntKind.wrap .u64 (n : Int) = ((n % 18446744073709551616 : Nat) : Int) := by
  unfold IntKind.wrap
  simp [IntKind.signed, IntKind.bits]
theorem wrapUk {n : Nat} (h : n < 18446744073709551616) : IntKind.wrap .u64 (n : Int) = (n : Int) := wrapU (by omega) (by omega)

theorem bitI_and_u64 (x y : Int) : bitI .and .u64 x y = IntKind.wrap .u64 (((BitVec.ofInt 64 x &&& BitVec.ofInt 64 y : BitVec 64).toNat : Nat) : Int) := rfl
theorem bitI_or_u64 (x y : Int) : bitI .or .u64 x y = IntKind.wrap .u64 (((BitVec.ofInt 64 x ||| BitVec.ofInt 64 y : BitVec 64).toNat : Nat) : Int) := rfl
theorem maskU {a : Nat} (h : a < 18446744073709551616) : bitI .and .u64 (a : Int) 4294967295 = ((a % 4294967296 : Nat) : Int) := by
  rw [bitI_and_u64]
  have e1 : (BitVec.ofInt 64 (a : Int)).toNat = a := by
    rw [BitVec.toNat_ofInt]
    omega
  have e2 : (BitVec.ofInt 64 (4294967295 : Int)).toNat = 4294967295 := rfl
  rw [BitVec.toNat_and, e1, e2]
  have e : a &&& 4294967295 = a % 4294967296 := Nat.and_two_pow_sub_one_eq_mod a 32
  rw [e]
  exact wrapUk (by omega)

theorem orU {a b s : Nat} (hb : b < 2 ^ s) (h : 2 ^ s * a + b < 18446744073709551616) : bitI .or .u64 ((2 ^ s * a : Nat) : Int) (b : Int) = ((2 ^ s * a + b : Nat) : Int) := by
  rw [bitI_or_u64]
  have e1 : ∀ n : Nat, n < 18446744073709551616 → (BitVec.ofInt 64 (n : Int)).toNat = n := by
    intro n hn
    rw [BitVec.toNat_ofInt]
    omega
  rw [BitVec.toNat_or, e1 _ (by omega), e1 _ (by omega), ← Nat.two_pow_add_eq_or_of_lt hb]
  exact wrapUk h

theorem fdivN (a : Nat) (b : Nat) : (a : Int).fdiv (b : Int) = ((a / b : Nat) : Int) := by
  rw [Int.fdiv_eq_ediv_of_nonneg _ (by omega)]
  rfl
theorem tdivN (a b : Nat) : (a : Int).tdiv (b : Int) = ((a / b : Nat) : Int) := rfl
theorem tmodN (a b : Nat) : (a : Int).tmod (b : Int) = ((a % b : Nat) : Int) := rfl
end Go.Lift.L03
