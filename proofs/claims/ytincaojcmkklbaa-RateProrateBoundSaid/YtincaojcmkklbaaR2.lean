/- A part of the proof that the law returns true for every input: no condition. -/
import Derived.Test.YtincaojcmkklbaaR1
set_option maxRecDepth 100000
set_option linter.unusedVariables false
set_option linter.unusedSimpArgs false
namespace Go.Lift.L03
open Go.Lift Go.Proofs

def u64ok (x : Int) : Bool := decide (0 ≤ x) && decide (x < 18446744073709551616)
theorem u64ok_spec {x : Int} (h : u64ok x = true) : ∃ n : Nat, x = n ∧ n < 18446744073709551616 := by
  simp only [u64ok, Bool.and_eq_true, decide_eq_true_eq] at h
  exact ⟨x.toNat, by omega, by omega⟩

/-! Mul64 -/
def mulHi (x y : Int) : Int := ((x.toNat * y.toNat / 18446744073709551616 : Nat) : Int)
def mulLo (x y : Int) : Int := ((x.toNat * y.toNat % 18446744073709551616 : Nat) : Int)
def Fmul := FC2 (.int .u64) (.int .u64) (fun x y => u64ok x && u64ok y) fun x y => .tup [.tv (U (mulHi x y)), .tv (U (mulLo x y))]

theorem w64k {n : Nat} (h : n < 18446744073709551616) : w64 (n : Int) = (n : Int) := wrapUk h
abbrev lo32 (n : Int) : Int := bitI .and .u64 n 4294967295
abbrev hi32 (n : Int) : Int := n.fdiv 4294967296
def mT (x y : Int) : Int := w64 (w64 (hi32 x * lo32 y) + hi32 (w64 (lo32 x * lo32 y)))
def mW (x y : Int) : Int := w64 (lo32 (mT x y) + w64 (lo32 x * hi32 y))
theorem e22 (G : Tbl) (x y : Int) : runF G [] Try.f22 100 (bod Try.f22) (entry [U x, U y]) =
  .ret (.tup [.tv (U (w64 (w64 (w64 (hi32 x * hi32 y) + hi32 (mT x y)) + hi32 (mW x y)))), .tv (U (w64 (x * y)))]) := by kernel_rfl

theorem env22 {G : Tbl} (hE : Env Try.prog T G) : Env Try.prog T (G.add 22 Fmul) := by
  refine hE.fun' (fn := Try.f22) (by kernel_rfl) (by kernel_rfl) (by kernel_rfl) fun tds r h => ?_
  obtain ⟨x, y, rfl, hk, rfl⟩ := FC2.inv h
  · simp only [Bool.and_eq_true] at hk
    obtain ⟨hxo, hyo⟩ := hk
    refine ⟨Nat.le_of_ble_eq_true (by kernel_rfl), .more 100 (fun _ => []) _ _ _ (.of_eq (e22 G x y) ?_)⟩
    obtain ⟨x, rfl, hx⟩ := u64ok_spec hxo
    obtain ⟨y, rfl, hy⟩ := u64ok_spec hyo
    obtain ⟨bd, bt, bw, hhi⟩ := Lib.mul64_hi x y hx hy
    have hh : ∀ n : Nat, hi32 (n : Int) = ((n / 4294967296 : Nat) : Int) := fun n => fdivN n 4294967296
    have e1 : mT x y = ((x / 4294967296 * (y % 4294967296) + x % 4294967296 * (y % 4294967296) / 4294967296 : Nat) : Int) := by
      unfold mT
      simp only [lo32, maskU hx, maskU hy, hh, ← Int.natCast_mul]
      rw [w64k bd, w64k (n := x / 4294967296 * (y % 4294967296)) (by omega), hh, ← Int.natCast_add, w64k bt]
    have e2 : mW x y = (((x / 4294967296 * (y % 4294967296) + x % 4294967296 * (y % 4294967296) / 4294967296) % 4294967296 + x % 4294967296 * (y / 4294967296) : Nat) : Int) := by
      unfold mW
      rw [e1]
      simp only [lo32, maskU bt, maskU hx, hh, ← Int.natCast_mul]
      rw [w64k (n := x % 4294967296 * (y / 4294967296)) (by omega), ← Int.natCast_add, w64k bw]
    have hq : x * y / 18446744073709551616 < 18446744073709551616 := by
      have : x * y < 18446744073709551616 * 18446744073709551616 := Nat.mul_lt_mul_of_lt_of_lt hx hy
      omega
    have e3 : w64 (w64 (w64 (hi32 x * hi32 y) + hi32 (mT x y)) + hi32 (mW x y)) = mulHi x y := by
      rw [e1, e2]
      simp only [hh, ← Int.natCast_mul]
      unfold mulHi
      simp only [Int.toNat_natCast]
      rw [← hhi] at hq ⊢
      rw [w64k (n := x / 4294967296 * (y / 4294967296)) (by omega), ← Int.natCast_add, w64k (by omega), ← Int.natCast_add, w64k hq]
    have e4 : w64 ((x : Int) * (y : Int)) = mulLo x y := by
      rw [← Int.natCast_mul]
      exact wrapUN _
    rw [e3, e4]
    exact .ret _

/-! Len64 -/
def len64 (x : Int) : Int := if x.toNat = 0 then 0 else ((Nat.log2 x.toNat + 1 : Nat) : Int)
end Go.Lift.L03
