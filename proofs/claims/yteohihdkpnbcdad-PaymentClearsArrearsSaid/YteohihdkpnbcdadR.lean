/- A part of the proof that the law returns true for every input: no condition. -/
import Derived.Test.YteohihdkpnbcdadB
import Derived.Lib.Mul64
set_option maxRecDepth 100000
namespace Go.Lift.L40
open Go.Lift Go.Proofs

theorem wrapU {n : Int} (h0 : 0 ≤ n) (h : n < 18446744073709551616) : IntKind.wrap .u64 n = n := by
  unfold IntKind.wrap
  simp [IntKind.signed, IntKind.bits]
  omega
theorem wrapUN (n : Nat) : IntKind.wrap .u64 (n : Int) = ((n % 18446744073709551616 : Nat) : Int) := by
  unfold IntKind.wrap
  simp [IntKind.signed, IntKind.bits]
theorem wrapUk {n : Nat} (h : n < 18446744073709551616) : IntKind.wrap .u64 (n : Int) = (n : Int) := wrapU (by omega) (by omega)

theorem bitI_and_u64 (x y : Int) : bitI .and .u64 x y = IntKind.wrap .u64 (((BitVec.ofInt 64 x &&& BitVec.ofInt 64 y : BitVec 64).toNat : Nat) : Int) := rfl
theorem bitI_or_u64 (x y : Int) : bitI .or .u64 x y = IntKind.wrap .u64 (((BitVec.ofInt 64 x ||| BitVec.ofInt 64 y : BitVec 64).toNat : Nat) : Int) := rfl
theorem maskU {a : Nat} (h : a < 18446744073709551616) : bitI .and .u64 (a : Int) 4294967295 = ((a % 4294967296 : Nat) : Int) := by
  rw [bitI_and_u64]
  have e1 : (BitVec.ofInt 64 (a : Int)).toNat = a := by
    rw [BitVec.toNat_ofInt]
    omega
  have e2 : (BitVec.ofInt 64 (4294967295 : Int)).toNat = 4294967295 := rfl
  rw [BitVec.toNat_and, e1, e2]
  have e : a &&& 4294967295 = a % 4294967296 := Nat.and_two_pow_sub_one_eq_mod a 32
  rw [e]
  exact wrapUk (by omega)

theorem orU {a b s : Nat} (hb : b < 2 ^ s) (h : 2 ^ s * a + b < 18446744073709551616) : bitI .or .u64 ((2 ^ s * a : Nat) : Int) (b : Int) = ((2 ^ s * a + b : Nat) : Int) := by
  rw [bitI_or_u64]
  have e1 : ∀ n : Nat, n < 18446744073709551616 → (BitVec.ofInt 64 (n : Int)).toNat = n := by
    intro n hn
    rw [BitVec.toNat_ofInt]
    omega
  rw [BitVec.toNat_or, e1 _ (by omega), e1 _ (by omega), ← Nat.two_pow_add_eq_or_of_lt hb]
  exact wrapUk h

theorem fdivN (a : Nat) (b : Nat) : (a : Int).fdiv (b : Int) = ((a / b : Nat) : Int) := by
  rw [Int.fdiv_eq_ediv_of_nonneg _ (by omega)]
  rfl
theorem tdivN (a b : Nat) : (a : Int).tdiv (b : Int) = ((a / b : Nat) : Int) := rfl
theorem tmodN (a b : Nat) : (a : Int).tmod (b : Int) = ((a % b : Nat) : Int) := rfl
end Go.Lift.L40
set_option maxRecDepth 100000
set_option linter.unusedVariables false
set_option linter.unusedSimpArgs false
namespace Go.Lift.L40
open Go.Lift Go.Proofs

def u64ok (x : Int) : Bool := decide (0 ≤ x) && decide (x < 18446744073709551616)
theorem u64ok_spec {x : Int} (h : u64ok x = true) : ∃ n : Nat, x = n ∧ n < 18446744073709551616 := by
  simp only [u64ok, Bool.and_eq_true, decide_eq_true_eq] at h
  exact ⟨x.toNat, by omega, by omega⟩

/-! Mul64 -/
def mulHi (x y : Int) : Int := ((x.toNat * y.toNat / 18446744073709551616 : Nat) : Int)
def mulLo (x y : Int) : Int := ((x.toNat * y.toNat % 18446744073709551616 : Nat) : Int)
def Fmul := FC2 (.int .u64) (.int .u64) (fun x y => u64ok x && u64ok y) fun x y => .tup [.tv (U (mulHi x y)), .tv (U (mulLo x y))]

theorem w64k {n : Nat} (h : n < 18446744073709551616) : w64 (n : Int) = (n : Int) := wrapUk h
abbrev lo32 (n : Int) : Int := bitI .and .u64 n 4294967295
abbrev hi32 (n : Int) : Int := n.fdiv 4294967296
def mT (x y : Int) : Int := w64 (w64 (hi32 x * lo32 y) + hi32 (w64 (lo32 x * lo32 y)))
def mW (x y : Int) : Int := w64 (lo32 (mT x y) + w64 (lo32 x * hi32 y))
theorem e22 (G : Tbl) (x y : Int) : runF G [] Try.f44 100 (bod Try.f44) (entry [U x, U y]) =
  .ret (.tup [.tv (U (w64 (w64 (w64 (hi32 x * hi32 y) + hi32 (mT x y)) + hi32 (mW x y)))), .tv (U (w64 (x * y)))]) := by kernel_rfl

theorem env22 {G : Tbl} (hE : Env Try.prog T G) : Env Try.prog T (G.add 44 Fmul) := by
  refine hE.fun' (fn := Try.f44) (by kernel_rfl) (by kernel_rfl) (by kernel_rfl) fun tds r h => ?_
  obtain ⟨x, y, rfl, hk, rfl⟩ := FC2.inv h
  · simp only [Bool.and_eq_true] at hk
    obtain ⟨hxo, hyo⟩ := hk
    refine ⟨Nat.le_of_ble_eq_true (by kernel_rfl), .more 100 (fun _ => []) _ _ _ (.of_eq (e22 G x y) ?_)⟩
    obtain ⟨x, rfl, hx⟩ := u64ok_spec hxo
    obtain ⟨y, rfl, hy⟩ := u64ok_spec hyo
    obtain ⟨bd, bt, bw, hhi⟩ := Lib.mul64_hi x y hx hy
    have hh : ∀ n : Nat, hi32 (n : Int) = ((n / 4294967296 : Nat) : Int) := fun n => fdivN n 4294967296
    have e1 : mT x y = ((x / 4294967296 * (y % 4294967296) + x % 4294967296 * (y % 4294967296) / 4294967296 : Nat) : Int) := by
      unfold mT
      simp only [lo32, maskU hx, maskU hy, hh, ← Int.natCast_mul]
      rw [w64k bd, w64k (n := x / 4294967296 * (y % 4294967296)) (by omega), hh, ← Int.natCast_add, w64k bt]
    have e2 : mW x y = (((x / 4294967296 * (y % 4294967296) + x % 4294967296 * (y % 4294967296) / 4294967296) % 4294967296 + x % 4294967296 * (y / 4294967296) : Nat) : Int) := by
      unfold mW
      rw [e1]
      simp only [lo32, maskU bt, maskU hx, hh, ← Int.natCast_mul]
      rw [w64k (n := x % 4294967296 * (y / 4294967296)) (by omega), ← Int.natCast_add, w64k bw]
    have hq : x * y / 18446744073709551616 < 18446744073709551616 := by
      have : x * y < 18446744073709551616 * 18446744073709551616 := Nat.mul_lt_mul_of_lt_of_lt hx hy
      omega
    have e3 : w64 (w64 (w64 (hi32 x * hi32 y) + hi32 (mT x y)) + hi32 (mW x y)) = mulHi x y := by
      rw [e1, e2]
      simp only [hh, ← Int.natCast_mul]
      unfold mulHi
      simp only [Int.toNat_natCast]
      rw [← hhi] at hq ⊢
      rw [w64k (n := x / 4294967296 * (y / 4294967296)) (by omega), ← Int.natCast_add, w64k (by omega), ← Int.natCast_add, w64k hq]
    have e4 : w64 ((x : Int) * (y : Int)) = mulLo x y := by
      rw [← Int.natCast_mul]
      exact wrapUN _
    rw [e3, e4]
    exact .ret _

/-! Len64 -/
def len64 (x : Int) : Int := if x.toNat = 0 then 0 else ((Nat.log2 x.toNat + 1 : Nat) : Int)
end Go.Lift.L40
set_option maxRecDepth 100000
set_option linter.unusedVariables false
set_option linter.unusedSimpArgs false
namespace Go.Lift.L40
open Go.Lift Go.Proofs

/-! Len64, as the code computes it -/
def tab : ByteArray := ⟨#[0,1,2,2,3,3,3,3,4,4,4,4,4,4,4,4,5,5,5,5,5,5,5,5,5,5,5,5,5,5,5,5,6,6,6,6,6,6,6,6,6,6,6,6,6,6,6,6,6,6,6,6,6,6,6,6,6,6,6,6,6,6,6,6,7,7,7,7,7,7,7,7,7,7,7,7,7,7,7,7,7,7,7,7,7,7,7,7,7,7,7,7,7,7,7,7,7,7,7,7,7,7,7,7,7,7,7,7,7,7,7,7,7,7,7,7,7,7,7,7,7,7,7,7,7,7,7,7,8,8,8,8,8,8,8,8,8,8,8,8,8,8,8,8,8,8,8,8,8,8,8,8,8,8,8,8,8,8,8,8,8,8,8,8,8,8,8,8,8,8,8,8,8,8,8,8,8,8,8,8,8,8,8,8,8,8,8,8,8,8,8,8,8,8,8,8,8,8,8,8,8,8,8,8,8,8,8,8,8,8,8,8,8,8,8,8,8,8,8,8,8,8,8,8,8,8,8,8,8,8,8,8,8,8,8,8,8,8,8,8,8,8,8,8,8,8,8,8,8,8,8,8,8,8,8,8]⟩
def tabI (x : Int) : Int := IntKind.wrap .i64 (((tab.get! (IntKind.wrap .u8 x).toNat).toNat : Nat) : Int)
def lenE (x n : Int) : Leaf := bif inB (IntKind.wrap .u8 x) tab.size then .ret (.tv (I (IntKind.wrap .i64 (n + tabI x)))) else .fail
def lenC (x n : Int) : Leaf := bif decide (x ≥ 256) then lenE (x.fdiv 256) (IntKind.wrap .i64 (n + 8)) else lenE x n
def lenB (x n : Int) : Leaf := bif decide (x ≥ 65536) then lenC (x.fdiv 65536) (IntKind.wrap .i64 (n + 16)) else lenC x n
theorem e41 (G : Tbl) (x : Int) : runF G [] Try.f54 100 (bod Try.f54) (entry [U x]) =
  bif decide (x ≥ 4294967296) then lenB (x.fdiv 4294967296) 32 else lenB x 0 := by kernel_rfl

def lenN (x : Nat) : Nat := (tab.get! x).toNat
def lenN3 (x n : Nat) : Nat := if x ≥ 256 then n + 8 + lenN (x / 256) else n + lenN x
def lenN2 (x n : Nat) : Nat := if x ≥ 65536 then lenN3 (x / 65536) (n + 16) else lenN3 x n
def lenN1 (x : Nat) : Nat := if x ≥ 4294967296 then lenN2 (x / 4294967296) 32 else lenN2 x 0
def lenI (x : Int) : Int := (lenN1 x.toNat : Nat)
def Flen := FC1 (.int .u64) u64ok fun x => .tv (I (lenI x))
def Flz := FC1 (.int .u64) u64ok fun x => .tv (I (IntKind.wrap .i64 (64 - lenI x)))
theorem e32 (G : Tbl) (x : Int) : runF (G.add 54 Flen) [] Try.f53 100 (bod Try.f53) (entry [U x]) =
  bif u64ok x then .ret (.tv (I (IntKind.wrap .i64 (64 - lenI x)))) else .fail := by kernel_rfl

theorem tab_ok : ((List.range 256).all fun x => decide (lenN x ≤ 8) && (decide (x = 0) || (decide (1 ≤ lenN x) && decide (2 ^ (lenN x - 1) ≤ x) && decide (x < 2 ^ lenN x)))) = true := by kernel_rfl

/-! Div64 -/
def GD (G : Tbl) : Tbl := (G.add 54 Flen).add 53 Flz
def sOf (y : Int) : Int := w64 (IntKind.wrap .i64 (64 - lenI y))
def sl (n s : Int) : Int := w64 (n * 2 ^ (min s.toNat 64))
def sr (n s : Int) : Int := n.fdiv (2 ^ (min s.toNat 64))
def un32 (hi lo s : Int) : Int := bitI .or .u64 (sl hi s) (sr lo (w64 (64 - s)))
def ks24 : List Nat := [2,8,9,10,11,13,14,15,16,17,18]
noncomputable def L24 : Leaf := runF (GD Tbl.none) ks24 Try.f45 200 (bod Try.f45) (entry [U 1, U 0, U 2])
def S24 (Y s yn1 yn0 u u1 u0 q r : Int) : St :=
  ⟨[(2, .tv (U Y)), (8, .tv (U s)), (9, .tv (U yn1)), (10, .tv (U yn0)), (11, .tv (U u)), (13, .tv (U u1)), (14, .tv (U u0)), (15, .tv (U q)), (16, .tv (U r))], []⟩
noncomputable def M24 : Leaf := runF (GD Tbl.none) ks24 Try.f45 200 L24.round (S24 9223372036854775808 62 2147483648 0 1 0 0 0 1)
def R24 (Y s yn1 yn0 u u1 u0 q r v q0 : Int) : St :=
  ⟨[(2, .tv (U Y)), (8, .tv (U s)), (9, .tv (U yn1)), (10, .tv (U yn0)), (11, .tv (U u)), (13, .tv (U u1)), (14, .tv (U u0)), (15, .tv (U q)), (16, .tv (U r)), (17, .tv (U v)), (18, .tv (U q0))], []⟩

theorem e24 (G : Tbl) (hi lo y : Int) : runF (GD G) ks24 Try.f45 200 (bod Try.f45) (entry [U hi, U lo, U y]) =
  bif y == 0 then .fail else bif decide (y ≤ hi) then .fail
  else bif hi == 0 then (bif !(y == 0) then bif !(y == 0) then .ret (.tup [.tv (U (w64 (lo.tdiv y))), .tv (U (lo.tmod y))]) else .fail else .fail)
  else bif u64ok y then
    bif decide (0 ≤ sOf y) then
      bif decide (0 ≤ sOf y) then
        bif decide (0 ≤ w64 (64 - sOf y)) then
          bif decide (0 ≤ sOf y) then
            bif !(hi32 (sl y (sOf y)) == 0) then
              .loop L24.body L24.kont (S24 (sl y (sOf y)) (sOf y) (hi32 (sl y (sOf y))) (lo32 (sl y (sOf y))) (un32 hi lo (sOf y)) (hi32 (sl lo (sOf y))) (lo32 (sl lo (sOf y)))
                (w64 ((un32 hi lo (sOf y)).tdiv (hi32 (sl y (sOf y))))) (w64 (un32 hi lo (sOf y) - w64 (w64 ((un32 hi lo (sOf y)).tdiv (hi32 (sl y (sOf y)))) * hi32 (sl y (sOf y))))))
            else .fail
          else .fail
        else .fail
      else .fail
    else .fail
  else .fail := by kernel_rfl

def over (yn0 q r w : Int) : Bool := bif decide (q ≥ 4294967296) then true else decide (w64 (q * yn0) > w64 (w64 (4294967296 * r) + w))
def v24 (Y u u1 q : Int) : Int := w64 (w64 (w64 (u * 4294967296) + u1) - w64 (q * Y))
noncomputable def after1 (Y s yn1 yn0 u u1 u0 q : Int) : Leaf :=
  bif !(yn1 == 0) then
    .loop M24.body M24.kont (R24 Y s yn1 yn0 u u1 u0 q (w64 (v24 Y u u1 q - w64 (w64 ((v24 Y u u1 q).tdiv yn1) * yn1))) (v24 Y u u1 q) (w64 ((v24 Y u u1 q).tdiv yn1)))
  else .fail
theorem i24 (G : Tbl) (Y s yn1 yn0 u u1 u0 q r : Int) : runF (GD G) ks24 Try.f45 200 L24.round (S24 Y s yn1 yn0 u u1 u0 q r) =
  bif over yn0 q r u1 then
    bif decide (w64 (r + yn1) ≥ 4294967296) then after1 Y s yn1 yn0 u u1 u0 (w64 (q - 1))
    else .loop L24.body L24.kont (S24 Y s yn1 yn0 u u1 u0 (w64 (q - 1)) (w64 (r + yn1)))
  else after1 Y s yn1 yn0 u u1 u0 q := by kernel_rfl
def after2 (Y s u0 q v q0 : Int) : Leaf :=
  bif decide (0 ≤ s) then .ret (.tup [.tv (U (w64 (w64 (q * 4294967296) + q0))), .tv (U (sr (v24 Y v u0 q0) s))]) else .fail
theorem j24 (G : Tbl) (Y s yn1 yn0 u u1 u0 q r v q0 : Int) : runF (GD G) ks24 Try.f45 200 M24.round (R24 Y s yn1 yn0 u u1 u0 q r v q0) =
  bif over yn0 q0 r u0 then
    bif decide (w64 (r + yn1) ≥ 4294967296) then after2 Y s u0 q v (w64 (q0 - 1))
    else .loop M24.body M24.kont (R24 Y s yn1 yn0 u u1 u0 q (w64 (r + yn1)) v (w64 (q0 - 1)))
  else after2 Y s u0 q v q0 := by kernel_rfl
end Go.Lift.L40
set_option maxRecDepth 100000
set_option linter.unusedVariables false
set_option linter.unusedSimpArgs false
namespace Go.Lift.L40
open Go.Lift Go.Proofs

/-! the school method, one digit -/
structure Dig (Y a b u w : Nat) : Prop where
  hy : Y = a * 4294967296 + b
  hb : b < 4294967296
  ha : 2147483648 ≤ a
  ha' : a < 4294967296
  hu : u < Y
  hw : w < 4294967296

def qd (Y u w : Nat) : Nat := (u * 4294967296 + w) / Y

theorem Dig.pos {Y a b u w : Nat} (d : Dig Y a b u w) : 0 < Y := by have := d.hy; have := d.ha; omega

theorem Dig.lt {Y a b u w : Nat} (d : Dig Y a b u w) : qd Y u w < 4294967296 := by
  unfold qd
  rw [Nat.div_lt_iff_lt_mul d.pos]
  have h1 := d.hu
  have h2 := d.hw
  have : (u + 1) * 4294967296 ≤ Y * 4294967296 := Nat.mul_le_mul_right _ h1
  rw [Nat.mul_comm 4294967296 Y]
  omega

theorem add_lt_cancel (z x w y : Nat) : z + x + w < z + y ↔ x + w < y := by omega

theorem Dig.gt_iff {Y a b u w : Nat} (d : Dig Y a b u w) {q r : Nat} (h : q * a + r = u) : qd Y u w < q ↔ r * 4294967296 + w < q * b := by
  unfold qd
  rw [Nat.div_lt_iff_lt_mul d.pos]
  have e1 : q * Y = q * a * 4294967296 + q * b := by rw [d.hy, Nat.mul_add, Nat.mul_assoc]
  have e2 : u * 4294967296 = q * a * 4294967296 + r * 4294967296 := by rw [← h, Nat.add_mul]
  rw [e1, e2]
  exact add_lt_cancel _ _ _ _

theorem Dig.big {Y a b u w : Nat} (d : Dig Y a b u w) {q r : Nat} (h : q * a + r = u) (hr : 4294967296 ≤ r) : q ≤ qd Y u w := by
  refine Nat.le_of_not_lt fun hlt => ?_
  rw [d.gt_iff h] at hlt
  have hb := d.hb
  have hq : q < 4294967296 := by
    refine Nat.lt_of_not_le fun hq => ?_
    have h1 : 4294967296 * a ≤ q * a := Nat.mul_le_mul_right _ hq
    have := d.hu
    have := d.hy
    omega
  have : q * b ≤ 4294967296 * b := Nat.mul_le_mul_right _ (Nat.le_of_lt hq)
  omega

theorem Dig.first {Y a b u w : Nat} (d : Dig Y a b u w) : qd Y u w ≤ u / a ∧ u / a ≤ 4294967297 ∧ u / a * a + u % a = u ∧ u % a < a := by
  have hpos : 0 < a := by have := d.ha; omega
  refine ⟨?_, ?_, ?_, Nat.mod_lt _ hpos⟩
  · rw [Nat.le_div_iff_mul_le hpos]
    have h1 : qd Y u w * Y ≤ u * 4294967296 + w := Nat.div_mul_le_self _ _
    have h2 : qd Y u w * Y = qd Y u w * a * 4294967296 + qd Y u w * b := by rw [d.hy, Nat.mul_add, Nat.mul_assoc]
    have := d.hw
    generalize qd Y u w * a = z at *
    omega
  · have : u / a < 4294967298 := by
      rw [Nat.div_lt_iff_lt_mul hpos]
      have := d.hu; have := d.hy; have := d.hb; have := d.ha
      rw [Nat.mul_comm]
      omega
    omega
  · rw [Nat.mul_comm]; exact Nat.div_add_mod u a

theorem Dig.over_eq {Y a b u w : Nat} (d : Dig Y a b u w) {q r : Nat} (h : q * a + r = u) (hr : r < 4294967296) : over b q r w = decide (qd Y u w < q) := by
  unfold over
  have hb := d.hb; have hw := d.hw
  by_cases hq : q ≥ 4294967296
  · have h1 : decide ((q : Int) ≥ 4294967296) = true := by simp; omega
    have := d.lt
    rw [h1, cond_true, decide_eq_true (by omega)]
  · have h1 : decide ((q : Int) ≥ 4294967296) = false := by simp; omega
    rw [h1, cond_false]
    have hqb : q * b < 18446744073709551616 := by
      have : q * b ≤ 4294967295 * b := Nat.mul_le_mul_right _ (by omega)
      omega
    have e1 : w64 ((q : Int) * (b : Int)) = ((q * b : Nat) : Int) := by rw [← Int.natCast_mul]; exact w64k hqb
    have e2 : w64 (w64 (4294967296 * (r : Int)) + (w : Int)) = ((r * 4294967296 + w : Nat) : Int) := by
      have : (4294967296 * (r : Int)) = ((r * 4294967296 : Nat) : Int) := by omega
      rw [this, w64k (by omega), ← Int.natCast_add, w64k (by omega)]
    rw [e1, e2, decide_eq_decide, d.gt_iff h]
    omega

theorem Dig.rest {Y a b u w : Nat} (d : Dig Y a b u w) (hY : Y < 18446744073709551616) : v24 Y u w (qd Y u w) = (((u * 4294967296 + w) % Y : Nat) : Int) := by
  have hm := Nat.div_add_mod (u * 4294967296 + w) Y
  have hlt : (u * 4294967296 + w) % Y < Y := Nat.mod_lt _ d.pos
  unfold v24
  have e1 : w64 (w64 ((u : Int) * 4294967296) + (w : Int)) = (((u * 4294967296 + w) % 18446744073709551616 : Nat) : Int) := by
    have : ((u : Int) * 4294967296) = ((u * 4294967296 : Nat) : Int) := by omega
    rw [this, show w64 ((u * 4294967296 : Nat) : Int) = ((u * 4294967296 % 18446744073709551616 : Nat) : Int) from wrapUN _, ← Int.natCast_add,
      show w64 ((u * 4294967296 % 18446744073709551616 + w : Nat) : Int) = (((u * 4294967296 % 18446744073709551616 + w) % 18446744073709551616 : Nat) : Int) from wrapUN _]
    congr 1
    omega
  have e2 : w64 (((qd Y u w : Nat) : Int) * (Y : Int)) = ((qd Y u w * Y % 18446744073709551616 : Nat) : Int) := by
    rw [← Int.natCast_mul]; exact wrapUN _
  rw [e1, e2]
  have hq : qd Y u w * Y = Y * ((u * 4294967296 + w) / Y) := Nat.mul_comm _ _
  rw [hq]
  generalize Y * ((u * 4294967296 + w) / Y) = z at *
  generalize (u * 4294967296 + w) % Y = rr at *
  rw [← hm]
  unfold w64 IntKind.wrap
  simp [IntKind.signed, IntKind.bits]
  omega
end Go.Lift.L40
set_option maxRecDepth 100000
set_option linter.unusedVariables false
set_option linter.unusedSimpArgs false
namespace Go.Lift.L40
open Go.Lift Go.Proofs

/-! Len64 -/
theorem tab_at {x : Nat} (h : x < 256) : lenN x ≤ 8 ∧ (x = 0 ∨ (1 ≤ lenN x ∧ 2 ^ (lenN x - 1) ≤ x ∧ x < 2 ^ lenN x)) := by
  have := List.all_eq_true.1 tab_ok x (List.mem_range.2 h)
  simpa [and_assoc] using this

theorem wrapU8 {x : Nat} (h : x < 256) : IntKind.wrap .u8 (x : Int) = (x : Int) := by
  unfold IntKind.wrap
  simp [IntKind.signed, IntKind.bits]
  omega

theorem tabI_eq {x : Nat} (h : x < 256) : tabI x = ((lenN x : Nat) : Int) := by
  unfold tabI
  rw [wrapU8 h, Int.toNat_natCast]
  have := (tab_at h).1
  exact wrap_id (by unfold lenN at this; omega) (by unfold lenN at this; omega)

theorem lenE_eq {x n : Nat} (h : x < 256) (hn : n ≤ 100) : lenE x n = .ret (.tv (I ((n + lenN x : Nat) : Int))) := by
  unfold lenE
  have : inB (IntKind.wrap .u8 (x : Int)) tab.size = true := by
    rw [wrapU8 h]
    have : tab.size = 256 := by kernel_rfl
    rw [this]
    exact inB_nat h
  have h8 := (tab_at h).1
  rw [this, cond_true, tabI_eq h, ← Int.natCast_add, wrap_id (by omega) (by omega)]

theorem lenC_eq {x n : Nat} (h : x < 65536) (hn : n ≤ 90) : lenC x n = .ret (.tv (I ((lenN3 x n : Nat) : Int))) := by
  unfold lenC lenN3
  by_cases hx : x ≥ 256
  · have : decide ((x : Int) ≥ 256) = true := by simp; omega
    rw [this, cond_true, if_pos hx, show (x : Int).fdiv 256 = ((x / 256 : Nat) : Int) from fdivN x 256, show IntKind.wrap .i64 ((n : Int) + 8) = ((n + 8 : Nat) : Int) from wrap_id (by omega) (by omega)]
    exact lenE_eq (by omega) (by omega)
  · have : decide ((x : Int) ≥ 256) = false := by simp; omega
    rw [this, cond_false, if_neg hx]
    exact lenE_eq (by omega) (by omega)

theorem lenB_eq {x n : Nat} (h : x < 4294967296) (hn : n ≤ 70) : lenB x n = .ret (.tv (I ((lenN2 x n : Nat) : Int))) := by
  unfold lenB lenN2
  by_cases hx : x ≥ 65536
  · have : decide ((x : Int) ≥ 65536) = true := by simp; omega
    rw [this, cond_true, if_pos hx, show (x : Int).fdiv 65536 = ((x / 65536 : Nat) : Int) from fdivN x 65536, show IntKind.wrap .i64 ((n : Int) + 16) = ((n + 16 : Nat) : Int) from wrap_id (by omega) (by omega)]
    exact lenC_eq (by omega) (by omega)
  · have : decide ((x : Int) ≥ 65536) = false := by simp; omega
    rw [this, cond_false, if_neg hx]
    exact lenC_eq (by omega) (by omega)

theorem env41 {G : Tbl} (hE : Env Try.prog T G) : Env Try.prog T (G.add 54 Flen) := by
  refine hE.fun' (fn := Try.f54) (by kernel_rfl) (by kernel_rfl) (by kernel_rfl) fun tds r h => ?_
  obtain ⟨x, rfl, hx, rfl⟩ := FC1.inv h
  · skip
    refine ⟨Nat.le_of_ble_eq_true (by kernel_rfl), .more 100 (fun _ => []) _ _ _ (.of_eq (e41 G x) ?_)⟩
    obtain ⟨x, rfl, hx⟩ := u64ok_spec hx
    unfold lenI lenN1
    rw [Int.toNat_natCast]
    by_cases h : x ≥ 4294967296
    · have : decide ((x : Int) ≥ 4294967296) = true := by simp; omega
      rw [this, cond_true, if_pos h, show (x : Int).fdiv 4294967296 = ((x / 4294967296 : Nat) : Int) from fdivN x 4294967296]
      rw [show lenB ((x / 4294967296 : Nat) : Int) 32 = _ from lenB_eq (n := 32) (by omega) (by omega)]
      exact .ret _
    · have : decide ((x : Int) ≥ 4294967296) = false := by simp; omega
      rw [this, cond_false, if_neg h]
      rw [show lenB (x : Int) 0 = _ from lenB_eq (n := 0) (by omega) (by omega)]
      exact .ret _

theorem env32 {G : Tbl} (hE : Env Try.prog T (G.add 54 Flen)) : Env Try.prog T (GD G) := by
  refine hE.fun' (fn := Try.f53) (by kernel_rfl) (by kernel_rfl) (by kernel_rfl) fun tds r h => ?_
  obtain ⟨x, rfl, hx, rfl⟩ := FC1.inv h
  · skip
    refine ⟨Nat.le_of_ble_eq_true (by kernel_rfl), .more 100 (fun _ => []) _ _ _ (.of_eq (e32 G x) ?_)⟩
    rw [hx]
    exact .ret _

/-- the length in bits -/
structure Bits (x n t : Nat) : Prop where
  pos : 1 ≤ t
  lo : 2 ^ (n + t - 1) ≤ x
  hi : x < 2 ^ (n + t)

theorem bits_up {x n m t : Nat} (h : Bits (x / 2 ^ m) n t) : Bits x (m + n) t := by
  have hp : 0 < 2 ^ m := Nat.pow_pos (by omega)
  have h1 := h.lo
  have h2 := h.hi
  have h3 := h.pos
  rw [Nat.le_div_iff_mul_le hp, ← Nat.pow_add] at h1
  rw [Nat.div_lt_iff_lt_mul hp, ← Nat.pow_add] at h2
  exact ⟨h3, by rw [show m + n + t - 1 = n + t - 1 + m by omega]; exact h1, by rw [show m + n + t = n + t + m by omega]; exact h2⟩

theorem len_bits {x : Nat} (h : x < 18446744073709551616) (hx : 0 < x) : 1 ≤ lenN1 x ∧ lenN1 x ≤ 64 ∧ 2 ^ (lenN1 x - 1) ≤ x ∧ x < 2 ^ lenN1 x := by
  have t0 : ∀ {y : Nat}, y < 256 → 0 < y → Bits y 0 (lenN y) ∧ lenN y ≤ 8 := by
    intro y hy h0
    obtain ⟨h8, h'⟩ := tab_at hy
    rcases h' with h' | h'
    · omega
    · exact ⟨⟨h'.1, by simpa using h'.2.1, by simpa using h'.2.2⟩, h8⟩
  have t3 : ∀ {y : Nat} (n : Nat), y < 65536 → 0 < y → ∃ t, lenN3 y n = n + t ∧ Bits y 0 t ∧ t ≤ 16 := by
    intro y n hy h0
    unfold lenN3
    by_cases h : y ≥ 256
    · rw [if_pos h]
      obtain ⟨hb, h8⟩ := t0 (y := y / 256) (by omega) (by omega)
      have hb := bits_up (m := 8) hb
      exact ⟨8 + lenN (y / 256), by omega, ⟨by omega, by have := hb.lo; simpa [Nat.add_assoc] using this, by have := hb.hi; simpa [Nat.add_assoc] using this⟩, by omega⟩
    · rw [if_neg h]
      obtain ⟨hb, h8⟩ := t0 (y := y) (by omega) h0
      exact ⟨lenN y, rfl, hb, by omega⟩
  have t2 : ∀ {y : Nat} (n : Nat), y < 4294967296 → 0 < y → ∃ t, lenN2 y n = n + t ∧ Bits y 0 t ∧ t ≤ 32 := by
    intro y n hy h0
    unfold lenN2
    by_cases h : y ≥ 65536
    · rw [if_pos h]
      obtain ⟨t, e, hb, h16⟩ := t3 (y := y / 65536) (n + 16) (by omega) (by omega)
      have hb := bits_up (m := 16) hb
      exact ⟨16 + t, by omega, ⟨by omega, by have := hb.lo; simpa [Nat.add_assoc] using this, by have := hb.hi; simpa [Nat.add_assoc] using this⟩, by omega⟩
    · rw [if_neg h]
      obtain ⟨t, e, hb, h16⟩ := t3 (y := y) n (by omega) h0
      exact ⟨t, e, hb, by omega⟩
  have t1 : ∃ t, lenN1 x = t ∧ Bits x 0 t ∧ t ≤ 64 := by
    unfold lenN1
    by_cases hc : x ≥ 4294967296
    · rw [if_pos hc]
      obtain ⟨t, e, hb, h32⟩ := t2 (y := x / 4294967296) 32 (by omega) (by omega)
      have hb := bits_up (m := 32) hb
      exact ⟨32 + t, by omega, ⟨by omega, by have := hb.lo; simpa [Nat.add_assoc] using this, by have := hb.hi; simpa [Nat.add_assoc] using this⟩, by omega⟩
    · rw [if_neg hc]
      obtain ⟨t, e, hb, h32⟩ := t2 (y := x) 0 (by omega) hx
      exact ⟨t, by omega, hb, by omega⟩
  obtain ⟨t, e, hb, h64⟩ := t1
  rw [e]
  exact ⟨hb.pos, h64, by have := hb.lo; simpa using this, by have := hb.hi; simpa using this⟩
end Go.Lift.L40
set_option maxRecDepth 100000
set_option linter.unusedVariables false
set_option linter.unusedSimpArgs false
namespace Go.Lift.L40
open Go.Lift Go.Proofs

def divQ (hi lo y : Int) : Int := (((hi.toNat * 18446744073709551616 + lo.toNat) / y.toNat : Nat) : Int)
def divR (hi lo y : Int) : Int := (((hi.toNat * 18446744073709551616 + lo.toNat) % y.toNat : Nat) : Int)
def ltI (a b : Int) : Bool := decide (a < b)
theorem ltI_spec {a b : Int} (h : ltI a b = true) : a < b := of_decide_eq_true h
def Fdiv := FC3 (.int .u64) (.int .u64) (.int .u64) (fun hi lo y => u64ok hi && u64ok lo && u64ok y && ltI hi y) fun hi lo y => .tup [.tv (U (divQ hi lo y)), .tv (U (divR hi lo y))]

abbrev GoD (G : Tbl) (L : Leaf) (r : SV) : Prop := Goes (GD G) T Try.f45.ntmps Try.f45.results.toList L r

theorem wsub1 {q : Nat} (h : 0 < q) (h' : q < 18446744073709551616) : w64 ((q : Int) - 1) = ((q - 1 : Nat) : Int) := by
  rw [show ((q : Int) - 1) = ((q - 1 : Nat) : Int) by omega]
  exact w64k (by omega)
theorem wadd {a b : Nat} (h : a + b < 18446744073709551616) : w64 ((a : Int) + (b : Int)) = ((a + b : Nat) : Int) := by
  rw [← Int.natCast_add]; exact w64k h

theorem loop2 (G : Tbl) {Y a b v w : Nat} (d : Dig Y a b v w) (s u u1 q : Int) {r0 : SV} (hfin : GoD G (after2 Y s w q v (qd Y v w : Nat)) r0) :
    ∀ (k r : Nat), k * a + r = v → r < 4294967296 → qd Y v w ≤ k → k ≤ 4294967297 → GoD G (.loop M24.body M24.kont (R24 Y s a b u u1 w q r v k)) r0
  | k, r, h, hr, hk, hk2 => by
    refine Goes.lp 200 (fun _ => ks24) (.of_eq (j24 G Y s a b u u1 w q r v k) ?_)
    rw [d.over_eq h hr]
    have ha' := d.ha'
    refine .bif (fun h1 => ?_) (fun h1 => ?_)
    · have hlt : qd Y v w < k := by simpa using h1
      rw [wsub1 (by omega) (by omega), wadd (by omega)]
      have h' : (k - 1) * a + (r + a) = v := by
        obtain ⟨j, rfl⟩ : ∃ j, k = j + 1 := ⟨k - 1, by omega⟩
        rw [Nat.add_mul] at h
        rw [Nat.add_sub_cancel]
        omega
      refine .bif (fun h2 => ?_) (fun h2 => ?_)
      · have hbig : 4294967296 ≤ r + a := by simp only [decide_eq_true_eq] at h2; omega
        have := d.big h' hbig
        have e : k - 1 = qd Y v w := by omega
        rw [e]
        exact hfin
      · have hsm : r + a < 4294967296 := by simp only [decide_eq_false_iff_not] at h2; omega
        exact loop2 G d s u u1 q hfin (k - 1) (r + a) h' hsm (by omega) (by omega)
    · have : ¬ qd Y v w < k := by simpa using h1
      have e : k = qd Y v w := by omega
      rw [e]
      exact hfin
  termination_by k => k

theorem loop1 (G : Tbl) {Y a b u w : Nat} (d : Dig Y a b u w) (s u0 : Int) {r0 : SV} (hfin : GoD G (after1 Y s a b u w u0 (qd Y u w : Nat)) r0) :
    ∀ (k r : Nat), k * a + r = u → r < 4294967296 → qd Y u w ≤ k → k ≤ 4294967297 → GoD G (.loop L24.body L24.kont (S24 Y s a b u w u0 k r)) r0
  | k, r, h, hr, hk, hk2 => by
    refine Goes.lp 200 (fun _ => ks24) (.of_eq (i24 G Y s a b u w u0 k r) ?_)
    rw [d.over_eq h hr]
    have ha' := d.ha'
    refine .bif (fun h1 => ?_) (fun h1 => ?_)
    · have hlt : qd Y u w < k := by simpa using h1
      rw [wsub1 (by omega) (by omega), wadd (by omega)]
      have h' : (k - 1) * a + (r + a) = u := by
        obtain ⟨j, rfl⟩ : ∃ j, k = j + 1 := ⟨k - 1, by omega⟩
        rw [Nat.add_mul] at h
        rw [Nat.add_sub_cancel]
        omega
      refine .bif (fun h2 => ?_) (fun h2 => ?_)
      · have hbig : 4294967296 ≤ r + a := by simp only [decide_eq_true_eq] at h2; omega
        have := d.big h' hbig
        have e : k - 1 = qd Y u w := by omega
        rw [e]
        exact hfin
      · have hsm : r + a < 4294967296 := by simp only [decide_eq_false_iff_not] at h2; omega
        exact loop1 G d s u0 hfin (k - 1) (r + a) h' hsm (by omega) (by omega)
    · have : ¬ qd Y u w < k := by simpa using h1
      have e : k = qd Y u w := by omega
      rw [e]
      exact hfin
  termination_by k => k

theorem first_vals {Y a b u w : Nat} (d : Dig Y a b u w) (hY : Y < 18446744073709551616) :
    w64 ((u : Int).tdiv (a : Int)) = ((u / a : Nat) : Int) ∧ w64 ((u : Int) - w64 (((u / a : Nat) : Int) * (a : Int))) = ((u % a : Nat) : Int) := by
  obtain ⟨f1, f2, f3, f4⟩ := d.first
  have hu := d.hu
  refine ⟨by rw [tdivN]; exact w64k (by omega), ?_⟩
  rw [← Int.natCast_mul, w64k (by omega)]
  rw [show ((u : Int) - ((u / a * a : Nat) : Int)) = ((u % a : Nat) : Int) by omega]
  exact w64k (by omega)
end Go.Lift.L40
set_option maxRecDepth 100000
set_option linter.unusedVariables false
set_option linter.unusedSimpArgs false
namespace Go.Lift.L40
open Go.Lift Go.Proofs

theorem slN (n s : Nat) (hs : s ≤ 64) : sl (n : Int) (s : Int) = ((n * 2 ^ s % 18446744073709551616 : Nat) : Int) := by
  unfold sl
  rw [Int.toNat_natCast, Nat.min_eq_left hs, show ((2 : Int) ^ s) = ((2 ^ s : Nat) : Int) by simp, ← Int.natCast_mul]
  exact wrapUN _
theorem srN (n s : Nat) (hs : s ≤ 64) : sr (n : Int) (s : Int) = ((n / 2 ^ s : Nat) : Int) := by
  unfold sr
  rw [Int.toNat_natCast, Nat.min_eq_left hs, show ((2 : Int) ^ s) = ((2 ^ s : Nat) : Int) by simp]
  exact fdivN _ _

theorem pow64 (s : Nat) (hs : s ≤ 64) : 2 ^ (64 - s) * 2 ^ s = 18446744073709551616 := by
  rw [← Nat.pow_add, show 64 - s + s = 64 by omega]

theorem qsum {A C : Nat} (hA : A < 4294967296) (hC : C < 4294967296) : w64 (w64 ((A : Int) * 4294967296) + (C : Int)) = ((A * 4294967296 + C : Nat) : Int) := by
  rw [show ((A : Int) * 4294967296) = ((A * 4294967296 : Nat) : Int) by omega, w64k (by omega), wadd (by omega)]

theorem join (u w : Nat) : (u * 4294967296 + w / 4294967296) * 4294967296 + w % 4294967296 = u * 18446744073709551616 + w := by omega

/-- the whole division, out of two digits -/
theorem two_digits {Y B u u1 u0 : Nat} (hY : 0 < Y) :
    ((u * B + u1) * B + u0) / Y = (u * B + u1) / Y * B + ((u * B + u1) % Y * B + u0) / Y ∧ ((u * B + u1) * B + u0) % Y = ((u * B + u1) % Y * B + u0) % Y := by
  have h1 := Nat.div_add_mod (u * B + u1) Y
  generalize u * B + u1 = x at *
  have e : x * B + u0 = (x % Y * B + u0) + Y * (x / Y * B) := by
    have : x * B = Y * (x / Y) * B + x % Y * B := by rw [← Nat.add_mul, h1]
    rw [this, Nat.mul_assoc]
    omega
  rw [e]
  constructor
  · rw [Nat.add_mul_div_left _ _ hY, Nat.add_comm]
  · rw [Nat.add_mul_mod_self_left]

theorem env24 {G : Tbl} (hE : Env Try.prog T (GD G)) : Env Try.prog T ((GD G).add 45 Fdiv) := by
  refine hE.fun' (fn := Try.f45) (by kernel_rfl) (by kernel_rfl) (by kernel_rfl) fun tds r h => ?_
  obtain ⟨hi, lo, y, rfl, hk, rfl⟩ := FC3.inv h
  · simp only [Bool.and_eq_true] at hk
    obtain ⟨⟨⟨hhi, hlo⟩, hyy⟩, hlt⟩ := hk
    refine ⟨Nat.le_of_ble_eq_true (by kernel_rfl), .more 200 (fun _ => ks24) _ _ _ (.of_eq (e24 G hi lo y) ?_)⟩
    have hyo := hyy
    obtain ⟨hi, rfl, h1⟩ := u64ok_spec hhi
    obtain ⟨lo, rfl, h2⟩ := u64ok_spec hlo
    obtain ⟨y, rfl, h3⟩ := u64ok_spec hyy
    have hlt : hi < y := by have := ltI_spec hlt; omega
    have c1 : ((y : Int) == 0) = false := by simp; omega
    have c2 : decide ((y : Int) ≤ (hi : Int)) = false := by simp; omega
    rw [c1, c2, cond_false, cond_false]
    unfold divQ divR
    simp only [Int.toNat_natCast]
    refine .bif (fun h => ?_) (fun h => ?_)
    · have : hi = 0 := by simpa using h
      subst this
      simp only [Bool.not_false, cond_true, Nat.zero_mul, Nat.zero_add]
      rw [tdivN, tmodN, w64k (Nat.lt_of_le_of_lt (Nat.div_le_self _ _) h2)]
      exact .ret _
    · have hpos : 0 < hi := by simp at h; omega
      have hy0 : 0 < y := by omega
      obtain ⟨l1, l2, l3, l4⟩ := len_bits h3 hy0
      obtain ⟨s, hs⟩ : ∃ s, s = 64 - lenN1 y := ⟨_, rfl⟩
      have hs64 : s ≤ 63 := by omega
      have hsOf : sOf (y : Int) = (s : Int) := by
        unfold sOf lenI
        rw [Int.toNat_natCast, wrap_id (by omega) (by omega), show (64 - ((lenN1 y : Nat) : Int)) = ((s : Nat) : Int) by omega]
        exact w64k (by omega)
      have hp : 0 < 2 ^ s := Nat.pow_pos (by omega)
      have hYlt : y * 2 ^ s < 18446744073709551616 := by
        have : y * 2 ^ s < 2 ^ lenN1 y * 2 ^ s := Nat.mul_lt_mul_of_pos_right l4 hp
        rw [← Nat.pow_add, show lenN1 y + s = 64 by omega] at this
        exact this
      have hYge : 9223372036854775808 ≤ y * 2 ^ s := by
        have : 2 ^ (lenN1 y - 1) * 2 ^ s ≤ y * 2 ^ s := Nat.mul_le_mul_right _ l3
        rw [← Nat.pow_add, show lenN1 y - 1 + s = 63 by omega] at this
        exact this
      have hp64 := pow64 s (by omega)
      have hq : 0 < 2 ^ (64 - s) := Nat.pow_pos (by omega)
      have hb : lo / 2 ^ (64 - s) < 2 ^ s := by
        rw [Nat.div_lt_iff_lt_mul hq, Nat.mul_comm, hp64]
        exact h2
      have huY : 2 ^ s * hi + lo / 2 ^ (64 - s) < y * 2 ^ s := by
        have : 2 ^ s * (hi + 1) ≤ 2 ^ s * y := Nat.mul_le_mul_left _ hlt
        rw [Nat.mul_comm (2 ^ s) y, Nat.mul_add, Nat.mul_one] at this
        omega
      have k1 : sl (y : Int) (s : Int) = ((y * 2 ^ s : Nat) : Int) := by rw [slN y s (by omega), Nat.mod_eq_of_lt hYlt]
      have k2 : w64 (64 - (s : Int)) = ((64 - s : Nat) : Int) := by
        rw [show (64 - (s : Int)) = ((64 - s : Nat) : Int) by omega]
        exact w64k (by omega)
      have k3 : un32 (hi : Int) (lo : Int) (s : Int) = ((2 ^ s * hi + lo / 2 ^ (64 - s) : Nat) : Int) := by
        unfold un32
        have hlt1 : 2 ^ s * hi < 18446744073709551616 := Nat.lt_of_le_of_lt (Nat.le_add_right _ _) (Nat.lt_trans huY hYlt)
        rw [k2, slN hi s (by omega), srN lo (64 - s) (by omega), Nat.mul_comm hi (2 ^ s), Nat.mod_eq_of_lt hlt1]
        exact orU hb (Nat.lt_trans huY hYlt)
      have k4 : sl (lo : Int) (s : Int) = ((lo * 2 ^ s % 18446744073709551616 : Nat) : Int) := slN lo s (by omega)
      have hm : lo * 2 ^ s % 18446744073709551616 < 18446744073709551616 := Nat.mod_lt _ (by omega)
      -- the number under the shift
      have hN : (2 ^ s * hi + lo / 2 ^ (64 - s)) * 18446744073709551616 + lo * 2 ^ s % 18446744073709551616 = (hi * 18446744073709551616 + lo) * 2 ^ s := by
        have e1 := Nat.div_add_mod lo (2 ^ (64 - s))
        have e2 : lo * 2 ^ s = lo / 2 ^ (64 - s) * 18446744073709551616 + lo % 2 ^ (64 - s) * 2 ^ s := by
          calc lo * 2 ^ s = (2 ^ (64 - s) * (lo / 2 ^ (64 - s)) + lo % 2 ^ (64 - s)) * 2 ^ s := by rw [e1]
            _ = lo / 2 ^ (64 - s) * (2 ^ (64 - s) * 2 ^ s) + lo % 2 ^ (64 - s) * 2 ^ s := by rw [Nat.add_mul, Nat.mul_comm (2 ^ (64 - s)) (lo / 2 ^ (64 - s)), Nat.mul_assoc]
            _ = _ := by rw [hp64]
        have e3 : lo % 2 ^ (64 - s) * 2 ^ s < 18446744073709551616 := by
          rw [← hp64]
          exact Nat.mul_lt_mul_of_pos_right (Nat.mod_lt _ hq) hp
        have e4 : lo * 2 ^ s % 18446744073709551616 = lo % 2 ^ (64 - s) * 2 ^ s := by
          rw [e2, Nat.mul_comm (lo / 2 ^ (64 - s)), Nat.mul_add_mod, Nat.mod_eq_of_lt e3]
        rw [e4, Nat.add_mul (hi * 18446744073709551616), e2, Nat.add_mul (2 ^ s * hi)]
        have e5 : 2 ^ s * hi * 18446744073709551616 = hi * 18446744073709551616 * 2 ^ s := by
          rw [Nat.mul_comm (2 ^ s) hi, Nat.mul_assoc, Nat.mul_comm (2 ^ s), ← Nat.mul_assoc]
        rw [e5]
        omega
      have hhd : ∀ n : Nat, hi32 (n : Int) = ((n / 4294967296 : Nat) : Int) := fun n => fdivN n 4294967296
      have hld : ∀ {n : Nat}, n < 18446744073709551616 → lo32 (n : Int) = ((n % 4294967296 : Nat) : Int) := fun h => maskU h
      rw [hsOf, hyo, cond_true, decide_eq_true (show (0 : Int) ≤ (s : Int) by omega), cond_true, cond_true, k2, decide_eq_true (show (0 : Int) ≤ ((64 - s : Nat) : Int) by omega), cond_true, cond_true,
        k1, k3, k4, hhd, hhd, hld hYlt, hld hm]
      generalize hYe : y * 2 ^ s = Y at *
      generalize hue : 2 ^ s * hi + lo / 2 ^ (64 - s) = u at *
      generalize hwe : lo * 2 ^ s % 18446744073709551616 = w at *
      have d1 : Dig Y (Y / 4294967296) (Y % 4294967296) u (w / 4294967296) := ⟨by omega, by omega, by omega, by omega, huY, by omega⟩
      have hR1 : (u * 4294967296 + w / 4294967296) % Y < Y := Nat.mod_lt _ d1.pos
      have d2 : Dig Y (Y / 4294967296) (Y % 4294967296) ((u * 4294967296 + w / 4294967296) % Y) (w % 4294967296) := ⟨by omega, by omega, by omega, by omega, hR1, by omega⟩
      have ca : (!(((Y / 4294967296 : Nat) : Int) == 0)) = true := by
        simp only [Bool.not_eq_true', beq_eq_false_iff_ne]; omega
      obtain ⟨f1, f2⟩ := first_vals d1 hYlt
      rw [ca, cond_true, f1, f2]
      obtain ⟨p1, p2, p3, p4⟩ := d1.first
      refine loop1 G d1 (s : Int) ((w % 4294967296 : Nat) : Int) ?_ _ _ p3 (by omega) p1 p2
      unfold after1
      rw [ca, cond_true, d1.rest hYlt]
      obtain ⟨f1, f2⟩ := first_vals d2 hYlt
      rw [f1, f2]
      obtain ⟨p1, p2, p3, p4⟩ := d2.first
      refine loop2 G d2 (s : Int) (u : Int) ((w / 4294967296 : Nat) : Int) ((qd Y u (w / 4294967296) : Nat) : Int) ?_ _ _ p3 (by omega) p1 p2
      unfold after2
      have hQ1 := d1.lt
      have hQ0 := d2.lt
      rw [decide_eq_true (show (0 : Int) ≤ (s : Int) by omega), cond_true, d2.rest hYlt, srN _ s (by omega)]
      have q1 := qsum hQ1 hQ0
      obtain ⟨t1, t2⟩ := two_digits (B := 4294967296) (u := u) (u1 := w / 4294967296) (u0 := w % 4294967296) d1.pos
      have hw' : (u * 4294967296 + w / 4294967296) * 4294967296 + w % 4294967296 = (hi * 18446744073709551616 + lo) * 2 ^ s := (join u w).trans hN
      rw [hw', ← hYe, Nat.mul_div_mul_right _ _ hp] at t1
      rw [hw', ← hYe, Nat.mul_mod_mul_right] at t2
      rw [q1]
      have r1 : qd Y u (w / 4294967296) * 4294967296 + qd Y ((u * 4294967296 + w / 4294967296) % Y) (w % 4294967296) = (hi * 18446744073709551616 + lo) / y := by
        rw [t1]; unfold qd; rw [hYe]
      have r2 : ((u * 4294967296 + w / 4294967296) % Y * 4294967296 + w % 4294967296) % Y / 2 ^ s = (hi * 18446744073709551616 + lo) % y := by
        rw [← hYe, ← t2, Nat.mul_div_cancel _ hp]
      rw [r1, r2]
      exact .ret _
end Go.Lift.L40
set_option maxRecDepth 100000
set_option linter.unusedVariables false
set_option linter.unusedSimpArgs false
namespace Go.Lift.L40
open Go.Lift Go.Proofs

/-! small functions -/
theorem has22 : Hs 44 Fmul := env22 env0
theorem has24 : Hs 45 Fdiv := (env24 (env32 (env41 env0))).only
def modeOk (m : Int) : Bool := decide (m ≥ 0) && decide (m ≤ 5)
def Fmode := FC1 (.int .i64) (fun _ => true) fun m => .tv (B (modeOk m))
theorem band_bif {a b : Bool} : (bif a then b else false) = (a && b) := by cases a <;> rfl
theorem bor_bif {a b : Bool} : (bif a then true else b) = (a || b) := by cases a <;> rfl
theorem has33 : Hs 42 Fmode :=
  Has.fc1 (fn := Try.f42) env0 (by kernel_rfl) (by kernel_rfl) (by kernel_rfl) (by kernel_rfl) fun m _ =>
    .run0 (n := 100) (ks := []) (L := .ret (.tv (B (bif decide (m ≥ 0) then decide (m ≤ 5) else false)))) (by kernel_rfl) (.ret' (by rw [band_bif]; rfl))
theorem has37 : Hs 49 Fmode :=
  Has.fc1 (fn := Try.f49) env0 (by kernel_rfl) (by kernel_rfl) (by kernel_rfl) (by kernel_rfl) fun m _ =>
    .run0 (n := 100) (ks := []) (L := .ret (.tv (B (bif decide (m ≥ 0) then decide (m ≤ 5) else false)))) (by kernel_rfl) (.ret' (by rw [band_bif]; rfl))

/-- beyond a limit, which is a number from 0 to 2^62 -/
def beyondI (n l : Int) : Bool := decide (n > l) || decide (n < -l)
def limOk (l : Int) : Bool := decide (0 ≤ l) && decide (l ≤ 4611686018427387904)
theorem limOk_spec {l : Int} (h : limOk l = true) : 0 ≤ l ∧ l ≤ 4611686018427387904 := by simpa [limOk] using h
def Fbey := FC2 (.int .i64) (.int .i64) (fun _ l => limOk l) fun n l => .tv (B (beyondI n l))
theorem bey_eq {n l : Int} (h : limOk l = true) : (bif decide (n > l) then true else decide (n < w (0 - l))) = beyondI n l := by
  obtain ⟨l0, l1⟩ := limOk_spec h
  rw [bor_bif, show w (0 - l) = 0 - l from wrap_id (by omega) (by omega), Int.zero_sub]; rfl
theorem has38 : Hs 50 Fbey :=
  Has.fc2 (fn := Try.f50) env0 (by kernel_rfl) (by kernel_rfl) (by kernel_rfl) (by kernel_rfl) fun n l h =>
    .run0 (n := 100) (ks := []) (L := .ret (.tv (B (bif decide (n > l) then true else decide (n < w (0 - l)))))) (by kernel_rfl) (.ret' (by rw [bey_eq h]))

/-! absolute values -/
def i64ok (n : Int) : Bool := decide (-9223372036854775808 ≤ n) && decide (n ≤ 9223372036854775807)
theorem i64ok_spec {n : Int} (h : i64ok n = true) : -9223372036854775808 ≤ n ∧ n ≤ 9223372036854775807 := by simpa [i64ok] using h
def absI (n : Int) : Int := (n.natAbs : Nat)
def Fabs := FC1 (.int .i64) i64ok fun n => .tv (U (absI n))
theorem w64_neg {n : Int} (h1 : -9223372036854775808 ≤ n) (h : n < 0) : w64 n = n + 18446744073709551616 := by
  unfold w64 IntKind.wrap
  simp [IntKind.signed, IntKind.bits]
  omega
theorem abs_pos {n : Int} (h : ¬ n < 0) (h1 : n ≤ 9223372036854775807) : w64 n = absI n := by
  unfold absI
  rw [show n = ((n.natAbs : Nat) : Int) by omega, w64k (by omega)]
  simp
theorem abs_neg1 {n : Int} (h : n < 0) (h1 : -9223372036854775808 ≤ n) : w64 (IntKind.wrap .i64 (0 - n)) = absI n := by
  unfold absI
  by_cases hm : n = -9223372036854775808
  · subst hm; rfl
  · rw [wrap_id (by omega) (by omega), show (0 - n) = ((n.natAbs : Nat) : Int) by omega]; exact w64k (by omega)
theorem abs_neg2 {n : Int} (h : n < 0) (h1 : -9223372036854775808 ≤ n) : w64 (0 - w64 n) = absI n := by
  unfold absI
  have e : w64 n = n + 18446744073709551616 := w64_neg h1 h
  have e2 : w64 (0 - (n + 18446744073709551616)) = ((n.natAbs : Nat) : Int) := by
    unfold w64 IntKind.wrap
    simp [IntKind.signed, IntKind.bits]
    omega
  rw [e, e2]
theorem has34 : Hs 43 Fabs :=
  Has.fc1 (fn := Try.f43) env0 (by kernel_rfl) (by kernel_rfl) (by kernel_rfl) (by kernel_rfl) fun n h =>
    .run0 (n := 100) (ks := []) (L := bif decide (n < 0) then .ret (.tv (U (w64 (0 - w64 n)))) else .ret (.tv (U (w64 n)))) (by kernel_rfl)
      (.bif (fun h1 => .ret' (by rw [abs_neg2 (of_decide_eq_true h1) (i64ok_spec h).1])) fun h1 => .ret' (by rw [abs_pos (of_decide_eq_false h1) (i64ok_spec h).2]))
end Go.Lift.L40
set_option maxRecDepth 100000
set_option linter.unusedVariables false
set_option linter.unusedSimpArgs false
namespace Go.Lift.L40
open Go.Lift Go.Proofs

/-! rounding: the equations -/
def fin35 (q : Int) (up : Bool) : Leaf := bif up then .ret (.tv (U (w64 (q + 1)))) else .ret (.tv (U q))
theorem e35 (G : Tbl) (q r d : Int) (neg : Bool) (m : Int) : runF G [] Try.f46 200 (bod Try.f46) (entry [U q, U r, U d, B neg, I m]) =
  bif m == 0 then fin35 q (bif neg then decide (r > 0) else false)
  else bif m == 1 then fin35 q (bif !neg then decide (r > 0) else false)
  else bif m == 3 then fin35 q (decide (r > 0))
  else bif m == 4 then fin35 q (decide (r ≥ w64 (d - r)))
  else bif m == 5 then fin35 q (bif decide (r > w64 (d - r)) then true else (bif r == w64 (d - r) then q.tmod 2 == 1 else false))
  else .ret (.tv (U q)) := by kernel_rfl
def fin40 (q : Int) (neg up : Bool) : Leaf := bif up then (bif neg then .ret (.tv (I (w (0 - w (q + 1))))) else .ret (.tv (I (w (q + 1))))) else (bif neg then .ret (.tv (I (w (0 - q)))) else .ret (.tv (I q)))
theorem e40 (G : Tbl) (q r d : Int) (neg : Bool) (m : Int) : runF G [] Try.f52 200 (bod Try.f52) (entry [I q, I r, I d, B neg, I m]) =
  bif m == 0 then fin40 q neg (bif neg then decide (r > 0) else false)
  else bif m == 1 then fin40 q neg (bif !neg then decide (r > 0) else false)
  else bif m == 3 then fin40 q neg (decide (r > 0))
  else bif m == 4 then fin40 q neg (decide (r ≥ w (d - r)))
  else bif m == 5 then fin40 q neg (bif decide (r > w (d - r)) then true else (bif r == w (d - r) then q.tmod 2 == 1 else false))
  else (bif neg then .ret (.tv (I (w (0 - q)))) else .ret (.tv (I q))) := by kernel_rfl
theorem e36 (G : Tbl) (n : Int) (neg : Bool) : runF G [] Try.f47 200 (bod Try.f47) (entry [U n, B neg]) =
  bif neg then .ret (.tv (I (w (0 - w n)))) else .ret (.tv (I (w n))) := by kernel_rfl
theorem e39 (G : Tbl) (n : Int) : runF G [] Try.f51 200 (bod Try.f51) (entry [I n]) =
  bif decide (n < 0) then .ret (.tv (I (w (0 - n)))) else .ret (.tv (I n)) := by kernel_rfl
def fin28 (f : Int) (up : Bool) : Leaf := bif up then .ret (.tv (I (w (f + 1)))) else .ret (.tv (I f))
def up28 (f : Int) (m : Int) : Bool := bif (bif m == 1 then true else (bif m == 2 then decide (f < 0) else false)) then true else (bif m == 3 then decide (f ≥ 0) else false)
end Go.Lift.L40
set_option maxRecDepth 100000
set_option linter.unusedVariables false
set_option linter.unusedSimpArgs false
namespace Go.Lift.L40
open Go.Lift Go.Proofs

/-! rounding: what it computes -/
def upN (q r d : Nat) (neg : Bool) (m : Int) : Bool :=
  bif m == 0 then neg && decide (0 < r)
  else bif m == 1 then !neg && decide (0 < r)
  else bif m == 3 then decide (0 < r)
  else bif m == 4 then decide (d ≤ 2 * r)
  else bif m == 5 then decide (d < 2 * r) || (decide (2 * r = d) && decide (q % 2 = 1))
  else false
def sgn (neg : Bool) (n : Int) : Int := bif neg then -n else n
def up1 (q r d : Nat) (neg : Bool) (m : Int) : Nat := q + (upN q r d neg m).toNat

/-- numbers from 0 to 2^62, the remainder below the divisor -/
def rdOk (q r d : Int) : Bool := decide (0 ≤ q) && decide (q ≤ 4611686018427387904) && decide (0 ≤ r) && decide (r < d) && decide (d ≤ 4611686018427387904)
theorem rdOk_spec {q r d : Int} (h : rdOk q r d = true) : ∃ a b c : Nat, q = a ∧ r = b ∧ d = c ∧ a ≤ 4611686018427387904 ∧ b < c ∧ c ≤ 4611686018427387904 := by
  simp only [rdOk, Bool.and_eq_true, decide_eq_true_eq] at h
  exact ⟨q.toNat, r.toNat, d.toNat, by omega, by omega, by omega, by omega, by omega, by omega⟩

theorem odd_eq (q : Nat) : (((q : Int).tmod 2 == 1) : Bool) = decide (q % 2 = 1) := by
  have : (q : Int).tmod 2 = ((q % 2 : Nat) : Int) := tmodN q 2
  rw [this, Bool.eq_iff_iff]
  simp
  omega

theorem cmpG (r d : Nat) (h : r < d) : decide ((r : Int) > ((d - r : Nat) : Int)) = decide (d < 2 * r) := by rw [decide_eq_decide]; omega
theorem cmpGE (r d : Nat) (h : r < d) : decide ((r : Int) ≥ ((d - r : Nat) : Int)) = decide (d ≤ 2 * r) := by rw [decide_eq_decide]; omega
theorem cmpE (r d : Nat) (h : r < d) : ((r : Int) == ((d - r : Nat) : Int)) = decide (2 * r = d) := by
  rw [Bool.eq_iff_iff]; simp; omega
theorem pos_eq (r : Nat) : decide ((r : Int) > 0) = decide (0 < r) := by rw [decide_eq_decide]; omega
theorem subU {d r : Nat} (h : r < d) (hd : d ≤ 4611686018427387904) : w64 ((d : Int) - (r : Int)) = ((d - r : Nat) : Int) := by
  rw [show ((d : Int) - (r : Int)) = ((d - r : Nat) : Int) by omega]; exact w64k (by omega)
theorem subI {d r : Nat} (h : r < d) (hd : d ≤ 4611686018427387904) : w ((d : Int) - (r : Int)) = ((d - r : Nat) : Int) := by
  rw [show ((d : Int) - (r : Int)) = ((d - r : Nat) : Int) by omega]; exact wrap_id (by omega) (by omega)

def Fround := FC5 (.int .u64) (.int .u64) (.int .u64) .bool (.int .i64) (fun q r d _ _ => rdOk q r d) fun q r d neg m => .tv (U ((up1 q.toNat r.toNat d.toNat neg m : Nat) : Int))
def FroundUp := FC5 (.int .u64) (.int .u64) (.int .u64) .bool (.int .i64) (fun q r d _ _ => rdOk q r d) fun q r d neg m => .tv (B (upN q.toNat r.toNat d.toNat neg m))
def FRounded := FC5 (.int .i64) (.int .i64) (.int .i64) .bool (.int .i64) (fun q r d _ _ => rdOk q r d) fun q r d neg m => .tv (I (sgn neg ((up1 q.toNat r.toNat d.toNat neg m : Nat) : Int)))

theorem fin35_goes {G : Tbl} {q r d : Nat} {neg : Bool} {m : Int} (hq : q ≤ 4611686018427387904) {up : Bool} (h : upN q r d neg m = up) :
    Goes G T Try.f46.ntmps Try.f46.results.toList (fin35 q up) (.tv (U ((up1 q r d neg m : Nat) : Int))) := by
  unfold up1 fin35
  rw [h]
  cases up with
  | false => exact .ret _
  | true =>
    rw [show w64 ((q : Int) + 1) = ((q + true.toNat : Nat) : Int) from wadd (a := q) (b := 1) (by omega)]
    exact .ret _
theorem env35 {G : Tbl} (hE : Env Try.prog T G) : Env Try.prog T (G.add 46 Fround) := by
  refine hE.fun' (fn := Try.f46) (by kernel_rfl) (by kernel_rfl) (by kernel_rfl) fun tds r h => ?_
  obtain ⟨q, r, d, neg, m, rfl, h1, rfl⟩ := FC5.inv h
  · skip
    refine ⟨Nat.le_of_ble_eq_true (by kernel_rfl), .more 200 (fun _ => []) _ _ _ (.of_eq (e35 G q r d neg m) ?_)⟩
    obtain ⟨q, r, d, rfl, rfl, rfl, hq, hr, hd⟩ := rdOk_spec h1
    simp only [Int.toNat_natCast]
    rw [subU hr hd, cmpG r d hr, cmpGE r d hr, cmpE r d hr, odd_eq, pos_eq, band_bif, band_bif, band_bif, bor_bif]
    refine .bif (fun h => ?_) (fun h0 => .bif (fun h => ?_) (fun h1 => .bif (fun h => ?_) (fun h3 => .bif (fun h => ?_) (fun h4 => .bif (fun h => ?_) (fun h5 => ?_)))))
    · exact fin35_goes hq (by unfold upN; rw [h]; rfl)
    · exact fin35_goes hq (by unfold upN; rw [h0, h]; rfl)
    · exact fin35_goes hq (by unfold upN; rw [h0, h1, h]; rfl)
    · exact fin35_goes hq (by unfold upN; rw [h0, h1, h3, h]; rfl)
    · exact fin35_goes hq (by unfold upN; rw [h0, h1, h3, h4, h]; rfl)
    · have : upN q r d neg m = false := by unfold upN; rw [h0, h1, h3, h4, h5]; rfl
      have := fin35_goes (G := G) hq this
      exact this
theorem has35 : Hs 46 Fround := env35 env0
theorem fin40_goes {G : Tbl} {q r d : Nat} {neg : Bool} {m : Int} (hq : q ≤ 4611686018427387904) {up : Bool} (h : upN q r d neg m = up) :
    Goes G T Try.f52.ntmps Try.f52.results.toList (fin40 q neg up) (.tv (I (sgn neg ((up1 q r d neg m : Nat) : Int)))) := by
  unfold up1 fin40 sgn
  rw [h]
  have e1 : w ((q : Int) + 1) = ((q + true.toNat : Nat) : Int) := by
    rw [show ((q : Int) + 1) = ((q + true.toNat : Nat) : Int) from rfl]
    exact wrap_id (by omega) (by simp; omega)
  have e2 : w (0 - ((q + true.toNat : Nat) : Int)) = -((q + true.toNat : Nat) : Int) := by
    rw [Int.zero_sub]
    exact wrap_id (by simp; omega) (by omega)
  have e3 : w (0 - (q : Int)) = -((q + false.toNat : Nat) : Int) := by
    rw [Int.zero_sub]
    exact wrap_id (by omega) (by omega)
  cases up with
  | false =>
    cases neg with
    | false => exact .ret _
    | true => rw [e3]; exact .ret _
  | true =>
    rw [e1]
    cases neg with
    | false => exact .ret _
    | true => rw [e2]; exact .ret _
theorem env40 {G : Tbl} (hE : Env Try.prog T G) : Env Try.prog T (G.add 52 FRounded) := by
  refine hE.fun' (fn := Try.f52) (by kernel_rfl) (by kernel_rfl) (by kernel_rfl) fun tds r h => ?_
  obtain ⟨q, r, d, neg, m, rfl, h1, rfl⟩ := FC5.inv h
  · skip
    refine ⟨Nat.le_of_ble_eq_true (by kernel_rfl), .more 200 (fun _ => []) _ _ _ (.of_eq (e40 G q r d neg m) ?_)⟩
    obtain ⟨q, r, d, rfl, rfl, rfl, hq, hr, hd⟩ := rdOk_spec h1
    simp only [Int.toNat_natCast]
    rw [subI hr hd, cmpG r d hr, cmpGE r d hr, cmpE r d hr, odd_eq, pos_eq, band_bif, band_bif, band_bif, bor_bif]
    refine .bif (fun h => ?_) (fun h0 => .bif (fun h => ?_) (fun h1 => .bif (fun h => ?_) (fun h3 => .bif (fun h => ?_) (fun h4 => .bif (fun h => ?_) (fun h5 => ?_)))))
    · exact fin40_goes hq (by unfold upN; rw [h]; rfl)
    · exact fin40_goes hq (by unfold upN; rw [h0, h]; rfl)
    · exact fin40_goes hq (by unfold upN; rw [h0, h1, h]; rfl)
    · exact fin40_goes hq (by unfold upN; rw [h0, h1, h3, h]; rfl)
    · exact fin40_goes hq (by unfold upN; rw [h0, h1, h3, h4, h]; rfl)
    · have : upN q r d neg m = false := by unfold upN; rw [h0, h1, h3, h4, h5]; rfl
      have := fin40_goes (G := G) hq this
      exact this
theorem has40 : Hs 52 FRounded := env40 env0
/-! signed, Abs -/
def Fsigned := FC2 (.int .u64) .bool (fun n _ => limOk n) fun n neg => .tv (I (sgn neg n))
theorem env36 {G : Tbl} (hE : Env Try.prog T G) : Env Try.prog T (G.add 47 Fsigned) := by
  refine hE.fun' (fn := Try.f47) (by kernel_rfl) (by kernel_rfl) (by kernel_rfl) fun tds r h => ?_
  obtain ⟨n, neg, rfl, h1, rfl⟩ := FC2.inv h
  · skip
    refine ⟨Nat.le_of_ble_eq_true (by kernel_rfl), .more 200 (fun _ => []) _ _ _ (.of_eq (e36 G n neg) ?_)⟩
    obtain ⟨l0, l1⟩ := limOk_spec h1
    rw [show w n = n from wrap_id (by omega) (by omega), show w (0 - n) = -n from (congrArg w (Int.zero_sub n)).trans (wrap_id (by omega) (by omega))]
    cases neg <;> exact .ret _
theorem has36 : Hs 47 Fsigned := env36 env0
def symOk (n : Int) : Bool := decide (-9223372036854775807 ≤ n) && decide (n ≤ 9223372036854775807)
theorem symOk_spec {n : Int} (h : symOk n = true) : -9223372036854775807 ≤ n ∧ n ≤ 9223372036854775807 := by simpa [symOk] using h
def FAbs := FC1 (.int .i64) symOk fun n => .tv (I (absI n))
theorem abs39 {n : Int} (l0 : -9223372036854775807 ≤ n) (h : n < 0) : w (0 - n) = absI n := by
  unfold absI
  rw [show (0 - n) = ((n.natAbs : Nat) : Int) by omega]
  by_cases hh : n.natAbs ≤ 9223372036854775807
  · exact wrap_id (by omega) (by omega)
  · omega
theorem abs39' {n : Int} (h : ¬ n < 0) : n = absI n := by unfold absI; omega
theorem env39 {G : Tbl} (hE : Env Try.prog T G) : Env Try.prog T (G.add 51 FAbs) := by
  refine hE.fun' (fn := Try.f51) (by kernel_rfl) (by kernel_rfl) (by kernel_rfl) fun tds r h => ?_
  obtain ⟨n, rfl, h1, rfl⟩ := FC1.inv h
  · skip
    refine ⟨Nat.le_of_ble_eq_true (by kernel_rfl), .more 200 (fun _ => []) _ _ _ (.of_eq (e39 G n) ?_)⟩
    obtain ⟨l0, l1⟩ := symOk_spec h1
    refine .bif (fun h => ?_) (fun h => ?_)
    · rw [abs39 l0 (of_decide_eq_true h)]; exact .ret _
    · rw [← abs39' (of_decide_eq_false h)]; exact .ret _
theorem has39 : Hs 51 FAbs := env39 env0
end Go.Lift.L40
set_option maxRecDepth 100000
set_option linter.unusedVariables false
set_option linter.unusedSimpArgs false
namespace Go.Lift.L40
open Go.Lift Go.Proofs

/-! rounding of floor quotients -/
def up28' (f r d m : Int) : Bool :=
  bif (bif m == 4 then true else m == 5) then
    bif r == d - r then (bif (bif m == 4 then decide (f ≥ 0) else false) then true else (bif m == 5 then !(f.tmod 2 == 0) else false)) else decide (r > d - r)
  else (bif (bif m == 1 then true else (bif m == 2 then decide (f < 0) else false)) then true else (bif m == 3 then decide (f ≥ 0) else false))
def rndF (f r d m : Int) : Int := bif r == 0 then f else bif up28' f r d m then f + 1 else f

theorem sgn_zero (neg : Bool) : sgn neg 0 = 0 := by cases neg <;> rfl

theorem tmod2 (f : Int) : (f.tmod 2 == 0) = decide (f % 2 = 0) := by
  rw [Bool.eq_iff_iff]; simp [Int.dvd_iff_tmod_eq_zero.symm]; omega

theorem rnd_agree {Q R D : Nat} (hR : R < D) (neg : Bool) {m : Int} (hm : modeOk m = true) :
    sgn neg ((up1 Q R D neg m : Nat) : Int) = rndF (sgn neg ((Q * D + R : Nat) : Int) / (D : Int)) (sgn neg ((Q * D + R : Nat) : Int) % (D : Int)) D m := by
  have hm' : m = 0 ∨ m = 1 ∨ m = 2 ∨ m = 3 ∨ m = 4 ∨ m = 5 := by
    simp only [modeOk, Bool.and_eq_true, decide_eq_true_eq] at hm; omega
  have hD : (0 : Int) < D := by omega
  cases neg with
  | false =>
    have e1 : ((Q * D + R : Nat) : Int) / (D : Int) = (Q : Int) := by
      rw [← Int.natCast_ediv, Nat.add_comm, Nat.add_mul_div_right _ _ (by omega), Nat.div_eq_of_lt hR, Nat.zero_add]
    have e2 : ((Q * D + R : Nat) : Int) % (D : Int) = (R : Int) := by
      rw [← Int.natCast_emod, Nat.add_comm, Nat.add_mul_mod_self_right, Nat.mod_eq_of_lt hR]
    simp only [sgn, cond_false, e1, e2]
    unfold up1 rndF up28'
    by_cases h0 : R = 0
    · subst h0
      rcases hm' with rfl | rfl | rfl | rfl | rfl | rfl <;> simp [upN, show ¬ D = 0 by omega, show ¬ (0 = D) by omega]
    · have hb : ((R : Int) == 0) = false := by simp; omega
      have hE : ((R : Int) == (D : Int) - R) = decide (2 * R = D) := by rw [Bool.eq_iff_iff]; simp; omega
      have hG : decide ((R : Int) > (D : Int) - R) = decide (D < 2 * R) := by rw [decide_eq_decide]; omega
      rw [hb, cond_false, tmod2, hE, hG]
      have hq : ((Q : Int) % 2 = 0) = (Q % 2 = 0) := by simp; omega
      have hn : ¬ ((Q : Int) < 0) := by omega
      have hp : (Q % 2 = 1 ∧ ¬ (Q : Int) % 2 = 0) ∨ (¬ Q % 2 = 1 ∧ (Q : Int) % 2 = 0) := by omega
      rcases Nat.lt_trichotomy (2 * R) D with hlt | heq | hgt
      · rcases hm' with rfl | rfl | rfl | rfl | rfl | rfl <;>
          simp [upN, show 0 < R by omega, show ¬ 2 * R = D by omega, show ¬ D < 2 * R by omega, show ¬ D ≤ 2 * R by omega, hn]
      · rcases hp with ⟨p1, p2⟩ | ⟨p1, p2⟩ <;> rcases hm' with rfl | rfl | rfl | rfl | rfl | rfl <;>
          simp [upN, show 0 < R by omega, heq, hn, p1, p2]
      · rcases hm' with rfl | rfl | rfl | rfl | rfl | rfl <;>
          simp [upN, show 0 < R by omega, show ¬ 2 * R = D by omega, show D < 2 * R by omega, show D ≤ 2 * R by omega, hn]
  | true =>
    by_cases h0 : R = 0
    · subst h0
      have e1 : (-((Q * D + 0 : Nat) : Int)) / (D : Int) = -(Q : Int) := by
        rw [show (-((Q * D + 0 : Nat) : Int)) = -(Q : Int) * (D : Int) by simp [Int.neg_mul]]
        exact Int.mul_ediv_cancel _ (by omega)
      have e2 : (-((Q * D + 0 : Nat) : Int)) % (D : Int) = 0 := by
        rw [show (-((Q * D + 0 : Nat) : Int)) = -(Q : Int) * (D : Int) by simp [Int.neg_mul]]
        exact Int.mul_emod_left _ _
      simp only [sgn, cond_true, e1, e2]
      unfold up1 rndF
      rcases hm' with rfl | rfl | rfl | rfl | rfl | rfl <;> simp [upN, show ¬ D = 0 by omega, show ¬ (0 = D) by omega]
    · have e0 : (-((Q * D + R : Nat) : Int)) = ((D - R : Nat) : Int) + (-(Q : Int) - 1) * (D : Int) := by
        rw [Int.sub_mul, Int.neg_mul, Int.natCast_add, Int.natCast_mul, Int.natCast_sub (by omega)]; omega
      have e1 : (-((Q * D + R : Nat) : Int)) / (D : Int) = -(Q : Int) - 1 := by
        rw [e0, Int.add_mul_ediv_right _ _ (by omega), Int.ediv_eq_zero_of_lt (by omega) (by omega), Int.zero_add]
      have e2 : (-((Q * D + R : Nat) : Int)) % (D : Int) = ((D - R : Nat) : Int) := by
        rw [e0, Int.add_mul_emod_self_right, Int.emod_eq_of_lt (by omega) (by omega)]
      simp only [sgn, cond_true, e1, e2]
      unfold up1 rndF up28'
      have hb : (((D - R : Nat) : Int) == 0) = false := by simp; omega
      have hE : (((D - R : Nat) : Int) == (D : Int) - ((D - R : Nat) : Int)) = decide (2 * R = D) := by rw [Bool.eq_iff_iff]; simp; omega
      have hG : decide (((D - R : Nat) : Int) > (D : Int) - ((D - R : Nat) : Int)) = decide (2 * R < D) := by rw [decide_eq_decide]; omega
      rw [hb, cond_false, tmod2, hE, hG]
      have hn1 : -(Q : Int) - 1 < 0 := by omega
      have hn2 : ¬ (1 ≤ -(Q : Int)) := by omega
      have hp : (Q % 2 = 1 ∧ (-(Q : Int) - 1) % 2 = 0) ∨ (¬ Q % 2 = 1 ∧ ¬ (-(Q : Int) - 1) % 2 = 0) := by omega
      have fin0 : (-(Q : Int) - 1 + 1) = -(Q : Int) := by omega
      have fin1 : (-((Q : Int) + 1)) = -(Q : Int) - 1 := by omega
      rcases Nat.lt_trichotomy (2 * R) D with hlt | heq | hgt
      · rcases hm' with rfl | rfl | rfl | rfl | rfl | rfl <;>
          simp [upN, show 0 < R by omega, show ¬ 2 * R = D by omega, show ¬ D < 2 * R by omega, show ¬ D ≤ 2 * R by omega, show 2 * R < D by omega, hn1, hn2] <;> omega
      · rcases hp with ⟨p1, p2⟩ | ⟨p1, p2⟩ <;> rcases hm' with rfl | rfl | rfl | rfl | rfl | rfl <;>
          simp [upN, show 0 < R by omega, heq, hn1, hn2, p1, p2] <;> omega
      · rcases hm' with rfl | rfl | rfl | rfl | rfl | rfl <;>
          simp [upN, show 0 < R by omega, show ¬ 2 * R = D by omega, show D < 2 * R by omega, show D ≤ 2 * R by omega, show ¬ 2 * R < D by omega, hn1, hn2] <;> omega
end Go.Lift.L40
set_option maxRecDepth 100000
set_option linter.unusedVariables false
set_option linter.unusedSimpArgs false
namespace Go.Lift.L40
open Go.Lift Go.Proofs

theorem rdOk_nat {q r d : Nat} (hq : q ≤ 4611686018427387904) (hr : r < d) (hd : d ≤ 4611686018427387904) : rdOk (q : Int) (r : Int) (d : Int) = true := by
  unfold rdOk; simp only [Bool.and_eq_true, decide_eq_true_eq]; omega
theorem limOk_nat {q : Nat} (hq : q ≤ 4611686018427387904) : limOk (q : Int) = true := by
  unfold limOk; simp only [Bool.and_eq_true, decide_eq_true_eq]; omega
theorem u64ok_nat {q : Nat} (hq : q < 18446744073709551616) : u64ok (q : Int) = true := by
  unfold u64ok; simp only [Bool.and_eq_true, decide_eq_true_eq]; omega
theorem symOk_of {n : Int} (h : n.natAbs ≤ 9223372036854775807) : symOk n = true := by
  unfold symOk; simp only [Bool.and_eq_true, decide_eq_true_eq]; omega
theorem ne0 {d : Int} (h : d ≠ 0) : (!(d == 0)) = true := by simp [h]
/-! floor, rounded -/
def fl2 (n d : Int) : Bool := decide (-4611686018427387904 ≤ n) && decide (n ≤ 4611686018427387904) && decide (0 < d) && decide (d ≤ 4611686018427387904)
theorem fl2_spec {n d : Int} (h : fl2 n d = true) : -4611686018427387904 ≤ n ∧ n ≤ 4611686018427387904 ∧ 0 < d ∧ d ≤ 4611686018427387904 := by
  simp only [fl2, Bool.and_eq_true, decide_eq_true_eq] at h; omega
def Ffloor := FC2 (.int .i64) (.int .i64) fl2 fun n d => .tup [.tv (I (n / d)), .tv (I (n % d))]
theorem tdiv_ediv {n d : Int} (hd : 0 < d) : n.tdiv d = if n % d = 0 ∨ 0 ≤ n then n / d else n / d + 1 := by
  have := @Int.tdiv_eq_ediv n d
  rw [this]
  have hs : d.sign = 1 := Int.sign_eq_one_of_pos hd
  by_cases h : 0 ≤ n
  · simp [h]
  · by_cases h2 : d ∣ n
    · simp [h, h2, Int.emod_eq_zero_of_dvd h2]
    · have : ¬ n % d = 0 := fun e => h2 (Int.dvd_of_emod_eq_zero e)
      simp [h, h2, this, hs]
theorem floor_vals {n d : Int} (h : fl2 n d = true) : (n.tmod d < 0 → w (w (n.tdiv d) - 1) = n / d ∧ w (n.tmod d + d) = n % d) ∧ (¬ n.tmod d < 0 → w (n.tdiv d) = n / d ∧ n.tmod d = n % d) := by
  obtain ⟨h1, h2, h3, h4⟩ := fl2_spec h
  have a1 := Int.mul_tdiv_add_tmod n d
  have a2 := Int.mul_ediv_add_emod n d
  have a3 := Int.emod_nonneg n (show d ≠ 0 by omega)
  have a4 := Int.emod_lt_of_pos n h3
  have b1 : -4611686018427387904 - 1 ≤ n / d ∧ n / d ≤ 4611686018427387904 := by
    constructor
    · have : (-4611686018427387904 : Int) ≤ n / d := by
        rw [Int.le_ediv_iff_mul_le h3]
        have : (-4611686018427387904 : Int) * d ≤ -4611686018427387904 * 1 := Int.mul_le_mul_of_nonpos_left (by omega) (by omega)
        omega
      omega
    · have : n / d ≤ 4611686018427387904 := by
        apply Int.ediv_le_of_le_mul h3
        have : (4611686018427387904 : Int) * 1 ≤ 4611686018427387904 * d := Int.mul_le_mul_of_nonneg_left (by omega) (by omega)
        omega
      exact this
  have e := @tdiv_ediv n d h3
  by_cases hz : n % d = 0 ∨ 0 ≤ n
  · rw [if_pos hz] at e
    rw [e] at a1 ⊢
    have em : n.tmod d = n % d := by omega
    rw [em]
    refine ⟨fun h => by omega, fun _ => ⟨wrap_id (by omega) (by omega), rfl⟩⟩
  · rw [if_neg hz] at e
    rw [e, Int.mul_add] at a1
    have em : n.tmod d = n % d - d := by omega
    rw [em, e]
    refine ⟨fun _ => ?_, fun h => by omega⟩
    rw [show w (n / d + 1) = n / d + 1 from wrap_id (by omega) (by omega)]
    exact ⟨by rw [show n / d + 1 - 1 = n / d by omega]; exact wrap_id (by omega) (by omega), by rw [show n % d - d + d = n % d by omega]; exact wrap_id (by omega) (by omega)⟩
def rd2 (f r d : Int) : Bool := decide (-4611686018427387905 ≤ f) && decide (f ≤ 4611686018427387904) && decide (0 ≤ r) && decide (r < d) && decide (d ≤ 4611686018427387904)
def Frounded := FC4 (.int .i64) (.int .i64) (.int .i64) (.int .i64) (fun f r d _ => rd2 f r d) fun f r d m => .tv (I (rndF f r d m))

/-! DivRound, MulDiv -/
def negI2 (n d : Int) : Bool := !(decide (n < 0) == decide (d < 0))
def negI (c n d : Int) : Bool := !((!(decide (c < 0) == decide (n < 0))) == decide (d < 0))
def drU (n d m : Int) : Nat := up1 (n.natAbs / d.natAbs) (n.natAbs % d.natAbs) d.natAbs (negI2 n d) m
def drRes (n d m : Int) : Int × Int :=
  bif !modeOk m then (0, 1) else bif d == 0 then (0, 12) else bif decide (absI n > 4611686018427387904) || decide (absI d > 4611686018427387904) then (0, 3) else (sgn (negI2 n d) (drU n d m : Nat), 0)
def FDivRound := FC3 (.int .i64) (.int .i64) (.int .i64) (fun n d _ => i64ok n && i64ok d) fun n d m => .tup [.tv (I (drRes n d m).1), .tv (I (drRes n d m).2)]
theorem up1_le (q r d : Nat) (neg : Bool) (m : Int) : q ≤ up1 q r d neg m ∧ up1 q r d neg m ≤ q + 1 := by
  unfold up1; cases upN q r d neg m <;> simp
theorem wq {q : Nat} (h : q < 18446744073709551616) : w64 (q : Int) = q := w64k h

def mdU (c n d m : Int) : Nat := up1 (c.natAbs * n.natAbs / d.natAbs) (c.natAbs * n.natAbs % d.natAbs) d.natAbs (negI c n d) m
def mdBig (c n d : Int) : Bool := (decide (absI c > 1000000000000000) || decide (absI n > 1000000000)) || decide (absI d > 1000000000)
def mdRes (c n d m : Int) : Int × Int :=
  bif !modeOk m then (0, 1) else bif d == 0 then (0, 12) else bif mdBig c n d then (0, 3) else bif decide (mdU c n d m > 1000000000000000) then (0, 3) else (sgn (negI c n d) (mdU c n d m : Nat), 0)
def FMulDiv := FC4 (.int .i64) (.int .i64) (.int .i64) (.int .i64) (fun c n d _ => i64ok c && i64ok n && i64ok d) fun c n d m => .tup [.tv (I (mdRes c n d m).1), .tv (I (mdRes c n d m).2)]
end Go.Lift.L40
set_option maxRecDepth 100000
set_option linter.unusedVariables false
set_option linter.unusedSimpArgs false
namespace Go.Lift.L40
open Go.Lift Go.Proofs

theorem mdBig_eq (c n d : Int) : mdBig c n d = (bif (bif decide (absI c > 1000000000000000) then true else decide (absI n > 1000000000)) then true else decide (absI d > 1000000000)) := by
  unfold mdBig; rw [bor_bif, bor_bif]
theorem mdBig_no {c n d : Int} (h : mdBig c n d = false) : c.natAbs ≤ 1000000000000000 ∧ n.natAbs ≤ 1000000000 ∧ d.natAbs ≤ 1000000000 := by
  have h1 := Bool.or_eq_false_iff.1 h
  have h2 := Bool.or_eq_false_iff.1 h1.1
  have a1 := of_decide_eq_false h2.1
  have a2 := of_decide_eq_false h2.2
  have a3 := of_decide_eq_false h1.2
  unfold absI at a1 a2 a3
  omega
theorem wN {n : Nat} (h : n ≤ 9223372036854775807) : w (n : Int) = (n : Int) := wrap_id (by omega) (by omega)
theorem md_vals {c n d : Int} (b1 : c.natAbs ≤ 1000000000000000) (b2 : n.natAbs ≤ 1000000000) (hd : 0 < d.natAbs) :
    divQ (mulHi (absI c) (absI n)) (mulLo (absI c) (absI n)) (absI d) = ((c.natAbs * n.natAbs / d.natAbs : Nat) : Int) ∧
    divR (mulHi (absI c) (absI n)) (mulLo (absI c) (absI n)) (absI d) = ((c.natAbs * n.natAbs % d.natAbs : Nat) : Int) ∧
    u64ok (mulHi (absI c) (absI n)) = true ∧ u64ok (mulLo (absI c) (absI n)) = true ∧
    (mulHi (absI c) (absI n) ≥ absI d → 1000000000000000 < c.natAbs * n.natAbs / d.natAbs) := by
  have hcn : c.natAbs * n.natAbs ≤ 1000000000000000000000000 := Nat.mul_le_mul b1 b2
  have vhi : mulHi (absI c) (absI n) = ((c.natAbs * n.natAbs / 18446744073709551616 : Nat) : Int) := rfl
  have vlo : mulLo (absI c) (absI n) = ((c.natAbs * n.natAbs % 18446744073709551616 : Nat) : Int) := rfl
  rw [vhi, vlo]
  generalize c.natAbs * n.natAbs = x at *
  have hdm := Nat.div_add_mod x 18446744073709551616
  have hlt := Nat.mod_lt x (show 0 < 18446744073709551616 by omega)
  rw [Nat.mul_comm] at hdm
  refine ⟨?_, ?_, u64ok_nat (by omega), u64ok_nat hlt, fun h => ?_⟩
  · unfold divQ; simp only [Int.toNat_natCast]; rw [hdm]; rfl
  · unfold divR; simp only [Int.toNat_natCast]; rw [hdm]; rfl
  · unfold absI at h
    have h5 : d.natAbs ≤ x / 18446744073709551616 := by omega
    have h6 := Nat.mul_le_mul_right 18446744073709551616 h5
    have h7 : 18446744073709551616 ≤ x / d.natAbs := by
      rw [Nat.le_div_iff_mul_le hd, Nat.mul_comm]; omega
    omega
theorem sgn_big (neg : Bool) (u : Nat) : beyondI (sgn neg (u : Int)) 1000000000000000 = decide (u > 1000000000000000) := by
  unfold beyondI sgn
  cases neg <;> simp <;> rw [Bool.eq_iff_iff] <;> simp <;> omega
theorem e29 (G : Tbl) (k33 : Int → Bool) (r33 : Int → Bool) (k34 : Int → Bool) (r34 : Int → Int) (k22 : Int → Int → Bool) (r22_0 : Int → Int → Int) (r22_1 : Int → Int → Int) (k24 : Int → Int → Int → Bool) (r24_0 : Int → Int → Int → Int) (r24_1 : Int → Int → Int → Int) (k35 : Int → Int → Int → Bool → Int → Bool) (r35 : Int → Int → Int → Bool → Int → Int) (k36 : Int → Bool → Bool) (r36 : Int → Bool → Int) (a0 : Int) (a1 : Int) (a2 : Int) (a3 : Int) :
    runF ((((((G.add 42 (FC1 (.int .i64) k33 (fun x0 => .tv (B (r33 x0))))).add 43 (FC1 (.int .i64) k34 (fun x0 => .tv (U (r34 x0))))).add 44 (FC2 (.int .u64) (.int .u64) k22 (fun x0 x1 => .tup [.tv (U (r22_0 x0 x1)), .tv (U (r22_1 x0 x1))]))).add 45 (FC3 (.int .u64) (.int .u64) (.int .u64) k24 (fun x0 x1 x2 => .tup [.tv (U (r24_0 x0 x1 x2)), .tv (U (r24_1 x0 x1 x2))]))).add 46 (FC5 (.int .u64) (.int .u64) (.int .u64) (.bool) (.int .i64) k35 (fun x0 x1 x2 x3 x4 => .tv (U (r35 x0 x1 x2 x3 x4))))).add 47 (FC2 (.int .u64) (.bool) k36 (fun x0 x1 => .tv (I (r36 x0 x1))))) [] Try.f35 400 (bod Try.f35) (entry [(I a0), (I a1), (I a2), (I a3)]) =
  bif (k33 a3) then
    bif (!(r33 a3)) then
      .ret (.tup [.tv (I 0), .tv (I 1)])
    else
      bif (a2 == 0) then
        .ret (.tup [.tv (I 0), .tv (I 12)])
      else
        bif (k34 a0) then
          bif ((k34 a1) || (!(!(decide ((r34 a0) > 1000000000000000))))) then
            bif ((k34 a2) || (!(!(bif (decide ((r34 a0) > 1000000000000000)) then true else (decide ((r34 a1) > 1000000000)))))) then
              bif (bif (bif (decide ((r34 a0) > 1000000000000000)) then true else (decide ((r34 a1) > 1000000000))) then true else (decide ((r34 a2) > 1000000000))) then
                .ret (.tup [.tv (I 0), .tv (I 3)])
              else
                bif (k34 a0) then
                  bif (k34 a1) then
                    bif (k22 (r34 a0) (r34 a1)) then
                      bif (k34 a2) then
                        bif (decide ((r22_0 (r34 a0) (r34 a1)) ≥ (r34 a2))) then
                          .ret (.tup [.tv (I 0), .tv (I 3)])
                        else
                          bif (k24 (r22_0 (r34 a0) (r34 a1)) (r22_1 (r34 a0) (r34 a1)) (r34 a2)) then
                            bif (decide ((r24_0 (r22_0 (r34 a0) (r34 a1)) (r22_1 (r34 a0) (r34 a1)) (r34 a2)) > 1000000000000000)) then
                              .ret (.tup [.tv (I 0), .tv (I 3)])
                            else
                              bif (k35 (r24_0 (r22_0 (r34 a0) (r34 a1)) (r22_1 (r34 a0) (r34 a1)) (r34 a2)) (r24_1 (r22_0 (r34 a0) (r34 a1)) (r22_1 (r34 a0) (r34 a1)) (r34 a2)) (r34 a2) (!((!((decide (a0 < 0)) == (decide (a1 < 0)))) == (decide (a2 < 0)))) a3) then
                                bif (decide ((r35 (r24_0 (r22_0 (r34 a0) (r34 a1)) (r22_1 (r34 a0) (r34 a1)) (r34 a2)) (r24_1 (r22_0 (r34 a0) (r34 a1)) (r22_1 (r34 a0) (r34 a1)) (r34 a2)) (r34 a2) (!((!((decide (a0 < 0)) == (decide (a1 < 0)))) == (decide (a2 < 0)))) a3) > 1000000000000000)) then
                                  .ret (.tup [.tv (I 0), .tv (I 3)])
                                else
                                  bif (k36 (r35 (r24_0 (r22_0 (r34 a0) (r34 a1)) (r22_1 (r34 a0) (r34 a1)) (r34 a2)) (r24_1 (r22_0 (r34 a0) (r34 a1)) (r22_1 (r34 a0) (r34 a1)) (r34 a2)) (r34 a2) (!((!((decide (a0 < 0)) == (decide (a1 < 0)))) == (decide (a2 < 0)))) a3) (!((!((decide (a0 < 0)) == (decide (a1 < 0)))) == (decide (a2 < 0))))) then
                                    .ret (.tup [.tv (I (r36 (r35 (r24_0 (r22_0 (r34 a0) (r34 a1)) (r22_1 (r34 a0) (r34 a1)) (r34 a2)) (r24_1 (r22_0 (r34 a0) (r34 a1)) (r22_1 (r34 a0) (r34 a1)) (r34 a2)) (r34 a2) (!((!((decide (a0 < 0)) == (decide (a1 < 0)))) == (decide (a2 < 0)))) a3) (!((!((decide (a0 < 0)) == (decide (a1 < 0)))) == (decide (a2 < 0)))))), .tv (I 0)])
                                  else
                                    .fail
                              else
                                .fail
                          else
                            .fail
                      else
                        .fail
                    else
                      .fail
                  else
                    .fail
                else
                  .fail
            else
              .fail
          else
            .fail
        else
          .fail
  else
    .fail := by kernel_rfl
theorem has29 : Hs 35 FMulDiv := by
  refine Has.fc4 (fn := Try.f35) ((((((env0.more has33).more has34).more has22).more has24).more has35).more has36) (by kernel_rfl) (by kernel_rfl) (by kernel_rfl) (by kernel_rfl)
    fun (c n d m : Int) h => .run0 (e29 Tbl.none (fun _ => true) modeOk i64ok absI (fun x y => u64ok x && u64ok y) mulHi mulLo (fun hi lo y => u64ok hi && u64ok lo && u64ok y && ltI hi y) divQ divR (fun q r d _ _ => rdOk q r d) (fun q r d neg m => ((up1 q.toNat r.toNat d.toNat neg m : Nat) : Int)) (fun n _ => limOk n) (fun n neg => sgn neg n) c n d m) ?_
  simp only [Bool.and_eq_true] at h
  obtain ⟨⟨hc, hn⟩, hd⟩ := h
  rw [hc, hn, hd, ← mdBig_eq]
  repeat (first | rw [cond_true] | rw [Bool.true_or])
  unfold mdRes
  refine .bif (fun h1 => .ret' (by rw [h1]; rfl)) fun h1 => ?_
  rw [h1, cond_false]
  refine .bif (fun h2 => .ret' (by rw [h2]; rfl)) fun h2 => ?_
  rw [h2, cond_false]
  refine .bif (fun h3 => .ret' (by rw [h3]; rfl)) fun h3 => ?_
  rw [h3, cond_false]
  obtain ⟨b1, b2, b3⟩ := mdBig_no h3
  have hd0 : d ≠ 0 := by simpa using h2
  have hdp : 0 < d.natAbs := by omega
  have u1 : u64ok (absI c) = true := u64ok_nat (by omega)
  have u2 : u64ok (absI n) = true := u64ok_nat (by omega)
  have u3 : u64ok (absI d) = true := u64ok_nat (by omega)
  obtain ⟨vQ, vR, u4, u5, vO⟩ := md_vals b1 b2 hdp
  have hup := up1_le (c.natAbs * n.natAbs / d.natAbs) (c.natAbs * n.natAbs % d.natAbs) d.natAbs (negI c n d) m
  have hR := Nat.mod_lt (c.natAbs * n.natAbs) hdp
  have hdm2 := Nat.div_add_mod (c.natAbs * n.natAbs) d.natAbs
  have over : c.natAbs * n.natAbs / d.natAbs > 1000000000000000 → decide (mdU c n d m > 1000000000000000) = true := by
    intro h; simp only [decide_eq_true_eq]; unfold mdU; omega
  rw [u1, u2]
  repeat (first | rw [cond_true] | rw [Bool.and_true])
  refine .bif (fun h4 => .ret' ?_) fun h4 => ?_
  · rw [over]
    · rfl
    · exact vO (of_decide_eq_true h4)
  · have h5 := of_decide_eq_false h4
    have hlt' : ltI (mulHi (absI c) (absI n)) (absI d) = true := by unfold ltI; exact decide_eq_true (by omega)
    rw [u4, u5, u3, hlt', vQ, vR]
    repeat (first | rw [cond_true] | rw [Bool.and_true] | rw [Int.toNat_natCast])
    refine .bif (fun h6 => .ret' ?_) fun h6 => ?_
    · rw [over (by have := of_decide_eq_true h6; omega)]; rfl
    · have h7 : c.natAbs * n.natAbs / d.natAbs ≤ 1000000000000000 := by have := of_decide_eq_false h6; omega
      have k1 : rdOk ((c.natAbs * n.natAbs / d.natAbs : Nat) : Int) ((c.natAbs * n.natAbs % d.natAbs : Nat) : Int) (absI d) = true := rdOk_nat (by omega) hR (by omega)
      rw [k1, cond_true]
      have e3 : (absI d).toNat = d.natAbs := rfl
      rw [e3, show (!((!(decide (c < 0) == decide (n < 0))) == decide (d < 0))) = negI c n d from rfl]
      show Goes _ _ _ _ (bif decide (((mdU c n d m : Nat) : Int) > 1000000000000000) then _ else bif limOk ((mdU c n d m : Nat) : Int) then _ else _) _
      have hU : mdU c n d m ≤ 1000000000000001 := by unfold mdU; omega
      refine .bif (fun h8 => .ret' ?_) fun h8 => ?_
      · have : decide (mdU c n d m > 1000000000000000) = true := by have := of_decide_eq_true h8; simp only [decide_eq_true_eq]; omega
        rw [this]; rfl
      · have : decide (mdU c n d m > 1000000000000000) = false := by have := of_decide_eq_false h8; simp only [decide_eq_false_iff_not]; omega
        have k2 : limOk ((mdU c n d m : Nat) : Int) = true := limOk_nat (by omega)
        rw [this, k2]
        exact .ret _
theorem e30 (G : Tbl) (k37 : Int → Bool) (r37 : Int → Bool) (k38 : Int → Int → Bool) (r38 : Int → Int → Bool) (k39 : Int → Bool) (r39 : Int → Int) (k40 : Int → Int → Int → Bool → Int → Bool) (r40 : Int → Int → Int → Bool → Int → Int) (a0 : Int) (a1 : Int) (a2 : Int) (a3 : Int) :
    runF ((((G.add 49 (FC1 (.int .i64) k37 (fun x0 => .tv (B (r37 x0))))).add 50 (FC2 (.int .i64) (.int .i64) k38 (fun x0 x1 => .tv (B (r38 x0 x1))))).add 51 (FC1 (.int .i64) k39 (fun x0 => .tv (I (r39 x0))))).add 52 (FC5 (.int .i64) (.int .i64) (.int .i64) (.bool) (.int .i64) k40 (fun x0 x1 x2 x3 x4 => .tv (I (r40 x0 x1 x2 x3 x4))))) [] Try.f41 400 (bod Try.f41) (entry [(I a0), (I a1), (I a2), (I a3)]) =
  bif (k37 a3) then
    bif (!(r37 a3)) then
      .ret (.tup [.tv (I 0), .tv (I 1)])
    else
      bif (a2 == 0) then
        .ret (.tup [.tv (I 0), .tv (I 12)])
      else
        bif (k38 a0 1000000000000000) then
          bif ((k38 a1 1000000000) || (!(!(r38 a0 1000000000000000)))) then
            bif ((k38 a2 1000000000) || (!(!(bif (r38 a0 1000000000000000) then true else (r38 a1 1000000000))))) then
              bif (bif (bif (r38 a0 1000000000000000) then true else (r38 a1 1000000000)) then true else (r38 a2 1000000000)) then
                .ret (.tup [.tv (I 0), .tv (I 3)])
              else
                bif (k39 a0) then
                  bif (k39 a1) then
                    bif (k39 a2) then
                      bif ((!((r39 a2) == 0)) || (!(decide ((r39 a1) > 0)))) then
                        bif ((!((r39 a1) == 0)) || (!(decide ((r39 a1) > 0)))) then
                          bif (bif (decide ((r39 a1) > 0)) then (decide ((w (Int.tdiv (r39 a0) (r39 a2))) > (w (Int.tdiv 1000000000000000 (r39 a1))))) else false) then
                            .ret (.tup [.tv (I 0), .tv (I 3)])
                          else
                            bif (!((r39 a2) == 0)) then
                              bif (!((r39 a2) == 0)) then
                                bif (!((r39 a2) == 0)) then
                                  bif (!((r39 a2) == 0)) then
                                    bif (k40 (w ((w ((w (Int.tdiv (r39 a0) (r39 a2))) * (r39 a1))) + (w (Int.tdiv (w ((Int.tmod (r39 a0) (r39 a2)) * (r39 a1))) (r39 a2))))) (Int.tmod (w ((Int.tmod (r39 a0) (r39 a2)) * (r39 a1))) (r39 a2)) (r39 a2) (!((!((decide (a0 < 0)) == (decide (a1 < 0)))) == (decide (a2 < 0)))) a3) then
                                      bif (k38 (r40 (w ((w ((w (Int.tdiv (r39 a0) (r39 a2))) * (r39 a1))) + (w (Int.tdiv (w ((Int.tmod (r39 a0) (r39 a2)) * (r39 a1))) (r39 a2))))) (Int.tmod (w ((Int.tmod (r39 a0) (r39 a2)) * (r39 a1))) (r39 a2)) (r39 a2) (!((!((decide (a0 < 0)) == (decide (a1 < 0)))) == (decide (a2 < 0)))) a3) 1000000000000000) then
                                        bif (r38 (r40 (w ((w ((w (Int.tdiv (r39 a0) (r39 a2))) * (r39 a1))) + (w (Int.tdiv (w ((Int.tmod (r39 a0) (r39 a2)) * (r39 a1))) (r39 a2))))) (Int.tmod (w ((Int.tmod (r39 a0) (r39 a2)) * (r39 a1))) (r39 a2)) (r39 a2) (!((!((decide (a0 < 0)) == (decide (a1 < 0)))) == (decide (a2 < 0)))) a3) 1000000000000000) then
                                          .ret (.tup [.tv (I 0), .tv (I 3)])
                                        else
                                          .ret (.tup [.tv (I (r40 (w ((w ((w (Int.tdiv (r39 a0) (r39 a2))) * (r39 a1))) + (w (Int.tdiv (w ((Int.tmod (r39 a0) (r39 a2)) * (r39 a1))) (r39 a2))))) (Int.tmod (w ((Int.tmod (r39 a0) (r39 a2)) * (r39 a1))) (r39 a2)) (r39 a2) (!((!((decide (a0 < 0)) == (decide (a1 < 0)))) == (decide (a2 < 0)))) a3)), .tv (I 0)])
                                      else
                                        .fail
                                    else
                                      .fail
                                  else
                                    .fail
                                else
                                  .fail
                              else
                                .fail
                            else
                              .fail
                        else
                          .fail
                      else
                        .fail
                    else
                      .fail
                  else
                    .fail
                else
                  .fail
            else
              .fail
          else
            .fail
        else
          .fail
  else
    .fail := by kernel_rfl
theorem has30 : Hs 41 FMulDiv := by
  refine Has.fc4 (fn := Try.f41) ((((env0.more has37).more has38).more has39).more has40) (by kernel_rfl) (by kernel_rfl) (by kernel_rfl) (by kernel_rfl)
    fun (c n d m : Int) h => .run0 (e30 Tbl.none _ _ _ _ _ _ _ _ c n d m) ?_
  simp only [Bool.and_eq_true] at h
  obtain ⟨⟨hc, hn⟩, hd⟩ := h
  have l15 : limOk 1000000000000000 = true := rfl
  have l9 : limOk 1000000000 = true := rfl
  have bE : ∀ {x : Int} (l : Nat), beyondI x (l : Int) = decide (absI x > (l : Int)) := by
    intro x l; unfold beyondI absI; rw [Bool.eq_iff_iff]; simp only [Bool.or_eq_true, decide_eq_true_eq]; omega
  rw [l15, l9, show beyondI c 1000000000000000 = decide (absI c > 1000000000000000) from bE 1000000000000000, show beyondI n 1000000000 = decide (absI n > 1000000000) from bE 1000000000,
    show beyondI d 1000000000 = decide (absI d > 1000000000) from bE 1000000000, ← mdBig_eq]
  simp only [Bool.true_or, cond_true]
  unfold mdRes
  refine .bif (fun h1 => .ret' (by rw [h1]; rfl)) fun h1 => ?_
  rw [h1, cond_false]
  refine .bif (fun h2 => .ret' (by rw [h2]; rfl)) fun h2 => ?_
  rw [h2, cond_false]
  refine .bif (fun h3 => .ret' (by rw [h3]; rfl)) fun h3 => ?_
  rw [h3, cond_false]
  obtain ⟨b1, b2, b3⟩ := mdBig_no h3
  have hd0 : d ≠ 0 := by simpa using h2
  have hdp : 0 < d.natAbs := by omega
  have s1 : symOk c = true := symOk_of (by omega)
  have s2 : symOk n = true := symOk_of (by omega)
  have s3 : symOk d = true := symOk_of (by omega)
  have hb : (!(absI d == 0)) = true := ne0 (by unfold absI; omega)
  rw [s1, s2, s3, hb]
  simp only [Bool.true_or, cond_true]
  have hx : ((!(absI n == 0)) || (!(decide (absI n > 0)))) = true := by
    by_cases h : n = 0
    · subst h; rfl
    · rw [ne0 (by unfold absI; omega)]; rfl
  rw [hx, cond_true, show (!((!(decide (c < 0) == decide (n < 0))) == decide (d < 0))) = negI c n d from rfl]
  -- plain numbers
  have q1 : w (Int.tdiv (absI c) (absI d)) = ((c.natAbs / d.natAbs : Nat) : Int) := by
    unfold absI; rw [tdivN]; exact wN (Nat.le_trans (Nat.div_le_self c.natAbs d.natAbs) (by omega))
  have q2 : w (Int.tdiv 1000000000000000 (absI n)) = ((1000000000000000 / n.natAbs : Nat) : Int) := by
    unfold absI; rw [show (1000000000000000 : Int) = ((1000000000000000 : Nat) : Int) from rfl, tdivN]; exact wN (Nat.le_trans (Nat.div_le_self 1000000000000000 n.natAbs) (by omega))
  have q3 : Int.tmod (absI c) (absI d) = ((c.natAbs % d.natAbs : Nat) : Int) := tmodN _ _
  have hmod := Nat.mod_lt c.natAbs hdp
  have hlo : c.natAbs % d.natAbs * n.natAbs ≤ 1000000000 * 1000000000 := Nat.mul_le_mul (by omega) b2
  have q4 : w (((c.natAbs % d.natAbs : Nat) : Int) * absI n) = ((c.natAbs % d.natAbs * n.natAbs : Nat) : Int) := by
    unfold absI; rw [← Int.natCast_mul]; exact wN (by omega)
  have q5 : w (Int.tdiv ((c.natAbs % d.natAbs * n.natAbs : Nat) : Int) (absI d)) = ((c.natAbs % d.natAbs * n.natAbs / d.natAbs : Nat) : Int) := by
    unfold absI; rw [tdivN]; exact wN (Nat.le_trans (Nat.div_le_self (c.natAbs % d.natAbs * n.natAbs) d.natAbs) (by omega))
  have q6 : Int.tmod ((c.natAbs % d.natAbs * n.natAbs : Nat) : Int) (absI d) = ((c.natAbs % d.natAbs * n.natAbs % d.natAbs : Nat) : Int) := tmodN _ _
  rw [q1, q2, q3, q4, q5, q6, band_bif]
  have hsum : c.natAbs * n.natAbs = c.natAbs % d.natAbs * n.natAbs + c.natAbs / d.natAbs * n.natAbs * d.natAbs := by
    have := Nat.div_add_mod c.natAbs d.natAbs
    calc c.natAbs * n.natAbs = (d.natAbs * (c.natAbs / d.natAbs) + c.natAbs % d.natAbs) * n.natAbs := by rw [this]
      _ = _ := by rw [Nat.add_mul, Nat.add_comm, Nat.mul_assoc, Nat.mul_comm d.natAbs]
  have hQ : c.natAbs * n.natAbs / d.natAbs = c.natAbs / d.natAbs * n.natAbs + c.natAbs % d.natAbs * n.natAbs / d.natAbs := by
    rw [hsum, Nat.add_mul_div_right _ _ hdp, Nat.add_comm]
  have hR : c.natAbs * n.natAbs % d.natAbs = c.natAbs % d.natAbs * n.natAbs % d.natAbs := by
    rw [hsum, Nat.add_mul_mod_self_right]
  have hup := up1_le (c.natAbs * n.natAbs / d.natAbs) (c.natAbs * n.natAbs % d.natAbs) d.natAbs (negI c n d) m
  have hd1 := Nat.div_le_self (c.natAbs % d.natAbs * n.natAbs) d.natAbs
  refine .bif (fun h4 => .ret' ?_) fun h4 => ?_
  · have : decide (mdU c n d m > 1000000000000000) = true := by
      simp only [Bool.and_eq_true, decide_eq_true_eq] at h4 ⊢
      obtain ⟨h5, h6⟩ := h4
      unfold absI at h5
      have hn0 : 0 < n.natAbs := by omega
      have h7 : 1000000000000000 / n.natAbs + 1 ≤ c.natAbs / d.natAbs := by
        generalize 1000000000000000 / n.natAbs = p at *
        generalize c.natAbs / d.natAbs = q at *
        omega
      have h8 := Nat.mul_le_mul_right n.natAbs h7
      have h9 := Nat.lt_div_mul_add (a := 1000000000000000) hn0
      have : (1000000000000000 / n.natAbs + 1) * n.natAbs = 1000000000000000 / n.natAbs * n.natAbs + n.natAbs := by rw [Nat.add_mul, Nat.one_mul]
      have hQ2 : 1000000000000000 < c.natAbs * n.natAbs / d.natAbs := by
        rw [hQ]; exact Nat.lt_of_lt_of_le (Nat.lt_of_lt_of_le (Nat.lt_of_lt_of_le h9 (Nat.le_of_eq this.symm)) h8) (Nat.le_add_right _ _)
      exact Nat.lt_of_lt_of_le hQ2 hup.1
    rw [this]; rfl
  · have h5 : c.natAbs / d.natAbs * n.natAbs ≤ 1000000000000000 := by
      by_cases hn0 : n.natAbs = 0
      · rw [hn0]; omega
      · have hp : decide (absI n > 0) = true := by simp only [decide_eq_true_eq]; unfold absI; omega
        rw [hp, Bool.true_and] at h4
        have h6 : c.natAbs / d.natAbs ≤ 1000000000000000 / n.natAbs := by
          have := of_decide_eq_false h4
          generalize 1000000000000000 / n.natAbs = p at *
          generalize c.natAbs / d.natAbs = q at *
          omega
        exact Nat.le_trans (Nat.mul_le_mul_right _ h6) (Nat.div_mul_le_self _ _)
    have q7 : w (((c.natAbs / d.natAbs : Nat) : Int) * absI n) = ((c.natAbs / d.natAbs * n.natAbs : Nat) : Int) := by
      unfold absI; rw [← Int.natCast_mul]; exact wN (by omega)
    have q8 : w (((c.natAbs / d.natAbs * n.natAbs : Nat) : Int) + ((c.natAbs % d.natAbs * n.natAbs / d.natAbs : Nat) : Int)) = ((c.natAbs * n.natAbs / d.natAbs : Nat) : Int) := by
      rw [← Int.natCast_add, ← hQ]; exact wN (by omega)
    rw [q7, q8, ← hR]
    have hRlt := Nat.mod_lt (c.natAbs * n.natAbs) hdp
    have k1 : rdOk ((c.natAbs * n.natAbs / d.natAbs : Nat) : Int) ((c.natAbs * n.natAbs % d.natAbs : Nat) : Int) (absI d) = true := rdOk_nat (by omega) hRlt (by omega)
    rw [k1]
    simp only [cond_true, Int.toNat_natCast]
    rw [show (absI d).toNat = d.natAbs from rfl]
    show Goes _ _ _ _ (bif beyondI (sgn (negI c n d) ((mdU c n d m : Nat) : Int)) 1000000000000000 then _ else _) _
    rw [sgn_big]
    refine .bif (fun h6 => .ret' (by rw [h6]; rfl)) fun h6 => .ret' (by rw [h6]; rfl)
end Go.Lift.L40
set_option maxRecDepth 100000
set_option linter.unusedVariables false
set_option linter.unusedSimpArgs false
namespace Go.Lift.L40
open Go.Lift Go.Proofs

abbrev pr2 (p : Int × Int) : SV := .tup [.tv (I p.1), .tv (I p.2)]
theorem modeBad (m : Int) : (bif decide (m < 0) then true else decide (m > 5)) = !modeOk m := by
  unfold modeOk; rw [bor_bif, Bool.eq_iff_iff]
  simp only [Bool.or_eq_true, Bool.not_eq_true', Bool.and_eq_false_iff, decide_eq_true_eq, decide_eq_false_iff_not]; omega
theorem l15 : limOk 1000000000000000 = true := rfl
theorem l9 : limOk 1000000000 = true := rfl
theorem l1001 : limOk 1001 = true := rfl
theorem i6 : i64ok 1000000 = true := rfl
theorem bey_no {n : Int} {l : Nat} (h : beyondI n (l : Int) = false) : n.natAbs ≤ l := by
  have h1 := Bool.or_eq_false_iff.1 h
  have a1 := of_decide_eq_false h1.1
  have a2 := of_decide_eq_false h1.2
  omega

/-! Apply -/
def FApply := FC3 (.int .i64) (.int .i64) (.int .i64) (fun c r _ => i64ok c && i64ok r) fun c r m => pr2 (mdRes c r 1000000 m)
theorem e18 (G : Tbl) (k29 : Int → Int → Int → Int → Bool) (r29_0 : Int → Int → Int → Int → Int) (r29_1 : Int → Int → Int → Int → Int) (a0 : Int) (a1 : Int) (a2 : Int) :
    runF (G.add 35 (FC4 (.int .i64) (.int .i64) (.int .i64) (.int .i64) k29 (fun x0 x1 x2 x3 => .tup [.tv (I (r29_0 x0 x1 x2 x3)), .tv (I (r29_1 x0 x1 x2 x3))]))) [] Try.f29 400 (bod Try.f29) (entry [(I a0), (I a1), (I a2)]) =
  bif (k29 a0 a1 1000000 a2) then
    .ret (.tup [.tv (I (r29_0 a0 a1 1000000 a2)), .tv (I (r29_1 a0 a1 1000000 a2))])
  else
    .fail := by kernel_rfl
theorem has18 : Hs 29 FApply := by
  refine Has.fc3 (fn := Try.f29) (env0.more has29) (by kernel_rfl) (by kernel_rfl) (by kernel_rfl) (by kernel_rfl)
    fun (c r m : Int) h => .run0 (e18 Tbl.none (fun c n d _ => i64ok c && i64ok n && i64ok d) (fun c n d m => (mdRes c n d m).1) (fun c n d m => (mdRes c n d m).2) c r m) ?_
  rw [h, i6, Bool.and_true, cond_true]
  exact .ret _
theorem e19 (G : Tbl) (k30 : Int → Int → Int → Int → Bool) (r30_0 : Int → Int → Int → Int → Int) (r30_1 : Int → Int → Int → Int → Int) (a0 : Int) (a1 : Int) (a2 : Int) :
    runF (G.add 41 (FC4 (.int .i64) (.int .i64) (.int .i64) (.int .i64) k30 (fun x0 x1 x2 x3 => .tup [.tv (I (r30_0 x0 x1 x2 x3)), .tv (I (r30_1 x0 x1 x2 x3))]))) [] Try.f34 400 (bod Try.f34) (entry [(I a0), (I a1), (I a2)]) =
  bif (k30 a0 a1 1000000 a2) then
    .ret (.tup [.tv (I (r30_0 a0 a1 1000000 a2)), .tv (I (r30_1 a0 a1 1000000 a2))])
  else
    .fail := by kernel_rfl
theorem has19 : Hs 34 FApply := by
  refine Has.fc3 (fn := Try.f34) (env0.more has30) (by kernel_rfl) (by kernel_rfl) (by kernel_rfl) (by kernel_rfl)
    fun (c r m : Int) h => .run0 (e19 Tbl.none (fun c n d _ => i64ok c && i64ok n && i64ok d) (fun c n d m => (mdRes c n d m).1) (fun c n d m => (mdRes c n d m).2) c r m) ?_
  rw [h, i6, Bool.and_true, cond_true]
  exact .ret _

/-! Prorate -/
def prBad (c days total : Int) : Bool := ((decide (total > 109573) || decide (days < 0)) || decide (days > total)) || beyondI c 1000000000000000
def prRes (c days total m : Int) : Int × Int :=
  bif !modeOk m then (0, 1) else bif decide (total < 1) then (0, 12) else bif prBad c days total then (0, 3) else mdRes c days total m
def FProrate := FC4 (.int .i64) (.int .i64) (.int .i64) (.int .i64) (fun c n d _ => i64ok c && i64ok n && i64ok d) fun c n d m => pr2 (prRes c n d m)

/-! Mul -/
def mulV (p : Int) (m : Int) : Int := sgn (decide (p < 0)) ((up1 (p.natAbs / 1000000) (p.natAbs % 1000000) 1000000 (decide (p < 0)) m : Nat) : Int)
def mulRes (a b m : Int) : Int × Int :=
  bif !modeOk m then (0, 1) else bif beyondI a 1000000000 || beyondI b 1000000000 then (0, 3) else bif beyondI (mulV (a * b) m) 1000000000 then (0, 3) else (mulV (a * b) m, 0)
def FMulR := FC3 (.int .i64) (.int .i64) (.int .i64) (fun _ _ _ => true) fun a b m => pr2 (mulRes a b m)
theorem mul_small {a b : Int} (ha : a.natAbs ≤ 1000000000) (hb : b.natAbs ≤ 1000000000) : (a * b).natAbs ≤ 1000000000000000000 ∧ w (a * b) = a * b := by
  have h1 : (a * b).natAbs ≤ 1000000000000000000 := by rw [Int.natAbs_mul]; exact Nat.mul_le_mul ha hb
  exact ⟨h1, wrap_id (by omega) (by omega)⟩
theorem i64of {n : Int} (h : n.natAbs ≤ 9223372036854775807) : i64ok n = true := by
  unfold i64ok; rw [Bool.and_eq_true, decide_eq_true_eq, decide_eq_true_eq]; omega
theorem dr_mul {p m : Int} (hp : p.natAbs ≤ 1000000000000000000) (hm : (!modeOk m) = false) : drRes p 1000000 m = (mulV p m, 0) := by
  unfold drRes
  have h1 : decide (absI p > 4611686018427387904) = false := decide_eq_false (by unfold absI; omega)
  have h2 : decide (absI 1000000 > 4611686018427387904) = false := rfl
  have h3 : ((1000000 : Int) == 0) = false := rfl
  rw [hm, h1, h2, h3]
  have h4 : negI2 p 1000000 = decide (p < 0) := by
    unfold negI2; rw [show decide ((1000000 : Int) < 0) = false from rfl]; cases decide (p < 0) <;> rfl
  unfold drU mulV
  rw [h4]
  rfl
theorem mulV_floor {p m : Int} (hm : (!modeOk m) = false) : rndF (p / 1000000) (p % 1000000) 1000000 m = mulV p m := by
  have hm' : modeOk m = true := by cases h : modeOk m <;> rw [h] at hm <;> first | rfl | cases hm
  have h := @rnd_agree (p.natAbs / 1000000) (p.natAbs % 1000000) 1000000 (Nat.mod_lt _ (by omega)) (decide (p < 0)) m hm'
  have e : sgn (decide (p < 0)) ((p.natAbs / 1000000 * 1000000 + p.natAbs % 1000000 : Nat) : Int) = p := by
    rw [Nat.div_add_mod']
    unfold sgn
    by_cases hp : p < 0
    · rw [decide_eq_true hp, cond_true]; omega
    · rw [decide_eq_false hp, cond_false]; omega
  rw [e] at h
  exact h.symm
theorem rndF_le (f r d m : Int) : f ≤ rndF f r d m ∧ rndF f r d m ≤ f + 1 := by
  unfold rndF
  cases (r == 0)
  · cases up28' f r d m
    · exact ⟨Int.le_refl f, by show f ≤ f + 1; omega⟩
    · exact ⟨by show f ≤ f + 1; omega, Int.le_refl _⟩
  · exact ⟨Int.le_refl f, by show f ≤ f + 1; omega⟩
theorem div_small {p : Int} {d l : Int} (hd : 0 < d) (h1 : -l ≤ p) (h2 : p ≤ l) (hl : 0 ≤ l) : -l - 1 ≤ p / d ∧ p / d ≤ l := by
  constructor
  · have : -l - 1 < p / d := by
      have := Int.lt_ediv_add_one_mul_self p hd
      by_cases hc : p / d + 1 ≤ -l - 1 + 1
      · have h5 : (p / d + 1) * d ≤ -l * d := Int.mul_le_mul_of_nonneg_right (by omega) (by omega)
        have h6 : l * 1 ≤ l * d := Int.mul_le_mul_of_nonneg_left (by omega) hl
        rw [Int.neg_mul] at h5
        omega
      · omega
    omega
  · exact Int.ediv_le_of_le_mul hd (by
      have h6 : l * 1 ≤ l * d := Int.mul_le_mul_of_nonneg_left (by omega) hl
      omega)
end Go.Lift.L40
set_option maxRecDepth 100000
set_option linter.unusedVariables false
set_option linter.unusedSimpArgs false
namespace Go.Lift.L40
open Go.Lift Go.Proofs

/-! Compound -/
def cpGo (r m : Int) : Nat → Int → Int × Int
  | 0, c => (c, 0)
  | k + 1, c => bif ((mdRes c r 1000000 m).2 != 0) || beyondI (c + (mdRes c r 1000000 m).1) 1000000000000000 then (0, 3) else cpGo r m k (c + (mdRes c r 1000000 m).1)
def cpBad (c r n : Int) : Bool := ((decide (n < 0) || decide (n > 120)) || beyondI c 1000000000000000) || beyondI r 1000000000
def cpRes (c r n m : Int) : Int × Int := bif !modeOk m then (0, 1) else bif cpBad c r n then (0, 3) else cpGo r m n.toNat c
def FCompound := FC4 (.int .i64) (.int .i64) (.int .i64) (.int .i64) (fun _ _ _ _ => true) fun c r n m => pr2 (cpRes c r n m)
theorem mdRes_small (c n d m : Int) : (mdRes c n d m).1.natAbs ≤ 1000000000000000 := by
  unfold mdRes
  cases !modeOk m
  · cases (d == 0)
    · cases mdBig c n d
      · by_cases h : mdU c n d m > 1000000000000000
        · rw [decide_eq_true h]; exact Nat.zero_le _
        · rw [decide_eq_false h]
          show (sgn (negI c n d) ((mdU c n d m : Nat) : Int)).natAbs ≤ _
          unfold sgn
          cases negI c n d
          · show ((mdU c n d m : Nat) : Int).natAbs ≤ _; omega
          · show (-((mdU c n d m : Nat) : Int)).natAbs ≤ _; omega
      · exact Nat.zero_le _
    · exact Nat.zero_le _
  · exact Nat.zero_le _
theorem mdRes_err {c n d m : Int} (hm : (!modeOk m) = false) (hd : (d == 0) = false) : (mdRes c n d m).2 = 0 ∨ (mdRes c n d m).2 = 3 := by
  unfold mdRes
  rw [hm, hd]
  cases mdBig c n d
  · cases decide (mdU c n d m > 1000000000000000)
    · exact .inl rfl
    · exact .inr rfl
  · exact .inr rfl
theorem w_sum {a b : Int} (ha : a.natAbs ≤ 1000000000000000) (hb : b.natAbs ≤ 1000000000000000) : w (a + b) = a + b := wrap_id (by omega) (by omega)
theorem w_inc {i : Int} (h : i.natAbs ≤ 1000000000000000) : w (i + 1) = i + 1 := wrap_id (by omega) (by omega)
theorem i64of' {n : Int} (h : n.natAbs ≤ 1000000000000000) : i64ok n = true := i64of (by omega)
end Go.Lift.L40
