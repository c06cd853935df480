/- A part of the proof that the law returns true for every input: no condition. -/
import Derived.Test.YtincaojcmkklbaaR2
set_option maxRecDepth 100000
set_option linter.unusedVariables false
set_option linter.unusedSimpArgs false
namespace Go.Lift.L03
open Go.Lift Go.Proofs

/-! Len64, as the code computes it -/
def tab : ByteArray := ⟨#[0,1,2,2,3,3,3,3,4,4,4,4,4,4,4,4,5,5,5,5,5,5,5,5,5,5,5,5,5,5,5,5,6,6,6,6,6,6,6,6,6,6,6,6,6,6,6,6,6,6,6,6,6,6,6,6,6,6,6,6,6,6,6,6,7,7,7,7,7,7,7,7,7,7,7,7,7,7,7,7,7,7,7,7,7,7,7,7,7,7,7,7,7,7,7,7,7,7,7,7,7,7,7,7,7,7,7,7,7,7,7,7,7,7,7,7,7,7,7,7,7,7,7,7,7,7,7,7,8,8,8,8,8,8,8,8,8,8,8,8,8,8,8,8,8,8,8,8,8,8,8,8,8,8,8,8,8,8,8,8,8,8,8,8,8,8,8,8,8,8,8,8,8,8,8,8,8,8,8,8,8,8,8,8,8,8,8,8,8,8,8,8,8,8,8,8,8,8,8,8,8,8,8,8,8,8,8,8,8,8,8,8,8,8,8,8,8,8,8,8,8,8,8,8,8,8,8,8,8,8,8,8,8,8,8,8,8,8,8,8,8,8,8,8,8,8,8,8,8,8,8,8,8,8,8,8]⟩
def tabI (x : Int) : Int := IntKind.wrap .i64 (((tab.get! (IntKind.wrap .u8 x).toNat).toNat : Nat) : Int)
def lenE (x n : Int) : Leaf := bif inB (IntKind.wrap .u8 x) tab.size then .ret (.tv (I (IntKind.wrap .i64 (n + tabI x)))) else .fail
def lenC (x n : Int) : Leaf := bif decide (x ≥ 256) then lenE (x.fdiv 256) (IntKind.wrap .i64 (n + 8)) else lenE x n
def lenB (x n : Int) : Leaf := bif decide (x ≥ 65536) then lenC (x.fdiv 65536) (IntKind.wrap .i64 (n + 16)) else lenC x n
theorem e41 (G : Tbl) (x : Int) : runF G [] Try.f41 100 (bod Try.f41) (entry [U x]) =
  bif decide (x ≥ 4294967296) then lenB (x.fdiv 4294967296) 32 else lenB x 0 := by kernel_rfl

def lenN (x : Nat) : Nat := (tab.get! x).toNat
def lenN3 (x n : Nat) : Nat := if x ≥ 256 then n + 8 + lenN (x / 256) else n + lenN x
def lenN2 (x n : Nat) : Nat := if x ≥ 65536 then lenN3 (x / 65536) (n + 16) else lenN3 x n
def lenN1 (x : Nat) : Nat := if x ≥ 4294967296 then lenN2 (x / 4294967296) 32 else lenN2 x 0
def lenI (x : Int) : Int := (lenN1 x.toNat : Nat)
def Flen := FC1 (.int .u64) u64ok fun x => .tv (I (lenI x))
def Flz := FC1 (.int .u64) u64ok fun x => .tv (I (IntKind.wrap .i64 (64 - lenI x)))
theorem e32 (G : Tbl) (x : Int) : runF (G.add 41 Flen) [] Try.f32 100 (bod Try.f32) (entry [U x]) =
  bif u64ok x then .ret (.tv (I (IntKind.wrap .i64 (64 - lenI x)))) else .fail := by kernel_rfl

theorem tab_ok : ((List.range 256).all fun x => decide (lenN x ≤ 8) && (decide (x = 0) || (decide (1 ≤ lenN x) && decide (2 ^ (lenN x - 1) ≤ x) && decide (x < 2 ^ lenN x)))) = true := by kernel_rfl

/-! Div64 -/
def GD (G : Tbl) : Tbl := (G.add 41 Flen).add 32 Flz
def sOf (y : Int) : Int := w64 (IntKind.wrap .i64 (64 - lenI y))
def sl (n s : Int) : Int := w64 (n * 2 ^ (min s.toNat 64))
def sr (n s : Int) : Int := n.fdiv (2 ^ (min s.toNat 64))
def un32 (hi lo s : Int) : Int := bitI .or .u64 (sl hi s) (sr lo (w64 (64 - s)))
def ks24 : List Nat := [2,8,9,10,11,13,14,15,16,17,18]
noncomputable def L24 : Leaf := runF (GD Tbl.none) ks24 Try.f24 200 (bod Try.f24) (entry [U 1, U 0, U 2])
def S24 (Y s yn1 yn0 u u1 u0 q r : Int) : St :=
  ⟨[(2, .tv (U Y)), (8, .tv (U s)), (9, .tv (U yn1)), (10, .tv (U yn0)), (11, .tv (U u)), (13, .tv (U u1)), (14, .tv (U u0)), (15, .tv (U q)), (16, .tv (U r))], []⟩
noncomputable def M24 : Leaf := runF (GD Tbl.none) ks24 Try.f24 200 L24.round (S24 9223372036854775808 62 2147483648 0 1 0 0 0 1)
def R24 (Y s yn1 yn0 u u1 u0 q r v q0 : Int) : St :=
  ⟨[(2, .tv (U Y)), (8, .tv (U s)), (9, .tv (U yn1)), (10, .tv (U yn0)), (11, .tv (U u)), (13, .tv (U u1)), (14, .tv (U u0)), (15, .tv (U q)), (16, .tv (U r)), (17, .tv (U v)), (18, .tv (U q0))], []⟩

theorem e24 (G : Tbl) (hi lo y : Int) : runF (GD G) ks24 Try.f24 200 (bod Try.f24) (entry [U hi, U lo, U y]) =
  bif y == 0 then .fail else bif decide (y ≤ hi) then .fail
  else bif hi == 0 then (bif !(y == 0) then bif !(y == 0) then .ret (.tup [.tv (U (w64 (lo.tdiv y))), .tv (U (lo.tmod y))]) else .fail else .fail)
  else bif u64ok y then
    bif decide (0 ≤ sOf y) then
      bif decide (0 ≤ sOf y) then
        bif decide (0 ≤ w64 (64 - sOf y)) then
          bif decide (0 ≤ sOf y) then
            bif !(hi32 (sl y (sOf y)) == 0) then
              .loop L24.body L24.kont (S24 (sl y (sOf y)) (sOf y) (hi32 (sl y (sOf y))) (lo32 (sl y (sOf y))) (un32 hi lo (sOf y)) (hi32 (sl lo (sOf y))) (lo32 (sl lo (sOf y)))
                (w64 ((un32 hi lo (sOf y)).tdiv (hi32 (sl y (sOf y))))) (w64 (un32 hi lo (sOf y) - w64 (w64 ((un32 hi lo (sOf y)).tdiv (hi32 (sl y (sOf y)))) * hi32 (sl y (sOf y))))))
            else .fail
          else .fail
        else .fail
      else .fail
    else .fail
  else .fail := by kernel_rfl

def over (yn0 q r w : Int) : Bool := bif decide (q ≥ 4294967296) then true else decide (w64 (q * yn0) > w64 (w64 (4294967296 * r) + w))
def v24 (Y u u1 q : Int) : Int := w64 (w64 (w64 (u * 4294967296) + u1) - w64 (q * Y))
noncomputable def after1 (Y s yn1 yn0 u u1 u0 q : Int) : Leaf :=
  bif !(yn1 == 0) then
    .loop M24.body M24.kont (R24 Y s yn1 yn0 u u1 u0 q (w64 (v24 Y u u1 q - w64 (w64 ((v24 Y u u1 q).tdiv yn1) * yn1))) (v24 Y u u1 q) (w64 ((v24 Y u u1 q).tdiv yn1)))
  else .fail
theorem i24 (G : Tbl) (Y s yn1 yn0 u u1 u0 q r : Int) : runF (GD G) ks24 Try.f24 200 L24.round (S24 Y s yn1 yn0 u u1 u0 q r) =
  bif over yn0 q r u1 then
    bif decide (w64 (r + yn1) ≥ 4294967296) then after1 Y s yn1 yn0 u u1 u0 (w64 (q - 1))
    else .loop L24.body L24.kont (S24 Y s yn1 yn0 u u1 u0 (w64 (q - 1)) (w64 (r + yn1)))
  else after1 Y s yn1 yn0 u u1 u0 q := by kernel_rfl
def after2 (Y s u0 q v q0 : Int) : Leaf :=
  bif decide (0 ≤ s) then .ret (.tup [.tv (U (w64 (w64 (q * 4294967296) + q0))), .tv (U (sr (v24 Y v u0 q0) s))]) else .fail
theorem j24 (G : Tbl) (Y s yn1 yn0 u u1 u0 q r v q0 : Int) : runF (GD G) ks24 Try.f24 200 M24.round (R24 Y s yn1 yn0 u u1 u0 q r v q0) =
  bif over yn0 q0 r u0 then
    bif decide (w64 (r + yn1) ≥ 4294967296) then after2 Y s u0 q v (w64 (q0 - 1))
    else .loop M24.body M24.kont (R24 Y s yn1 yn0 u u1 u0 q (w64 (r + yn1)) v (w64 (q0 - 1)))
  else after2 Y s u0 q v q0 := by kernel_rfl
end Go.Lift.L03
