/- A part of the proof that the law returns true for every input: no condition. -/
import Derived.Test.YtincaojcmkklbaaR8
set_option maxRecDepth 100000
set_option linter.unusedVariables false
set_option linter.unusedSimpArgs false
namespace Go.Lift.L03
open Go.Lift Go.Proofs

/-! rounding: the equations -/
def fin35 (q : Int) (up : Bool) : Leaf := bif up then .ret (.tv (U (w64 (q + 1)))) else .ret (.tv (U q))
theorem e35 (G : Tbl) (q r d : Int) (neg : Bool) (m : Int) : runF G [] Try.f35 200 (bod Try.f35) (entry [U q, U r, U d, B neg, I m]) =
  bif m == 0 then fin35 q (bif neg then decide (r > 0) else false)
  else bif m == 1 then fin35 q (bif !neg then decide (r > 0) else false)
  else bif m == 3 then fin35 q (decide (r > 0))
  else bif m == 4 then fin35 q (decide (r ≥ w64 (d - r)))
  else bif m == 5 then fin35 q (bif decide (r > w64 (d - r)) then true else (bif r == w64 (d - r) then q.tmod 2 == 1 else false))
  else .ret (.tv (U q)) := by kernel_rfl
theorem e25 (G : Tbl) (q r d : Int) (neg : Bool) (m : Int) : runF G [] Try.f25 200 (bod Try.f25) (entry [U q, U r, U d, B neg, I m]) =
  bif r == 0 then .ret (.tv (B false))
  else bif m == 0 then .ret (.tv (B neg))
  else bif m == 1 then .ret (.tv (B !neg))
  else bif m == 3 then .ret (.tv (B true))
  else bif m == 4 then .ret (.tv (B (decide (r ≥ w64 (d - r)))))
  else bif m == 5 then .ret (.tv (B (bif decide (r > w64 (d - r)) then true else (bif r == w64 (d - r) then q.tmod 2 == 1 else false))))
  else .ret (.tv (B false)) := by kernel_rfl
def fin40 (q : Int) (neg up : Bool) : Leaf := bif up then (bif neg then .ret (.tv (I (w (0 - w (q + 1))))) else .ret (.tv (I (w (q + 1))))) else (bif neg then .ret (.tv (I (w (0 - q)))) else .ret (.tv (I q)))
theorem e40 (G : Tbl) (q r d : Int) (neg : Bool) (m : Int) : runF G [] Try.f40 200 (bod Try.f40) (entry [I q, I r, I d, B neg, I m]) =
  bif m == 0 then fin40 q neg (bif neg then decide (r > 0) else false)
  else bif m == 1 then fin40 q neg (bif !neg then decide (r > 0) else false)
  else bif m == 3 then fin40 q neg (decide (r > 0))
  else bif m == 4 then fin40 q neg (decide (r ≥ w (d - r)))
  else bif m == 5 then fin40 q neg (bif decide (r > w (d - r)) then true else (bif r == w (d - r) then q.tmod 2 == 1 else false))
  else (bif neg then .ret (.tv (I (w (0 - q)))) else .ret (.tv (I q))) := by kernel_rfl
theorem e36 (G : Tbl) (n : Int) (neg : Bool) : runF G [] Try.f36 200 (bod Try.f36) (entry [U n, B neg]) =
  bif neg then .ret (.tv (I (w (0 - w n)))) else .ret (.tv (I (w n))) := by kernel_rfl
theorem e39 (G : Tbl) (n : Int) : runF G [] Try.f39 200 (bod Try.f39) (entry [I n]) =
  bif decide (n < 0) then .ret (.tv (I (w (0 - n)))) else .ret (.tv (I n)) := by kernel_rfl
theorem e27 (G : Tbl) (n d : Int) : runF G [] Try.f27 200 (bod Try.f27) (entry [I n, I d]) =
  bif !(d == 0) then bif !(d == 0) then
    bif decide (n.tmod d < 0) then .ret (.tup [.tv (I (w (w (n.tdiv d) - 1))), .tv (I (w (n.tmod d + d)))]) else .ret (.tup [.tv (I (w (n.tdiv d))), .tv (I (n.tmod d))])
  else .fail else .fail := by kernel_rfl
def fin28 (f : Int) (up : Bool) : Leaf := bif up then .ret (.tv (I (w (f + 1)))) else .ret (.tv (I f))
def up28 (f : Int) (m : Int) : Bool := bif (bif m == 1 then true else (bif m == 2 then decide (f < 0) else false)) then true else (bif m == 3 then decide (f ≥ 0) else false)
theorem e28 (G : Tbl) (f r d m : Int) : runF G [] Try.f28 200 (bod Try.f28) (entry [I f, I r, I d, I m]) =
  bif r == 0 then .ret (.tv (I f))
  else bif (bif m == 4 then true else m == 5) then
    bif r == w (d - r) then fin28 f (bif (bif m == 4 then decide (f ≥ 0) else false) then true else (bif m == 5 then !(f.tmod 2 == 0) else false))
    else fin28 f (decide (r > w (d - r)))
  else fin28 f (up28 f m) := by kernel_rfl
end Go.Lift.L03
