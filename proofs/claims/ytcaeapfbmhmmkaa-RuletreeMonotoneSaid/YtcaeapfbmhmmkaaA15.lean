/- A part of the proof that the law returns true for every input: no condition. -/
import Derived.Test.YtcaeapfbmhmmkaaA14
set_option maxRecDepth 100000
set_option linter.unusedVariables false
set_option linter.unusedSimpArgs false
namespace Go.Lift.L14
open Go.Lift Go.Proofs

/-! the law RuletreeMonotone: the walk -/
noncomputable def L4 : Leaf := runF GB [0,1,2,3,9,10,11] Try.f4 200 (bod Try.f4) (entry [LI [-1], LI [0], LB [true], LB []])
def S4 (p q : List Int) (b f : List Bool) (s i : Int) (o : List Bool) : St :=
  ⟨[(0, .tv (LI p)), (1, .tv (LI q)), (2, .tv (LB b)), (3, .tv (LB f)), (9, .tv (I s)), (10, .ref 10), (11, .tv (I i))], [(10, .vec .bool o)]⟩

theorem e4 (p q : List Int) (b f : List Bool) : runF GB [0,1,2,3,9,10,11] Try.f4 200 (bod Try.f4) (entry [LI p, LI q, LB b, LB f]) =
  bif (bif (bif (bif decide ((p.length : Int) > 100) then true else decide ((q.length : Int) > 100)) then true else decide ((b.length : Int) > 100)) then true else decide ((f.length : Int) > 100)) then .ret (.tv (B true))
  else bif (bif sel p q b == -1 then true else sel p q b == -2) then .ret (.tv (B true))
  else bif inB (sel p q b) b.length || !!(bif decide (sel p q b < 0) then true else decide (sel p q b ≥ (b.length : Int))) then
    bif (bif (bif decide (sel p q b < 0) then true else decide (sel p q b ≥ (b.length : Int))) then true else !(b.getD (sel p q b).toNat false)) then .ret (.tv (B false))
    else .loop L4.body L4.kont (S4 p q b f (sel p q b) 0 [])
  else .fail := by kernel_rfl

def keepB (b f : List Bool) (s i : Int) : Bool := bif b.getD i.toNat false then (bif (bif i == s then true else decide (i ≥ (f.length : Int))) then true else !(f.getD i.toNat false)) else false

theorem i4 (p q : List Int) (b f : List Bool) (s i : Int) (o : List Bool) : runF GB [0,1,2,3,9,10,11] Try.f4 200 L4.round (S4 p q b f s i o) =
  bif decide (i < (b.length : Int)) then
    bif inB i b.length then
      bif inB i f.length || !(b.getD i.toNat false && !(bif i == s then true else decide (i ≥ (f.length : Int)))) then
        bif lenOK (o.length + 1) then .loop L4.body L4.kont (S4 p q b f s (IntKind.wrap .i64 (i + 1)) (o ++ [keepB b f s i])) else .fail
      else .fail
    else .fail
  else .ret (.tv (B (bif sel p q o == s then true else false))) := by kernel_rfl
end Go.Lift.L14
