/- A part of the proof that the law returns true for every input: no condition. -/
import Derived.Test.YtcaeapfbmhmmkaaA13
set_option maxRecDepth 100000
set_option linter.unusedVariables false
set_option linter.unusedSimpArgs false
namespace Go.Lift.L14
open Go.Lift Go.Proofs

/-! the law RuletreeExceptions: the walk -/
noncomputable def L5 : Leaf := runF GB [0,1,7,8,9,10] Try.f5 200 (bod Try.f5) (entry [LI [-1], LI [0], ⟨.int .u8, 0⟩])
def S5 (p q l : List Int) (x i : Int) (o : List Bool) : St :=
  ⟨[(0, .tv (LI p)), (1, .tv (LI q)), (7, .ref 7), (8, .tv (I x)), (9, .ref 9), (10, .tv (I i))], [(7, .vec .bool o), (9, .vec (.int .i64) l)]⟩

def rest (p : List Int) (a : Int) : Int := (IntKind.wrap .i64 a).tmod p.length

theorem e5 (p q : List Int) (a : Int) : runF GB [0,1,7,8,9,10] Try.f5 200 (bod Try.f5) (entry [LI p, LI q, ⟨.int .u8, a⟩]) =
  bif (bif (bif (bif decide ((p.length : Int) > 100) then true else decide ((q.length : Int) > 100)) then true else (p.length : Int) == 0) then true else !(valid p q == 0)) then .ret (.tv (B true))
  else bif decide (0 ≤ (p.length : Int)) && decide ((p.length : Int) ≤ (p.length : Int)) && lenOK (p.length : Int).toNat then
    bif !((p.length : Int) == 0) then
      bif lenOK p.length then .loop L5.body L5.kont (S5 p q (path p (rest p a)) (rest p a) 0 (zeros .bool (p.length : Int).toNat)) else .fail
    else .fail
  else .fail := by kernel_rfl

theorem i5 (p q l : List Int) (x i : Int) (o : List Bool) : runF GB [0,1,7,8,9,10] Try.f5 200 L5.round (S5 p q l x i o) =
  bif decide (i < (l.length : Int)) then
    bif inB i l.length then
      bif inB i l.length || !!(decide (l.getD i.toNat 0 < 0)) then
        bif (bif decide (l.getD i.toNat 0 < 0) then true else decide (l.getD i.toNat 0 ≥ (o.length : Int))) then .ret (.tv (B false))
        else bif inB i l.length then
          bif inB (l.getD i.toNat 0) o.length then
            .loop L5.body L5.kont (S5 p q l x (IntKind.wrap .i64 (i + 1)) (o.set (l.getD i.toNat 0).toNat true))
          else .fail
        else .fail
      else .fail
    else .fail
  else bif inB 0 l.length || !(decide ((l.length : Int) > 0)) then
    .ret (.tv (B (bif (bif (bif decide ((l.length : Int) > 0) then l.getD 0 0 == x else false) then sel p q o == x else false) then true else false)))
  else .fail := by kernel_rfl
end Go.Lift.L14
