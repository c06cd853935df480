/- A part of the proof that the law returns true for every input: no condition. -/
import Derived.Test.YtcaeapfbmhmmkaaA1
namespace Go.Lift.L14
open Go.Lift

/-! What the functions compute -/
def kidsFrom (a : Int) : List Int → Nat → List Int
  | [], _ => []
  | x :: r, i => bif decide (x = a) then (i : Int) :: kidsFrom a r (i + 1) else kidsFrom a r (i + 1)
def kids (p : List Int) (a : Int) : List Int := kidsFrom a p 0

def at' (l : List Int) (i : Int) : Int := l.getD i.toNat 0

/-- Validate, from rule i on -/
def validFrom (p q : List Int) : Nat → Nat → Int
  | 0, _ => 0
  | n + 1, i =>
    bif decide (p.getD i 0 < -1) || decide (p.getD i 0 ≥ (i : Int)) then 9
    else bif decide (q.getD i 0 < 0) || decide (q.getD i 0 > 9) then 3
    else validFrom p q n (i + 1)
def valid (p q : List Int) : Int :=
  bif !decide (p.length = q.length) then 2 else bif decide (p.length > 8) then 4 else validFrom p q p.length 0

def contend (oc : Int → Int) (q : List Int) : List Int → List Int → List Int
  | [], o => o
  | k :: r, o =>
    bif decide (oc k = -1) then contend oc q r o
    else
      let o' := bif decide ((o.length : Int) > 0) && decide (at' q k > at' q (o.getD 0 0)) then [] else o
      bif decide ((o'.length : Int) = 0) || decide (at' q k = at' q (o'.getD 0 0)) then contend oc q r (o' ++ [k]) else contend oc q r o'

def outF (p q : List Int) (b : List Bool) : Nat → Int → Int
  | 0, _ => -1
  | n + 1, a =>
    match contend (outF p q b n) q (kids p a) [] with
    | [] => bif decide (a ≥ 0) && b.getD a.toNat false then a else -1
    | [k] => outF p q b n k
    | _ => -2
def out (p q : List Int) (b : List Bool) (a : Int) : Int := outF p q b 10 a
def con (p q : List Int) (b : List Bool) (a : Int) : List Int := contend (out p q b) q (kids p a) []

end Go.Lift.L14
