/- A part of the proof that the law returns true for every input: no condition. -/
import Derived.Test.YtcaeapfbmhmmkaaA4
set_option maxRecDepth 100000
set_option linter.unusedVariables false
namespace Go.Lift.L14
open Go.Lift Go.Proofs

/-- the rules are in order, and the list of answers is as long -/
def good (p q : List Int) (b : List Bool) : Bool := decide (valid p q = 0) && decide (b.length = p.length)
def inR (p : List Int) (a : Int) (n : Nat) : Bool := decide (-1 ≤ a) && decide (a < p.length) && decide ((p.length : Int) - a ≤ n)

def chl (p q : List Int) (b : List Bool) (a : Int) : Int :=
  match con p q b a with
  | [] => -1
  | [k] => out p q b k
  | _ => -2

def Fcon (n : Nat) : List TD → Option (Bool × SV)
  | [⟨.cons (.slice (.int .i64)) (.cons (.slice (.int .i64)) (.cons (.slice .bool) .nil)), (p, q, b, ())⟩, ⟨.int .i64, a⟩] => some (good p q b && inR p a n, .own (.int .i64) (con p q b a))
  | _ => none
def Fout (n : Nat) : List TD → Option (Bool × SV)
  | [⟨.cons (.slice (.int .i64)) (.cons (.slice (.int .i64)) (.cons (.slice .bool) .nil)), (p, q, b, ())⟩, ⟨.int .i64, a⟩] => some (good p q b && inR p a n, .tv (I (out p q b a)))
  | _ => none
def Fbest (n : Nat) : List TD → Option (Bool × SV)
  | [⟨.slice (.int .i64), p⟩, ⟨.slice (.int .i64), q⟩, ⟨.slice .bool, b⟩, ⟨.int .i64, a⟩] => some (good p q b && inR p a n, .own (.int .i64) (con p q b a))
  | _ => none
def Fchl (n : Nat) : List TD → Option (Bool × SV)
  | [⟨.slice (.int .i64), p⟩, ⟨.slice (.int .i64), q⟩, ⟨.slice .bool, b⟩, ⟨.int .i64, a⟩] => some (good p q b && inR p a n, .tv (I (chl p q b a)))
  | _ => none
def Frout (n : Nat) : List TD → Option (Bool × SV)
  | [⟨.slice (.int .i64), p⟩, ⟨.slice (.int .i64), q⟩, ⟨.slice .bool, b⟩, ⟨.int .i64, a⟩] => some (good p q b && inR p a n && decide (0 ≤ a), .tv (I (out p q b a)))
  | _ => none

/-! contenders -/
noncomputable def L13 : Leaf := runF (Tbl.none.add 18 Fkids) [2,5,11,12,13] Try.f13 100 (bod Try.f13) (entry [TR [] [] [], I 0])
def S13 (p q : List Int) (b : List Bool) (l : List Int) (i : Int) (o : List Int) : St :=
  ⟨[(2, .ptr 2 none []), (5, .ref 5), (11, .ref 11), (12, .tv (I l.length)), (13, .tv (I i))], [(2, .var (TR p q b)), (5, .vec (.int .i64) o), (11, .vec (.int .i64) l)]⟩

def G13 (G : Tbl) (n : Nat) : Tbl := ((G.add 18 Fkids).add 15 (Fout n)).add 13 (Fcon n)

theorem e13 (G : Tbl) (n : Nat) (p q : List Int) (b : List Bool) (a : Int) : runF (G13 G n) [2,5,11,12,13] Try.f13 100 (bod Try.f13) (entry [TR p q b, I a]) =
  bif lenOK p.length then .loop L13.body L13.kont (S13 p q b (kids p a) 0 []) else .fail := by kernel_rfl

noncomputable def X13 (p q : List Int) (b : List Bool) (l : List Int) (i : Int) (k : Int) (o : List Int) : Leaf :=
  bif inB k q.length || !!(decide ((o.length : Int) = 0)) then
    bif inB 0 o.length || !!(decide ((o.length : Int) = 0)) then
      bif inB (o.getD 0 0) q.length || !!(decide ((o.length : Int) = 0)) then
        bif (bif decide ((o.length : Int) = 0) then true else decide (q.getD k.toNat 0 = q.getD (o.getD 0 0).toNat 0)) then
          bif lenOK (o.length + 1) then .loop L13.body L13.kont (S13 p q b l (IntKind.wrap .i64 (i + 1)) (o ++ [k])) else .fail
        else .loop L13.body L13.kont (S13 p q b l (IntKind.wrap .i64 (i + 1)) o)
      else .fail
    else .fail
  else .fail

theorem i13 (G : Tbl) (n : Nat) (p q : List Int) (b : List Bool) (l : List Int) (i : Int) (o : List Int) : runF (G13 G n) [2,5,11,12,13] Try.f13 100 L13.round (S13 p q b l i o) =
  bif decide (i < (l.length : Int)) then
    bif inB i l.length then
      bif good p q b && inR p (l.getD i.toNat 0) n then
        bif decide (out p q b (l.getD i.toNat 0) = -1) then .loop L13.body L13.kont (S13 p q b l (IntKind.wrap .i64 (i + 1)) o)
        else
          bif inB (l.getD i.toNat 0) q.length || !(decide ((o.length : Int) > 0)) then
            bif inB 0 o.length || !(decide ((o.length : Int) > 0)) then
              bif inB (o.getD 0 0) q.length || !(decide ((o.length : Int) > 0)) then
                bif (bif decide ((o.length : Int) > 0) then decide (q.getD (l.getD i.toNat 0).toNat 0 > q.getD (o.getD 0 0).toNat 0) else false) then
                  X13 p q b l i (l.getD i.toNat 0) []
                else X13 p q b l i (l.getD i.toNat 0) o
              else .fail
            else .fail
          else .fail
      else .fail
    else .fail
  else .ret (.own (.int .i64) o) := by kernel_rfl

/-! outcome -/
theorem e15 (G : Tbl) (n : Nat) (p q : List Int) (b : List Bool) (a : Int) : runF ((G13 G n).add 13 (Fcon (n + 1))) [] Try.f15 100 (bod Try.f15) (entry [TR p q b, I a]) =
  bif good p q b && inR p a (n + 1) then
    bif decide (((con p q b a).length : Int) > 1) then .ret (.tv (I (-2)))
    else bif decide (((con p q b a).length : Int) = 1) then
      bif inB 0 (con p q b a).length then
        bif good p q b && inR p ((con p q b a).getD 0 0) n then .ret (.tv (I (out p q b ((con p q b a).getD 0 0)))) else .fail
      else .fail
    else
      bif inB a b.length || !(decide (a ≥ 0)) then
        bif (bif decide (a ≥ 0) then b.getD a.toNat false else false) then .ret (.tv (I a)) else .ret (.tv (I (-1)))
      else .fail
  else .fail := by kernel_rfl

end Go.Lift.L14
