/- A part of the proof that the law returns true for every input: no condition. -/
import Derived.Test.YtcaeapfbmhmmkaaA5
set_option maxRecDepth 100000
set_option linter.unusedVariables false
namespace Go.Lift.L14
open Go.Lift Go.Proofs

/-! the reference: best -/
def G14 (G : Tbl) (n : Nat) : Tbl := (((G.add 19 Fkids).add 20 (Frout n)).add 14 (Fbest n)).add 17 (Fchl n)

noncomputable def L14 : Leaf := runF (Tbl.none.add 19 Fkids) [0,1,2,9,10,11] Try.f14 100 (bod Try.f14) (entry [LI [], LI [], LB [], I 0])
def S14 (p q : List Int) (b : List Bool) (l : List Int) (i : Int) (o : List Int) : St :=
  ⟨[(0, .tv (LI p)), (1, .tv (LI q)), (2, .tv (LB b)), (9, .ref 9), (10, .ref 10), (11, .tv (I i))], [(9, .vec (.int .i64) l), (10, .vec (.int .i64) o)]⟩

theorem e14 (G : Tbl) (n : Nat) (p q : List Int) (b : List Bool) (a : Int) : runF (G14 G n) [0,1,2,9,10,11] Try.f14 100 (bod Try.f14) (entry [LI p, LI q, LB b, I a]) =
  bif lenOK p.length then .loop L14.body L14.kont (S14 p q b (kids p a) 0 []) else .fail := by kernel_rfl

noncomputable def X14 (p q : List Int) (b : List Bool) (l : List Int) (i : Int) (k : Int) (o : List Int) : Leaf :=
  bif inB i l.length || !!(decide ((o.length : Int) = 0)) then
  bif inB k q.length || !!(decide ((o.length : Int) = 0)) then
    bif inB 0 o.length || !!(decide ((o.length : Int) = 0)) then
      bif inB (o.getD 0 0) q.length || !!(decide ((o.length : Int) = 0)) then
        bif (bif decide ((o.length : Int) = 0) then true else decide (q.getD k.toNat 0 = q.getD (o.getD 0 0).toNat 0)) then
          bif inB i l.length then
          bif lenOK (o.length + 1) then .loop L14.body L14.kont (S14 p q b l (IntKind.wrap .i64 (i + 1)) (o ++ [k])) else .fail
          else .fail
        else .loop L14.body L14.kont (S14 p q b l (IntKind.wrap .i64 (i + 1)) o)
      else .fail
    else .fail
  else .fail
  else .fail

theorem i14 (G : Tbl) (n : Nat) (p q : List Int) (b : List Bool) (l : List Int) (i : Int) (o : List Int) : runF (G14 G n) [0,1,2,9,10,11] Try.f14 100 L14.round (S14 p q b l i o) =
  bif decide (i < (l.length : Int)) then
    bif inB i l.length then
      bif good p q b && inR p (l.getD i.toNat 0) n && decide (0 ≤ l.getD i.toNat 0) then
        bif decide (out p q b (l.getD i.toNat 0) = -1) then .loop L14.body L14.kont (S14 p q b l (IntKind.wrap .i64 (i + 1)) o)
        else
          bif inB i l.length || !(decide ((o.length : Int) > 0)) then
          bif inB (l.getD i.toNat 0) q.length || !(decide ((o.length : Int) > 0)) then
            bif inB 0 o.length || !(decide ((o.length : Int) > 0)) then
              bif inB (o.getD 0 0) q.length || !(decide ((o.length : Int) > 0)) then
                bif (bif decide ((o.length : Int) > 0) then decide (q.getD (l.getD i.toNat 0).toNat 0 > q.getD (o.getD 0 0).toNat 0) else false) then
                  X14 p q b l i (l.getD i.toNat 0) []
                else X14 p q b l i (l.getD i.toNat 0) o
              else .fail
            else .fail
          else .fail
          else .fail
      else .fail
    else .fail
  else .ret (.own (.int .i64) o) := by kernel_rfl

theorem e17 (G : Tbl) (n : Nat) (p q : List Int) (b : List Bool) (a : Int) : runF ((G14 G n).add 14 (Fbest (n + 1))) [] Try.f17 100 (bod Try.f17) (entry [LI p, LI q, LB b, I a]) =
  bif good p q b && inR p a (n + 1) then
    bif decide (((con p q b a).length : Int) = 0) then .ret (.tv (I (-1)))
    else bif decide (((con p q b a).length : Int) > 1) then .ret (.tv (I (-2)))
    else
      bif inB 0 (con p q b a).length then
        bif good p q b && inR p ((con p q b a).getD 0 0) n && decide (0 ≤ (con p q b a).getD 0 0) then .ret (.tv (I (out p q b ((con p q b a).getD 0 0)))) else .fail
      else .fail
  else .fail := by kernel_rfl

theorem e20 (G : Tbl) (n : Nat) (p q : List Int) (b : List Bool) (a : Int) : runF (((G14 G n).add 14 (Fbest (n + 1))).add 17 (Fchl (n + 1))) [] Try.f20 100 (bod Try.f20) (entry [LI p, LI q, LB b, I a]) =
  bif good p q b && inR p a (n + 1) then
    bif inB a b.length || !(decide (chl p q b a = -1)) then
      bif (bif decide (chl p q b a = -1) then b.getD a.toNat false else false) then .ret (.tv (I a)) else .ret (.tv (I (chl p q b a)))
    else .fail
  else .fail := by kernel_rfl

/-! select, conflicts -/
def sel (p q : List Int) (b : List Bool) : Int := bif good p q b then out p q b (-1) else -1
def Fsel : List TD → Option (Bool × SV)
  | [⟨.slice (.int .i64), p⟩, ⟨.slice (.int .i64), q⟩, ⟨.slice .bool, b⟩] => some (true, .tv (I (sel p q b)))
  | _ => none

theorem e9 (G : Tbl) (p q : List Int) (b : List Bool) : runF ((G13 G 10).add 11 Fvalid) [] Try.f9 100 (bod Try.f9) (entry [LI p, LI q, LB b]) =
  bif (bif !(valid p q == 0) then true else !((b.length : Int) == (p.length : Int))) then .ret (.tv (I (-1)))
  else bif good p q b && inR p (-1) 10 then .ret (.tv (I (out p q b (-1)))) else .fail := by kernel_rfl
theorem e10 (G : Tbl) (p q : List Int) (b : List Bool) : runF ((G14 G 10).add 16 Fvalid) [] Try.f10 100 (bod Try.f10) (entry [LI p, LI q, LB b]) =
  bif (bif !(valid p q == 0) then true else !((b.length : Int) == (p.length : Int))) then .ret (.tv (I (-1)))
  else bif good p q b && inR p (-1) 10 then .ret (.tv (I (chl p q b (-1)))) else .fail := by kernel_rfl

def rConf (x y : Int) (c : Bool) : SV := .tup [.tv (I x), .tv (I y), .tv (B c)]

noncomputable def L7 : Leaf := runF (((G13 Tbl.none 10).add 11 Fvalid).add 9 Fsel) [9,10] Try.f7 100 (bod Try.f7) (entry [LI [-1,-1], LI [0,0], LB [true, true]])
def S7 (p q : List Int) (b : List Bool) (l : List Int) : St := ⟨[(9, .ptr 9 none []), (10, .ref 10)], [(9, .var (TR p q b)), (10, .vec (.int .i64) l)]⟩
theorem e7 (G : Tbl) (p q : List Int) (b : List Bool) : runF (((G13 G 10).add 11 Fvalid).add 9 Fsel) [9,10] Try.f7 100 (bod Try.f7) (entry [LI p, LI q, LB b]) =
  bif !(sel p q b == -2) then .ret (rConf 0 0 false) else bif good p q b && inR p (-1) 10 then .loop L7.body L7.kont (S7 p q b (con p q b (-1))) else .fail := by kernel_rfl
theorem i7 (G : Tbl) (p q : List Int) (b : List Bool) (l : List Int) : runF (((G13 G 10).add 11 Fvalid).add 9 Fsel) [9,10] Try.f7 100 L7.round (S7 p q b l) =
  bif decide ((l.length : Int) = 1) then
    bif inB 0 l.length then
      bif good p q b && inR p (l.getD 0 0) 10 then .loop L7.body L7.kont (S7 p q b (con p q b (l.getD 0 0))) else .fail
    else .fail
  else bif decide ((l.length : Int) < 2) then .ret (rConf 0 0 false)
  else bif inB 0 l.length then bif inB 1 l.length then .ret (rConf (l.getD 0 0) (l.getD 1 0) true) else .fail else .fail := by kernel_rfl

noncomputable def L8 : Leaf := runF (((G14 Tbl.none 10).add 16 Fvalid).add 10 Fsel) [0,1,2,9] Try.f8 100 (bod Try.f8) (entry [LI [-1,-1], LI [0,0], LB [true, true]])
def S8 (p q : List Int) (b : List Bool) (a : Int) : St := ⟨[(0, .tv (LI p)), (1, .tv (LI q)), (2, .tv (LB b)), (9, .tv (I a))], []⟩
theorem e8 (G : Tbl) (p q : List Int) (b : List Bool) : runF (((G14 G 10).add 16 Fvalid).add 10 Fsel) [0,1,2,9] Try.f8 100 (bod Try.f8) (entry [LI p, LI q, LB b]) =
  bif !(sel p q b == -2) then .ret (rConf 0 0 false) else .loop L8.body L8.kont (S8 p q b (-1)) := by kernel_rfl
theorem i8 (G : Tbl) (p q : List Int) (b : List Bool) (a : Int) : runF (((G14 G 10).add 16 Fvalid).add 10 Fsel) [0,1,2,9] Try.f8 100 L8.round (S8 p q b a) =
  bif good p q b && inR p a 10 then
    bif decide (((con p q b a).length : Int) > 1) then
      bif inB 0 (con p q b a).length then bif inB 1 (con p q b a).length then .ret (rConf ((con p q b a).getD 0 0) ((con p q b a).getD 1 0) true) else .fail else .fail
    else bif inB 0 (con p q b a).length then .loop L8.body L8.kont (S8 p q b ((con p q b a).getD 0 0)) else .fail
  else .fail := by kernel_rfl
end Go.Lift.L14
