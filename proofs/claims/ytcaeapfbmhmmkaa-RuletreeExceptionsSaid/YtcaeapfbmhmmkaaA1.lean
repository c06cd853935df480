/- A part of the proof that the law returns true for every input: no condition. -/
import Derived.Test.YtcaeapfbmhmmkaaE28
import Derived.Test.YtcaeapfbmhmmkaaProg
set_option maxRecDepth 100000
namespace Go.Lift.L14
open Go.Lift Go.Proofs
def tbl : List (Nat × Ty) := [
  (3, .int .i64),
  (4, .bool),
  (5, .int .u8),
  (22, .slice (.int .i64)),
  (23, .slice (.bool)),
  (30, .int .i64),
  (35, .cons (.slice (.int .i64)) (.cons (.slice (.int .i64)) (.cons (.slice (.bool)) (.nil))))]
def T (t : Nat) : Option Ty := look t tbl
theorem typesB : (tbl.all fun p => chk Try.prog p.2 p.1) = true := by kernel_rfl
theorem types (ty : Nat) (t : Ty) (h : T ty = some t) : chk Try.prog t ty = true := types_of typesB ty t h
theorem env0 : Env Try.prog T Tbl.none := Env.start types (by kernel_rfl)
abbrev TR (p q : List Int) (a : List Bool) : TD := ⟨.cons (.slice (.int .i64)) (.cons (.slice (.int .i64)) (.cons (.slice .bool) .nil)), (p, q, a, ())⟩
abbrev runF (G : Tbl) (ks : List Nat) (f : Func) (n : Nat) (todo : List Item) (st : St) : Leaf := run G T f.ntmps f.results.toList (fun _ => ks) n todo st
end Go.Lift.L14
