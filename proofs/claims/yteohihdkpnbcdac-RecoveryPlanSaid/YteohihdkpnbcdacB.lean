/- A part of the proof that the law returns true for every input: no condition. -/
import Derived.Test.YteohihdkpnbcdacE2
import Derived.Test.YteohihdkpnbcdacProg
set_option maxRecDepth 100000
namespace Go.Lift.L39
open Go.Lift Go.Proofs
def tbl : List (Nat × Ty) := [
  (2, .int .i64),
  (3, .int .i64),
  (4, .bool),
  (5, .int .u8),
  (9, .str),
  (12, .int .u64),
  (21, .int .i32),
  (22, .slice (.int .i64)),
  (23, .cons (.int .i64) (.cons (.slice (.int .i64)) (.nil))),
  (24, .cons (.int .i64) (.cons (.slice (.int .i64)) (.nil))),
  (25, .cons (.int .i64) (.cons (.int .i64) (.cons (.int .i64) (.cons (.int .i64) (.cons (.int .i64) (.cons (.int .i64) (.cons (.int .i64) (.cons (.cons (.int .i64) (.cons (.slice (.int .i64)) (.nil))) (.nil))))))))),
  (26, .cons (.int .i64) (.cons (.int .i64) (.cons (.int .i64) (.cons (.int .i64) (.cons (.int .i64) (.cons (.int .i64) (.cons (.int .i64) (.cons (.cons (.int .i64) (.cons (.slice (.int .i64)) (.nil))) (.nil))))))))),
  (30, .slice (.cons (.int .i64) (.cons (.int .i64) (.cons (.int .i64) (.cons (.int .i64) (.nil)))))),
  (31, .cons .nil (.cons (.int .i64) (.cons (.int .i64) (.nil)))),
  (34, .slice (.cons (.int .i64) (.cons (.int .i64) (.cons (.int .i64) (.cons (.int .i64) (.nil)))))),
  (39, .cons (.int .i64) (.cons (.int .i64) (.cons (.int .i64) (.cons (.int .i64) (.nil))))),
  (40, .cons (.int .i64) (.cons (.int .i64) (.cons (.int .i64) (.cons (.int .i64) (.nil))))),
  (42, .cons (.int .i64) (.cons (.int .i64) (.cons (.int .i64) (.cons (.int .i64) (.nil))))),
  (43, .cons (.int .i64) (.cons (.int .i64) (.cons (.int .i64) (.cons (.int .i64) (.nil))))),
  (46, .int .i64),
  (55, .int .u64),
  (66, .int .u64),
  (77, .int .u32)]
def T (t : Nat) : Option Ty := look t tbl
theorem typesB : (tbl.all fun p => chk Try.prog p.2 p.1) = true := by kernel_rfl
theorem types (ty : Nat) (t : Ty) (h : T ty = some t) : chk Try.prog t ty = true := types_of typesB ty t h
theorem env0 : Env Try.prog T Tbl.none := Env.start types (by kernel_rfl)
abbrev U (n : Int) : TD := ⟨.int .u64, n⟩
abbrev w (n : Int) : Int := IntKind.wrap .i64 n
abbrev w64 (n : Int) : Int := IntKind.wrap .u64 n
abbrev runF (G : Tbl) (ks : List Nat) (f : Func) (n : Nat) (todo : List Item) (st : St) : Leaf := run G T f.ntmps f.results.toList (fun _ => ks) n todo st
abbrev runL (G : Tbl) (kl : List (Nat × List Nat)) (f : Func) (n : Nat) (todo : List Item) (st : St) : Leaf := run G T f.ntmps f.results.toList (kf kl) n todo st
abbrev Hs (f : Nat) (F : List TD → Option (Bool × SV)) : Prop := Has Try.prog T f F
end Go.Lift.L39
