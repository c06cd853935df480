/- A part of the proof that the law returns true for every input: no condition. -/
import Derived.Test.YteohihdkpnbcdadE2
import Derived.Test.YteohihdkpnbcdadProg
set_option maxRecDepth 100000
namespace Go.Lift.L40
open Go.Lift Go.Proofs
def tbl : List (Nat × Ty) := [
  (2, .int .i64),
  (3, .int .i64),
  (4, .bool),
  (5, .int .u8),
  (9, .str),
  (12, .int .u64),
  (21, .int .i32),
  (22, .slice (.cons (.int .i64) (.cons (.int .i64) (.cons (.int .i64) (.cons (.int .i64) (.nil)))))),
  (23, .slice (.int .i64)),
  (24, .cons (.int .i64) (.cons (.slice (.int .i64)) (.nil))),
  (25, .cons (.int .i64) (.cons (.slice (.int .i64)) (.nil))),
  (26, .cons (.int .i64) (.cons (.int .i64) (.cons (.int .i64) (.cons (.int .i64) (.cons (.int .i64) (.cons (.int .i64) (.cons (.int .i64) (.cons (.cons (.int .i64) (.cons (.slice (.int .i64)) (.nil))) (.nil))))))))),
  (27, .cons (.int .i64) (.cons (.int .i64) (.cons (.int .i64) (.cons (.int .i64) (.cons (.int .i64) (.cons (.int .i64) (.cons (.int .i64) (.cons (.cons (.int .i64) (.cons (.slice (.int .i64)) (.nil))) (.nil))))))))),
  (32, .slice (.cons (.int .i64) (.cons (.int .i64) (.cons (.int .i64) (.cons (.int .i64) (.nil)))))),
  (42, .cons (.int .i64) (.cons (.int .i64) (.cons (.int .i64) (.cons (.int .i64) (.nil))))),
  (43, .cons (.int .i64) (.cons (.int .i64) (.cons (.int .i64) (.cons (.int .i64) (.nil))))),
  (44, .cons (.int .i64) (.cons (.int .i64) (.cons (.int .i64) (.cons (.int .i64) (.nil))))),
  (45, .cons (.int .i64) (.cons (.int .i64) (.cons (.int .i64) (.cons (.int .i64) (.nil))))),
  (50, .int .i64),
  (53, .slice (.cons (.cons (.int .i64) (.cons (.int .i64) (.cons (.int .i64) (.cons (.slice (.cons (.int .i64) (.cons (.int .i64) (.cons (.int .i64) (.cons (.cons (.int .i64) (.cons (.int .i64) (.cons (.int .i64) (.nil)))) (.cons (.cons (.int .i64) (.cons (.int .i64) (.nil))) (.cons (.int .i64) (.nil)))))))) (.nil))))) (.cons (.slice (.cons (.int .i64) (.cons (.int .i64) (.cons (.int .i64) (.cons (.int .i64) (.nil)))))) (.cons (.slice (.cons (.int .i64) (.cons (.int .i64) (.cons (.int .i64) (.cons (.int .i64) (.cons (.int .i64) (.cons (.int .i64) (.cons (.int .i64) (.nil))))))))) (.cons (.int .i64) (.cons (.int .i64) (.nil))))))),
  (54, .slice (.cons (.int .i64) (.cons (.int .i64) (.cons (.int .i64) (.cons (.cons (.int .i64) (.cons (.int .i64) (.cons (.int .i64) (.nil)))) (.cons (.cons (.int .i64) (.cons (.int .i64) (.nil))) (.cons (.int .i64) (.nil)))))))),
  (55, .cons (.int .i64) (.cons (.int .i64) (.cons (.int .i64) (.cons (.slice (.cons (.int .i64) (.cons (.int .i64) (.cons (.int .i64) (.cons (.cons (.int .i64) (.cons (.int .i64) (.cons (.int .i64) (.nil)))) (.cons (.cons (.int .i64) (.cons (.int .i64) (.nil))) (.cons (.int .i64) (.nil)))))))) (.nil))))),
  (56, .cons (.int .i64) (.cons (.int .i64) (.cons (.int .i64) (.cons (.slice (.cons (.int .i64) (.cons (.int .i64) (.cons (.int .i64) (.cons (.cons (.int .i64) (.cons (.int .i64) (.cons (.int .i64) (.nil)))) (.cons (.cons (.int .i64) (.cons (.int .i64) (.nil))) (.cons (.int .i64) (.nil)))))))) (.nil))))),
  (57, .slice (.cons (.int .i64) (.cons (.int .i64) (.cons (.int .i64) (.cons (.int .i64) (.cons (.int .i64) (.cons (.int .i64) (.cons (.int .i64) (.nil))))))))),
  (58, .cons (.cons (.int .i64) (.cons (.int .i64) (.cons (.int .i64) (.cons (.slice (.cons (.int .i64) (.cons (.int .i64) (.cons (.int .i64) (.cons (.cons (.int .i64) (.cons (.int .i64) (.cons (.int .i64) (.nil)))) (.cons (.cons (.int .i64) (.cons (.int .i64) (.nil))) (.cons (.int .i64) (.nil)))))))) (.nil))))) (.cons (.slice (.cons (.int .i64) (.cons (.int .i64) (.cons (.int .i64) (.cons (.int .i64) (.nil)))))) (.cons (.slice (.cons (.int .i64) (.cons (.int .i64) (.cons (.int .i64) (.cons (.int .i64) (.cons (.int .i64) (.cons (.int .i64) (.cons (.int .i64) (.nil))))))))) (.cons (.int .i64) (.cons (.int .i64) (.nil)))))),
  (59, .cons (.cons (.int .i64) (.cons (.int .i64) (.cons (.int .i64) (.cons (.slice (.cons (.int .i64) (.cons (.int .i64) (.cons (.int .i64) (.cons (.cons (.int .i64) (.cons (.int .i64) (.cons (.int .i64) (.nil)))) (.cons (.cons (.int .i64) (.cons (.int .i64) (.nil))) (.cons (.int .i64) (.nil)))))))) (.nil))))) (.cons (.slice (.cons (.int .i64) (.cons (.int .i64) (.cons (.int .i64) (.cons (.int .i64) (.nil)))))) (.cons (.slice (.cons (.int .i64) (.cons (.int .i64) (.cons (.int .i64) (.cons (.int .i64) (.cons (.int .i64) (.cons (.int .i64) (.cons (.int .i64) (.nil))))))))) (.cons (.int .i64) (.cons (.int .i64) (.nil)))))),
  (61, .slice (.slice (.int .i64))),
  (70, .int .u64),
  (80, .int .u64),
  (91, .int .u32),
  (100, .cons (.int .i64) (.cons (.int .i64) (.cons (.int .i64) (.nil)))),
  (101, .cons (.int .i64) (.cons (.int .i64) (.cons (.int .i64) (.nil)))),
  (102, .cons (.int .i64) (.cons (.int .i64) (.nil))),
  (103, .cons (.int .i64) (.cons (.int .i64) (.nil))),
  (104, .cons (.int .i64) (.cons (.int .i64) (.cons (.int .i64) (.cons (.cons (.int .i64) (.cons (.int .i64) (.cons (.int .i64) (.nil)))) (.cons (.cons (.int .i64) (.cons (.int .i64) (.nil))) (.cons (.int .i64) (.nil))))))),
  (105, .cons (.int .i64) (.cons (.int .i64) (.cons (.int .i64) (.cons (.cons (.int .i64) (.cons (.int .i64) (.cons (.int .i64) (.nil)))) (.cons (.cons (.int .i64) (.cons (.int .i64) (.nil))) (.cons (.int .i64) (.nil))))))),
  (106, .cons (.int .i64) (.cons (.int .i64) (.cons (.int .i64) (.cons (.int .i64) (.cons (.int .i64) (.cons (.int .i64) (.cons (.int .i64) (.nil)))))))),
  (107, .cons (.int .i64) (.cons (.int .i64) (.cons (.int .i64) (.cons (.int .i64) (.cons (.int .i64) (.cons (.int .i64) (.cons (.int .i64) (.nil))))))))]
def T (t : Nat) : Option Ty := look t tbl
theorem typesB : (tbl.all fun p => chk Try.prog p.2 p.1) = true := by kernel_rfl
theorem types (ty : Nat) (t : Ty) (h : T ty = some t) : chk Try.prog t ty = true := types_of typesB ty t h
theorem env0 : Env Try.prog T Tbl.none := Env.start types (by kernel_rfl)
abbrev U (n : Int) : TD := ⟨.int .u64, n⟩
abbrev w (n : Int) : Int := IntKind.wrap .i64 n
abbrev w64 (n : Int) : Int := IntKind.wrap .u64 n
abbrev runF (G : Tbl) (ks : List Nat) (f : Func) (n : Nat) (todo : List Item) (st : St) : Leaf := run G T f.ntmps f.results.toList (fun _ => ks) n todo st
abbrev runL (G : Tbl) (kl : List (Nat × List Nat)) (f : Func) (n : Nat) (todo : List Item) (st : St) : Leaf := run G T f.ntmps f.results.toList (kf kl) n todo st
abbrev Hs (f : Nat) (F : List TD → Option (Bool × SV)) : Prop := Has Try.prog T f F
end Go.Lift.L40
