/- A part of the proof that the law returns true for every input: no condition. -/
import Derived.Test.YtjnaoailnfnlkaaE3
import Derived.Test.YtjnaoailnfnlkaaProg
set_option maxRecDepth 100000
namespace Go.Lift.V37
open Go.Lift Go.Proofs
def tbl : List (Nat × Ty) := [
  (2, .int .i64),
  (3, .int .i64),
  (4, .bool),
  (5, .int .u8),
  (9, .str),
  (12, .int .u64),
  (21, .int .i32),
  (22, .slice (.cons (.int .i64) (.cons (.int .i64) (.cons (.int .i64) (.cons (.int .i64) (.nil)))))),
  (24, .int .i64),
  (27, .fn (.cons (.slice (.cons (.int .i64) (.cons (.int .i64) (.cons (.int .i64) (.cons (.int .i64) (.nil)))))) (.nil)) (.bool)),
  (28, .cons (.int .i64) (.cons (.int .i64) (.nil))),
  (29, .cons (.int .i64) (.cons (.int .i64) (.nil))),
  (30, .fn (.cons (.slice (.cons (.int .i64) (.cons (.int .i64) (.cons (.int .i64) (.cons (.int .i64) (.nil)))))) (.cons (.int .i64) (.nil))) (.int .i64)),
  (31, .fn (.cons (.slice (.cons (.int .i64) (.cons (.int .i64) (.cons (.int .i64) (.cons (.int .i64) (.nil)))))) (.cons (.cons (.int .i64) (.cons (.int .i64) (.nil))) (.nil))) (.int .i64)),
  (32, .fn (.cons (.slice (.cons (.int .i64) (.cons (.int .i64) (.cons (.int .i64) (.cons (.int .i64) (.nil)))))) (.cons (.int .i64) (.cons (.cons (.int .i64) (.cons (.int .i64) (.nil))) (.nil)))) (.bool)),
  (33, .fn (.cons (.slice (.int .i64)) (.cons (.slice (.int .i64)) (.nil))) (.bool)),
  (34, .slice (.int .i64)),
  (35, .fn (.cons (.slice (.cons (.int .i64) (.cons (.int .i64) (.cons (.int .i64) (.cons (.int .i64) (.nil)))))) (.nil)) (.slice (.int .i64))),
  (36, .cons (.int .i64) (.cons (.int .i64) (.cons (.int .i64) (.cons (.int .i64) (.nil))))),
  (37, .cons (.int .i64) (.cons (.int .i64) (.cons (.int .i64) (.cons (.int .i64) (.nil))))),
  (38, .fn (.cons (.slice (.cons (.int .i64) (.cons (.int .i64) (.cons (.int .i64) (.cons (.int .i64) (.nil)))))) (.cons (.int .i64) (.nil))) (.bool)),
  (39, .fn (.cons (.cons (.int .i64) (.cons (.int .i64) (.cons (.int .i64) (.cons (.int .i64) (.nil))))) (.cons (.int .i64) (.nil))) (.bool)),
  (41, .fn (.cons (.cons (.int .i64) (.cons (.int .i64) (.cons (.int .i64) (.cons (.int .i64) (.nil))))) (.nil)) (.int .i64)),
  (42, .fn (.cons (.seq (.cons (.int .i64) (.cons (.int .i64) (.cons (.int .i64) (.cons (.int .i64) (.nil)))))) (.nil)) (.int .i64)),
  (43, .seq (.cons (.int .i64) (.cons (.int .i64) (.cons (.int .i64) (.cons (.int .i64) (.nil)))))),
  (44, .seq (.cons (.int .i64) (.cons (.int .i64) (.cons (.int .i64) (.cons (.int .i64) (.nil)))))),
  (45, .fn (.cons (.slice (.cons (.int .i64) (.cons (.int .i64) (.cons (.int .i64) (.cons (.int .i64) (.nil)))))) (.cons (.fn (.cons (.cons (.int .i64) (.cons (.int .i64) (.cons (.int .i64) (.cons (.int .i64) (.nil))))) (.nil)) (.bool)) (.nil))) (.seq (.cons (.int .i64) (.cons (.int .i64) (.cons (.int .i64) (.cons (.int .i64) (.nil))))))),
  (46, .fn (.cons (.cons (.int .i64) (.cons (.int .i64) (.cons (.int .i64) (.cons (.int .i64) (.nil))))) (.nil)) (.bool)),
  (49, .fn (.cons (.slice (.int .i64)) (.cons (.int .i64) (.cons (.slice (.int .i64)) (.nil)))) (.slice (.int .i64))),
  (50, .int .u64),
  (51, .fn (.cons (.int .i64) (.cons (.int .i64) (.nil))) (.bool)),
  (52, .fn (.cons (.int .i64) (.nil)) (.bool)),
  (62, .int .u32),
  (66, .ptr (.int .u8))]
def T (t : Nat) : Option Ty := look t tbl
theorem typesB : (tbl.all fun p => chk Try.prog p.2 p.1) = true := by kernel_rfl
theorem types (ty : Nat) (t : Ty) (h : T ty = some t) : chk Try.prog t ty = true := types_of typesB ty t h
theorem env0 : Env Try.prog T Tbl.none := Env.start types (by kernel_rfl)
abbrev U (n : Int) : TD := ⟨.int .u64, n⟩
abbrev w (n : Int) : Int := IntKind.wrap .i64 n
abbrev w64 (n : Int) : Int := IntKind.wrap .u64 n
abbrev runF (G : Tbl) (ks : List Nat) (f : Func) (n : Nat) (todo : List Item) (st : St) : Leaf := run G T f.ntmps f.results.toList (fun _ => ks) n todo st
abbrev runL (G : Tbl) (kl : List (Nat × List Nat)) (f : Func) (n : Nat) (todo : List Item) (st : St) : Leaf := run G T f.ntmps f.results.toList (kf kl) n todo st
abbrev Hs (f : Nat) (F : List TD → Option (Bool × SV)) : Prop := Has Try.prog T f F
end Go.Lift.V37
