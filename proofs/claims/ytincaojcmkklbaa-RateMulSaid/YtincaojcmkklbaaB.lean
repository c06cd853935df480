/- A part of the proof that the law returns true for every input: no condition. -/
import Derived.Test.YtincaojcmkklbaaE30
import Derived.Test.YtincaojcmkklbaaProg
set_option maxRecDepth 100000
namespace Go.Lift.L03
open Go.Lift Go.Proofs
def tbl : List (Nat × Ty) := [
  (2, .int .i64),
  (3, .int .i64),
  (4, .bool),
  (5, .int .u8),
  (9, .str),
  (12, .int .u64),
  (21, .int .i32),
  (22, .int .i64),
  (31, .int .u64),
  (40, .int .u64),
  (55, .int .u32)]
def T (t : Nat) : Option Ty := look t tbl
theorem typesB : (tbl.all fun p => chk Try.prog p.2 p.1) = true := by kernel_rfl
theorem types (ty : Nat) (t : Ty) (h : T ty = some t) : chk Try.prog t ty = true := types_of typesB ty t h
theorem env0 : Env Try.prog T Tbl.none := Env.start types (by kernel_rfl)
abbrev U (n : Int) : TD := ⟨.int .u64, n⟩
abbrev w (n : Int) : Int := IntKind.wrap .i64 n
abbrev w64 (n : Int) : Int := IntKind.wrap .u64 n
abbrev runF (G : Tbl) (ks : List Nat) (f : Func) (n : Nat) (todo : List Item) (st : St) : Leaf := run G T f.ntmps f.results.toList (fun _ => ks) n todo st
abbrev runL (G : Tbl) (kl : List (Nat × List Nat)) (f : Func) (n : Nat) (todo : List Item) (st : St) : Leaf := run G T f.ntmps f.results.toList (kf kl) n todo st
abbrev Hs (f : Nat) (F : List TD → Option (Bool × SV)) : Prop := Has Try.prog T f F
end Go.Lift.L03
