/- A part of the proof that the law returns true for every input: no condition. -/
import Derived.Calls
import Derived.KernelRfl
import Derived.Laws.AppendOwn
import Derived.Laws.OwnMore
import Derived.Laws.StructEq
import Derived.Laws.Small
import Derived.Laws.Slices
import Derived.Orders
import Derived.Laws.Tables
namespace Go.Lift

/-! Typed data -/
inductive Ty where
  | int (k : IntKind) | bool | str | slice (e : Ty) | nil | cons (a b : Ty)
  | ptr (e : Ty) | fn (a r : Ty) | seq (e : Ty)
  deriving DecidableEq

@[reducible] def Ty.D : Ty → Type
  | .int _ => Int
  | .bool => Bool
  | .str => ByteArray
  | .slice e => List e.D
  | .nil => Unit
  | .cons a b => a.D × b.D
  | .ptr e => Bool × e.D
  | .fn a r => a.D → Bool × r.D
  | .seq e => Bool × List e.D

def Ty.size : Ty → Nat
  | .nil => 0
  | .cons a b => a.size + b.size
  | _ => 1

def Ty.zero : (t : Ty) → t.D
  | .int _ => (0 : Int)
  | .bool => false
  | .str => ByteArray.empty
  | .slice _ => []
  | .nil => ()
  | .cons a b => (a.zero, b.zero)
  | .ptr e => (false, e.zero)
  | .fn _ r => fun _ => (false, r.zero)
  | .seq _ => (false, [])

def Ty.isAgg : Ty → Bool
  | .nil | .cons _ _ => true
  | _ => false

def Ty.isArr : Ty → Bool
  | .cons .nil _ => true
  | _ => false

/-- no slice inside -/
def Ty.flat : Ty → Bool
  | .slice _ | .ptr _ | .fn _ _ | .seq _ => false
  | .cons a b => a.flat && b.flat
  | _ => true

def Ty.dep : Ty → Nat
  | .cons a b => max (a.dep + 1) b.dep
  | _ => 0

/-- comparable: no slice, no array -/
def Ty.eqable : Ty → Bool
  | .slice _ | .ptr _ | .fn _ _ | .seq _ => false
  | .cons .nil _ => false
  | .cons a b => a.eqable && b.eqable
  | _ => true

structure TD where
  t : Ty
  x : t.D

def TD.as (d : TD) (t : Ty) : Option t.D :=
  if h : d.t = t then some (h ▸ d.x) else none

def getFld : (t : Ty) → t.D → Nat → Option TD
  | .cons a _, x, 0 => some ⟨a, x.1⟩
  | .cons _ b, x, n + 1 => getFld b x.2 n
  | _, _, _ => none

def setFld : (t : Ty) → t.D → Nat → TD → Option t.D
  | .cons a _, x, 0, v => (v.as a).map fun y => (y, x.2)
  | .cons _ b, x, n + 1, v => (setFld b x.2 n v).map fun y => (x.1, y)
  | _, _, _, _ => none

def getPath (d : TD) : List Nat → Option TD
  | [] => some d
  | i :: r => (getFld d.t d.x i).bind fun d' => getPath d' r

def setPath (d : TD) : List Nat → TD → Option d.t.D
  | [], v => v.as d.t
  | i :: r, v => (getFld d.t d.x i).bind fun d' => (setPath d' r v).bind fun y => setFld d.t d.x i ⟨d'.t, y⟩

inductive SV where
  | tv (d : TD)
  | nils
  | ref (b : Nat)
  | view (b lo hi : Nat)
  | ptr (b : Nat) (ix : Option Nat) (path : List Nat)
  | cptr (d : TD)
  | own (t : Ty) (l : List t.D)
  | tup (l : List SV)
  | gone
  | mref (b : Nat)

inductive Box where
  | var (d : TD)
  | vec (t : Ty) (l : List t.D)
  | mp (ty : Nat) (l : List (Int × Int))

structure St where
  sl : List (Nat × SV)
  bx : List (Nat × Box)

def look {α : Type} (k : Nat) : List (Nat × α) → Option α
  | [] => none
  | (j, v) :: r => bif Nat.beq j k then some v else look k r

def ins {α : Type} (k : Nat) (v : α) : List (Nat × α) → List (Nat × α)
  | [] => [(k, v)]
  | (j, u) :: r => bif Nat.beq j k then (k, v) :: r else bif Nat.blt k j then (k, v) :: (j, u) :: r else (j, u) :: ins k v r

def del {α : Type} (k : Nat) : List (Nat × α) → List (Nat × α)
  | [] => []
  | (j, u) :: r => bif Nat.beq j k then del k r else (j, u) :: del k r

def SV.mentions1 (b : Nat) : SV → Bool
  | .ref c | .view c _ _ | .ptr c _ _ | .mref c => Nat.beq c b
  | .tup _ => true
  | _ => false

def SV.mentions (b : Nat) : SV → Bool
  | .tup l => l.any (SV.mentions1 b)
  | x => x.mentions1 b

def mapS {α β : Type} (f : α → β) : List (Nat × α) → List (Nat × β)
  | [] => []
  | (j, u) :: r => (j, f u) :: mapS f r

def SV.dead (b : Nat) (u : SV) : SV := bif u.mentions b then .gone else u

def St.kill (st : St) (b : Nat) : St := ⟨mapS (SV.dead b) st.sl, del b st.bx⟩

def SV.ren1 (b d : Nat) : SV → SV
  | .ref c => bif Nat.beq c b then .ref d else .ref c
  | .view c lo hi => bif Nat.beq c b then .view d lo hi else .view c lo hi
  | .ptr c i p => bif Nat.beq c b then .ptr d i p else .ptr c i p
  | .mref c => bif Nat.beq c b then .mref d else .mref c
  | x => x

def SV.ren (b d : Nat) : SV → SV
  | .tup l => .tup (l.map (SV.ren1 b d))
  | x => x.ren1 b d

def tail {α : Type} (l : List α) (lo hi : Nat) : List α := (l.take hi).drop lo

def SV.froz1 (b : Nat) (t : Ty) (l : List t.D) : SV → SV
  | .ref c => bif Nat.beq c b then .tv ⟨.slice t, l⟩ else .ref c
  | .view c lo hi => bif Nat.beq c b then .tv ⟨.slice t, tail l lo hi⟩ else .view c lo hi
  | .ptr c (some i) p => bif Nat.beq c b then (match getPath ⟨t, l.getD i t.zero⟩ p with | some d => .cptr d | none => .gone) else .ptr c (some i) p
  | x => x

/-- the contents of a vector box become data -/
def SV.froz (b : Nat) (t : Ty) (l : List t.D) : SV → SV
  | .tup l' => .tup (l'.map (SV.froz1 b t l))
  | x => x.froz1 b t l

def St.freeze (st : St) (b : Nat) : St :=
  match look b st.bx with
  | some (.vec t l) => ⟨mapS (SV.froz b t l) st.sl, del b st.bx⟩
  | _ => st

def constSV : Value → Option SV
  | .int k n => some (.tv ⟨.int k, n⟩)
  | .bool b => some (.tv ⟨.bool, b⟩)
  | .string s => some (.tv ⟨.str, s⟩)
  | .slice none 0 0 => some .nils
  | .nilFunc => some .gone
  | .pointer none => some .gone
  | _ => none

def opd (st : St) : Operand → Option SV
  | .tmp t => look t st.sl
  | .const v => constSV v
  | _ => none

def nilD : (t : Ty) → Option t.D
  | .slice _ => some []
  | _ => none

/-- a pointer to data that stays, as data -/
def cptrD : (t : Ty) → TD → Option t.D
  | .ptr e, d => (d.as e).map fun x => (true, x)
  | _, _ => none

/-- an operand as data of type t -/
def SV.data (bx : List (Nat × Box)) (t : Ty) : SV → Option t.D
  | .tv d => d.as t
  | .nils => nilD t
  | .cptr d => cptrD t d
  | .ref b => (match look b bx with | some (.vec e l) => TD.as ⟨.slice e, l⟩ t | _ => none)
  | .view b lo hi => (match look b bx with | some (.vec e l) => TD.as ⟨.slice e, tail l lo hi⟩ t | _ => none)
  | _ => none

def SV.int : SV → Option (IntKind × Int)
  | .tv ⟨.int k, n⟩ => some (k, n)
  | _ => none

def SV.boolean : SV → Option Bool
  | .tv ⟨.bool, b⟩ => some b
  | _ => none

def lenBound : Nat := 68719476736
def lenOK (n : Nat) : Bool := decide (n ≤ lenBound)
/-- so many bytes at the most -/
def Ty.wid : Ty → Nat
  | .str => 16
  | .slice _ => 24
  | .nil => 0
  | .cons a b => a.wid + b.wid
  | _ => 8
/-- exactly so many -/
def Ty.exact : Ty → Bool
  | .int k => k.bits == 64
  | .bool => false
  | .cons a b => a.exact && b.exact
  | _ => true
/-- n elements of a type fit in what can be appended to -/
def capOK (e : Ty) (n : Nat) : Bool := decide (n * e.wid ≤ 140737488355328)
theorem Ty.wid_size : ∀ e : Ty, e.size * 8 ≤ e.wid
  | .int _ | .bool | .ptr _ | .fn _ _ | .seq _ => Nat.le_refl _
  | .str => by decide
  | .slice _ => by show 1 * 8 ≤ 24; decide
  | .nil => Nat.le_refl _
  | .cons a b => by
    have := Ty.wid_size a
    have := Ty.wid_size b
    show (a.size + b.size) * 8 ≤ a.wid + b.wid
    omega

inductive BitOp where
  | and | or | xor | andNot

def bitI (op : BitOp) (k : IntKind) (x y : Int) : Int :=
  let a := BitVec.ofInt k.bits x
  let b := BitVec.ofInt k.bits y
  match op with
  | .and => k.wrap (a &&& b).toNat
  | .or => k.wrap (a ||| b).toNat
  | .xor => k.wrap (a ^^^ b).toNat
  | .andNot => k.wrap (a &&& ~~~b).toNat

def shiftOp (op : BinOp) (k : IntKind) (a b : Int) : Option (Bool × TD) :=
  match op with
  | .shl => some (decide (0 ≤ b), ⟨.int k, k.wrap (a * 2 ^ (min b.toNat k.bits))⟩)
  | .shr => some (decide (0 ≤ b), ⟨.int k, a.fdiv (2 ^ (min b.toNat k.bits))⟩)
  | _ => none

def intOp (op : BinOp) (k : IntKind) (a b : Int) : Option (Bool × TD) :=
  match op with
  | .add => some (true, ⟨.int k, k.wrap (a + b)⟩)
  | .sub => some (true, ⟨.int k, k.wrap (a - b)⟩)
  | .mul => some (true, ⟨.int k, k.wrap (a * b)⟩)
  | .quo => some (!(b == 0), ⟨.int k, k.wrap (a.tdiv b)⟩)
  | .rem => some (!(b == 0), ⟨.int k, a.tmod b⟩)
  | .eql => some (true, ⟨.bool, a == b⟩)
  | .neq => some (true, ⟨.bool, a != b⟩)
  | .lss => some (true, ⟨.bool, decide (a < b)⟩)
  | .leq => some (true, ⟨.bool, decide (a ≤ b)⟩)
  | .gtr => some (true, ⟨.bool, decide (a > b)⟩)
  | .geq => some (true, ⟨.bool, decide (a ≥ b)⟩)
  | .and => some (true, ⟨.int k, bitI .and k a b⟩)
  | .or => some (true, ⟨.int k, bitI .or k a b⟩)
  | .xor => some (true, ⟨.int k, bitI .xor k a b⟩)
  | .andNot => some (true, ⟨.int k, bitI .andNot k a b⟩)
  | _ => none

end Go.Lift
namespace Go.Lift

/-- equality of data without slices, field by field -/
def eqD : (t : Ty) → t.D → t.D → Bool
  | .int _, x, y => (show Int from x) == (show Int from y)
  | .bool, x, y => (show Bool from x) == (show Bool from y)
  | .str, x, y => (show ByteArray from x) == (show ByteArray from y)
  | .slice _, _, _ | .ptr _, _, _ | .fn _ _, _, _ | .seq _, _, _ => false
  | .nil, _, _ => true
  | .cons a b, x, y => eqD a x.1 y.1 && eqD b x.2 y.2

def tblGet {α : Type} (l : List (Nat × α)) (k : Nat) : Option α := look k l

abbrev RV := SV
/-- the values that an iterator hands over -/
structure SQ where
  e : Ty
  l : List e.D
/-- contracts of functions that take their first argument, a vector of the caller's own -/
structure OC where
  e : Ty
  k : List e.D → List TD → Bool
  r : List e.D → List TD → List e.D
/-- contracts: of functions; of iterators, by what they hold -/
structure Tbl where
  c : Nat → List TD → Option (Bool × RV)
  s : Nat → List TD → Option (Bool × SQ)
  /-- map types, int to int -/
  m : Nat → Bool
  /-- functions that take a vector -/
  o : Nat → Option OC
instance : CoeFun Tbl fun _ => Nat → List TD → Option (Bool × RV) := ⟨Tbl.c⟩

def SV.flatR : SV → Bool
  | .tv d => d.t.flat
  | .tup l => l.all fun | .tv d => d.t.flat | _ => false
  | _ => false

def SV.plainR : SV → Bool
  | .tv _ => true
  | .tup l => l.all fun | .tv _ => true | _ => false
  | _ => false

def SV.isRef : SV → Bool
  | .ref _ | .view _ _ _ => true
  | _ => false

def argsTD (T : Nat → Option Ty) (bx : List (Nat × Box)) : List Nat → List SV → Option (List TD)
  | [], [] => some []
  | t :: ts, v :: vs => (T t).bind fun u => (v.data bx u).bind fun x => (argsTD T bx ts vs).bind fun r => some (⟨u, x⟩ :: r)
  | _, _ => none

def mapO {α β : Type} (f : α → Option β) : List α → Option (List β)
  | [] => some []
  | a :: r => (f a).bind fun b => (mapO f r).bind fun s => some (b :: s)

def maxI : List Int → Int → Int
  | [], a => a
  | b :: r, a => maxI r (if b > a then b else a)
def minI : List Int → Int → Int
  | [], a => a
  | b :: r, a => minI r (if b < a then b else a)

def ints (k : IntKind) : List SV → Option (List Int)
  | [] => some []
  | v :: r => match v.int with
    | some (k', n) => bif decide (k' = k) then (ints k r).bind fun s => some (n :: s) else none
    | none => none

def packD (bx : List (Nat × Box)) : (a : Ty) → List SV → Option a.D
  | .cons A B, v :: vs => (v.data bx A).bind fun x => (packD bx B vs).map fun y => (x, y)
  | .nil, [] => some ()
  | _, _ => none

def unpackD : (a : Ty) → a.D → List TD
  | .cons A B, x => ⟨A, x.1⟩ :: unpackD B x.2
  | _, _ => []

/-- a function's contract, as a value: its last arguments are known -/
def fnOf (G : Tbl) (f : Nat) (a r : Ty) (cs : List TD) : a.D → Bool × r.D := fun x =>
  match G f (unpackD a x ++ cs) with
  | some (c, .tv d) => (match d.as r with | some y => (c, y) | none => (false, r.zero))
  | _ => (false, r.zero)

def callVal (G : Tbl) (T : Nat → Option Ty) (bx : List (Nat × Box)) (ρ : Operand → Option SV) (c : Call) : Option (Bool × SV) :=
  match c.callee with
  | .value (.func f) =>
    (mapO ρ c.args.toList).bind fun svs => (argsTD T bx c.argTypes.toList svs).bind fun tds => (G f tds).bind fun r =>
      bif (if svs.any SV.isRef then r.2.flatR else r.2.plainR) then some r else none
  | .value (.tmp t) => (ρ (.tmp t)).bind fun
    | .tv ⟨.fn a r, φ⟩ => (mapO ρ c.args.toList).bind fun svs => (packD bx a svs).bind fun x =>
      bif (!svs.any SV.isRef || r.flat) then some ((φ x).1, .tv ⟨r, (φ x).2⟩) else none
    | _ => none
  | .builtin .len =>
    match c.args.toList, c.argTypes.toList with
    | [x], [t] => (T t).bind fun
      | .slice _ => (ρ x).bind fun
        | .tv ⟨.slice _, l⟩ => some (true, .tv ⟨.int .i64, (l.length : Int)⟩)
        | .nils => some (true, .tv ⟨.int .i64, (0 : Int)⟩)
        | .ref b => (match look b bx with | some (.vec _ l) => some (true, .tv ⟨.int .i64, (l.length : Int)⟩) | _ => none)
        | .view _ lo hi => some (true, .tv ⟨.int .i64, ((hi - lo : Nat) : Int)⟩)
        | _ => none
      | .str => (ρ x).bind fun
        | .tv ⟨.str, s⟩ => some (true, .tv ⟨.int .i64, (s.size : Int)⟩)
        | _ => none
      | _ => none
    | _, _ => none
  | .builtin .max =>
    (mapO ρ c.args.toList).bind fun | v :: vs => (match v.int with | some (k, n) => (ints k vs).bind fun l => some (true, .tv ⟨.int k, maxI l n⟩) | none => none) | [] => none
  | .builtin .min =>
    (mapO ρ c.args.toList).bind fun | v :: vs => (match v.int with | some (k, n) => (ints k vs).bind fun l => some (true, .tv ⟨.int k, minI l n⟩) | none => none) | [] => none
  | _ => none

def inB (i : Int) (n : Nat) : Bool := decide (0 ≤ i) && decide (i < n)

def sliceOp (bx : List (Nat × Box)) (e : Ty) (x : SV) (lo hi : Option Int) : Option (Bool × SV) :=
  match x with
  | .tv d => (d.as (.slice e)).map fun l =>
    let h : Int := hi.getD (l.length : Int)
    let o : Int := lo.getD 0
    (decide (0 ≤ o) && decide (o ≤ h) && decide (h ≤ l.length), .tv ⟨.slice e, tail l o.toNat h.toNat⟩)
  | .ref b => match look b bx with
    | some (.vec t l) => bif decide (t = e) then
      let h : Int := hi.getD (l.length : Int)
      let o : Int := lo.getD 0
      some (decide (0 ≤ o) && decide (o ≤ h) && decide (h ≤ l.length), .view b o.toNat h.toNat) else none
    | _ => none
  | _ => none

def optI (ρ : Operand → Option SV) : Option Operand → Option (Option Int)
  | none => some none
  | some l => (ρ l).bind fun l => l.int.map fun (kn : IntKind × Int) => some kn.2

/-- maps from int to int, by their entries -/
def mget : List (Int × Int) → Int → Int
  | [], _ => 0
  | (j, v) :: r, k => bif decide (k = j) then v else mget r k
def mput : List (Int × Int) → Int → Int → List (Int × Int)
  | [], k, v => [(k, v)]
  | (j, u) :: r, k, v => bif decide (k = j) then (k, v) :: r else (j, u) :: mput r k v

def opVal (G : Tbl) (T : Nat → Option Ty) (bx : List (Nat × Box)) (ρ : Operand → Option SV) (o : Oper) : Option (Bool × SV) :=
  match o.op with
  | .move x => (ρ x).map fun v => (true, v)
  | .assign x => (ρ x).bind fun
    | .tv d => some (true, .tv d)
    | .cptr d => some (true, .cptr d)
    | .ptr b ix p => some (true, .ptr b ix p)
    | .gone => some (true, .gone)
    | _ => none
  | .pick c a b => (ρ c).bind fun c => c.boolean.bind fun cb => (ρ a).bind fun a => a.boolean.bind fun x => (ρ b).bind fun b => b.boolean.bind fun y =>
      some (true, .tv ⟨.bool, bif cb then x else y⟩)
  | .load ty a => (T ty).bind fun t => (ρ a).bind fun
    | .cptr d => (d.as t).map fun x => (true, .tv ⟨t, x⟩)
    | .tv ⟨.ptr e, q⟩ => (TD.as ⟨e, q.2⟩ t).map fun x => (q.1, .tv ⟨t, x⟩)
    | .ptr b ix p =>
      (match look b bx, ix with
        | some (.var d), none => (getPath d p).bind fun d' => (d'.as t).map fun x => (true, .tv ⟨t, x⟩)
        | some (.vec e l), some i => (getPath ⟨e, l.getD i e.zero⟩ p).bind fun d' => (d'.as t).map fun x => (true, .tv ⟨t, x⟩)
        | _, _ => none)
    | _ => none
  | .binOp op xt x y _ => (ρ x).bind fun x => (ρ y).bind fun y =>
    match x, y with
    | .tv ⟨.int k, a⟩, .tv ⟨.int k', b⟩ => (match shiftOp op k a b with
      | some r => some (r.1, .tv r.2)
      | none => bif decide (k = k') then (intOp op k a b).map fun r => (r.1, .tv r.2) else none)
    | .tv ⟨.bool, a⟩, .tv ⟨.bool, b⟩ => (T xt).bind fun z => bif decide (z = .bool) then
        (match op with | .eql => some (true, .tv ⟨.bool, a == b⟩) | .neq => some (true, .tv ⟨.bool, !(a == b)⟩) | _ => none) else none
    | .tv ⟨.str, a⟩, .tv ⟨.str, b⟩ => (match op with | .eql => some (true, .tv ⟨.bool, a == b⟩) | .neq => some (true, .tv ⟨.bool, !(a == b)⟩) | _ => none)
    | .tv ⟨.cons t u, a⟩, .tv d => (T xt).bind fun z => bif decide (z = .cons t u) && (Ty.cons t u).eqable && Nat.blt (Ty.cons t u).dep 1000 then (d.as (.cons t u)).bind fun b =>
        (match op with | .eql => some (true, .tv ⟨.bool, eqD (.cons t u) a b⟩) | .neq => some (true, .tv ⟨.bool, !eqD (.cons t u) a b⟩) | _ => none) else none
    | _, _ => none
  | .unOp op _ x => (ρ x).bind fun x =>
    match op, x with
    | .not, .tv ⟨.bool, b⟩ => some (true, .tv ⟨.bool, !b⟩)
    | .neg, .tv ⟨.int k, n⟩ => some (true, .tv ⟨.int k, k.wrap (0 - n)⟩)
    | .xor, .tv ⟨.int k, n⟩ => some (true, .tv ⟨.int k, bitI .xor k (if k.signed then -1 else k.max) n⟩)
    | _, _ => none
  | .convert src dst x => (ρ x).bind fun x => (T src).bind fun _ => (T dst).bind fun
    | .int k => (match x with | .tv ⟨.int _, n⟩ => some (true, .tv ⟨.int k, k.wrap n⟩) | _ => none)
    | _ => none
  | .fieldAddr s x f => (T s).bind fun t => (bif !t.isArr then (ρ x).bind fun
    | .cptr d => (d.as t).bind fun x => (getFld t x f).bind fun d' => bif Nat.beq d'.t.size 0 then none else some (true, .cptr d')
    | .tv ⟨.ptr e, q⟩ => (TD.as ⟨e, q.2⟩ t).bind fun x => (getFld t x f).bind fun d' => bif Nat.beq d'.t.size 0 then none else some (q.1, .cptr d')
    | .ptr b ix p =>
      (match look b bx, ix with
        | some (.var d), none => (getPath d p).bind fun d' => (d'.as t).bind fun x => (getFld t x f).bind fun d'' => bif Nat.beq d''.t.size 0 then none else some (true, .ptr b none (p ++ [f]))
        | some (.vec e l), some i => (getPath ⟨e, l.getD i e.zero⟩ p).bind fun d' => (d'.as t).bind fun x => (getFld t x f).bind fun d'' => bif Nat.beq d''.t.size 0 then none else some (true, .ptr b ix (p ++ [f]))
        | _, _ => none)
    | _ => none else none)
  | .field xt x f => (T xt).bind fun t => (ρ x).bind fun
    | .tv d => bif !t.isArr then (d.as t).bind fun x => (getFld t x f).map fun d' => (true, .tv d') else none
    | _ => none
  | .indexAddr t x i => (T t).bind fun
    | .slice e => (ρ i).bind fun i => i.int.bind fun ki => let i := ki.2; (ρ x).bind fun
      | .tv d => (d.as (.slice e)).map fun l => (inB i l.length, .cptr ⟨e, l.getD i.toNat e.zero⟩)
      | .ref b => (match look b bx with | some (.vec e' l) => bif decide (e' = e) then some (inB i l.length, .ptr b (some i.toNat) []) else none | _ => none)
      | .view b lo hi => (match look b bx with | some (.vec e' _) => bif decide (e' = e) then some (inB i (hi - lo), .ptr b (some (lo + i.toNat)) []) else none | _ => none)
      | _ => none
    | .cons .nil u => (match i with
      | .const (.int _ n) => (ρ x).bind fun
        | .ptr b none p => (match look b bx with
          | some (.var d) => bif decide (0 ≤ n) then (getPath d p).bind fun d' => (d'.as (.cons .nil u)).bind fun y => (getFld u y.2 n.toNat).map fun _ => (true, .ptr b none (p ++ [n.toNat + 1])) else none
          | _ => none)
        | _ => none
      | _ => none)
    | _ => none
  | .index xt x i => (T xt).bind fun
    | .str => (ρ i).bind fun i => i.int.bind fun ki => let i := ki.2; (ρ x).bind fun
      | .tv ⟨.str, s⟩ => some (inB i s.size, .tv ⟨.int .u8, ((s.get! i.toNat).toNat : Int)⟩)
      | _ => none
    | .cons a b => (match i with
      | .const (.int _ n) => (ρ x).bind fun
        | .tv d => bif decide (0 ≤ n) then (d.as (.cons a b)).bind fun x => (match a with | .nil => (getFld b x.2 n.toNat).map fun d' => (true, .tv d') | _ => none) else none
        | _ => none
      | _ => none)
    | _ => none
  | .slice t x lo hi none => (T t).bind fun
    | .slice e => (ρ x).bind fun x => (optI ρ lo).bind fun lo' => (optI ρ hi).bind fun hi' => sliceOp bx e x lo' hi'
    | _ => none
  | .slice t x (some lo) (some hi) (some m) => (T t).bind fun
    | .slice e => (ρ x).bind fun
      | .tv d => (d.as (.slice e)).bind fun l => (ρ lo).bind fun slo => slo.int.bind fun klo => (ρ hi).bind fun shi => shi.int.bind fun khi => (ρ m).bind fun sm => sm.int.map fun km =>
          (decide (0 ≤ klo.2) && decide (klo.2 ≤ khi.2) && decide (khi.2 ≤ km.2) && decide (km.2 ≤ (l.length : Int)), .tv ⟨.slice e, tail l klo.2.toNat khi.2.toNat⟩)
      | _ => none
    | _ => none
  | .lookup t m k false => (ρ m).bind fun
    | .mref b => (match look b bx with
      | some (.mp t' l) => bif Nat.beq t' t && G.m t then (ρ k).bind fun sk => (match sk.int with | some (.i64, n) => some (true, .tv ⟨.int .i64, mget l n⟩) | _ => none) else none
      | _ => none)
    | _ => none
  | .extract t i => (ρ t).bind fun | .tup l => (l[i]?).map fun v => (true, v) | _ => none
  | .build t parts => (T t).bind fun ty => bif ty.isAgg && !ty.isArr then buildV ty ty.zero parts.toList else none
  | .call c => callVal G T bx ρ c
  | _ => none
where
  buildV (ty : Ty) (x : ty.D) : List (Nat × Operand) → Option (Bool × SV)
    | [] => some (true, .tv ⟨ty, x⟩)
    | (i, v) :: r => (getFld ty ty.zero i).bind fun d => (ρ v).bind fun sv => (match sv with
        | .tv d' => some d'
        | .nils => (SV.nils.data bx d.t).map fun y => TD.mk d.t y
        | _ => none).bind fun d' => (setFld ty x i d').bind fun x' => buildV ty x' r

def freezeOps (st : St) : List Operand → St
  | [] => st
  | x :: r => match opd st x with
    | some (.ref b) | some (.view b _ _) => freezeOps (st.freeze b) r
    | _ => freezeOps st r

def SV.frozV1 (b : Nat) (d : TD) : SV → SV
  | .ptr c none p => bif Nat.beq c b then (match getPath d p with | some e => .cptr e | none => .gone) else .ptr c none p
  | x => x

/-- the contents of a variable become data -/
def SV.frozV (b : Nat) (d : TD) : SV → SV
  | .tup l' => .tup (l'.map (SV.frozV1 b d))
  | x => x.frozV1 b d

def St.freezeV (st : St) (b : Nat) : St :=
  match look b st.bx with
  | some (.var d) => ⟨mapS (SV.frozV b d) st.sl, del b st.bx⟩
  | _ => st

def freezeVs (st : St) : List Operand → St
  | [] => st
  | x :: r => match opd st x with
    | some (.ptr b none _) => freezeVs (st.freezeV b) r
    | _ => freezeVs st r

/-- what a closure holds -/
def capTD (st : St) (x : Operand) : Option TD :=
  (opd st x).bind fun
  | .cptr d => some ⟨.ptr d.t, (true, d.x)⟩
  | .tv d => some d
  | _ => none

def St.put (st : St) (dst : Option Nat) (v : SV) : St :=
  match dst with
  | some d => ⟨ins d v st.sl, st.bx⟩
  | none => st

def St.unput (st : St) (dst : Option Nat) : St :=
  match dst with
  | some d => ⟨del d st.sl, st.bx⟩
  | none => st

def St.newBox (st : St) (d : Nat) (b : Box) (v : SV) : St :=
  let st' := st.kill d
  ⟨ins d v st'.sl, ins d b st'.bx⟩

def St.rename (st : St) (b d : Nat) : St :=
  bif Nat.beq b d then st else
  match look b st.bx with
  | some x => let st' := (st.kill d); ⟨mapS (SV.ren b d) st'.sl, ins d x (del b st'.bx)⟩
  | none => st

def fillV (e : Ty) (bx : List (Nat × Box)) (st : St) (l : List e.D) : List (Nat × Operand) → Option (List e.D)
  | [] => some l
  | (i, v) :: r => (opd st v).bind fun sv => (bif sv.isRef then none else sv.data bx e).bind fun y => bif Nat.blt i l.length then fillV e bx st (l.set i y) r else none

def zeros (e : Ty) (n : Nat) : List e.D := List.replicate n e.zero

def installs (d : Nat) (st : St) (done : List SV) : Nat → List SV → St × List SV
  | _, [] => (st, done)
  | i, .own t l :: r => let k := 1000 + 100 * d + i; let st' := st.kill k; installs d ⟨st'.sl, ins k (.vec t l) st'.bx⟩ (done ++ [.ref k]) (i + 1) r
  | i, v :: r => installs d st (done ++ [v]) (i + 1) r

def install (st : St) (d : Nat) : SV → St
  | .own t l => st.newBox d (.vec t l) (.ref d)
  | .tup l => let r := installs d st [] 0 l; ⟨ins d (.tup r.2) r.1.sl, r.1.bx⟩
  | v => ⟨ins d v st.sl, st.bx⟩

/-- a result that is memory of its own and holds no pointers -/
def flatOwn (st : St) (d : Nat) (r : Bool × SV) : Option (Bool × St) :=
  match r.2 with
  | .own t l => bif t.flat then some (r.1, st.newBox d (.vec t l) (.ref d)) else none
  | _ => none

def opEff (G : Tbl) (T : Nat → Option Ty) (o : Oper) (st : St) : Option (Bool × St) :=
  match o.op, o.dst with
  | .assign x, some d => (opd st x).bind fun
    | .ref b => let st' := st.rename b d; some (true, ⟨ins d (.ref d) st'.sl, st'.bx⟩)
    | .mref b => let st' := st.rename b d; some (true, ⟨ins d (.mref d) st'.sl, st'.bx⟩)
    | .nils => (T o.type).bind fun | .slice e => some (true, st.newBox d (.vec e []) (.ref d)) | _ => none
    | _ => none
  | .alloc t, some d => (T t).map fun ty => (true, st.newBox d (.var ⟨ty, ty.zero⟩) (.ptr d none []))
  | .makeMap t none, some d => bif G.m t then some (true, st.newBox d (.mp t []) (.mref d)) else none
  | .mapUpdate t m k v, none => (opd st m).bind fun
    | .mref b => (match look b st.bx with
      | some (.mp t' l) => bif Nat.beq t' t && G.m t then (opd st k).bind fun sk => (match sk.int with
        | some (.i64, n) => (opd st v).bind fun sv => (match sv.int with | some (.i64, u) => some (true, ⟨st.sl, ins b (.mp t (mput l n u)) st.bx⟩) | _ => none)
        | _ => none) else none
      | _ => none)
    | _ => none
  | .box t x, some d => (T t).bind fun ty => let st1 := freezeOps st [x]; (opd st1 x).bind fun sv => (bif sv.isRef then none else sv.data st1.bx ty).map fun y => (true, st1.newBox d (.var ⟨ty, y⟩) (.ptr d none []))
  | .makeFunc (.func f) first caps, some d => bif first.isEmpty then (let st1 := freezeVs st caps.toList
      (mapO (capTD st1) caps.toList).bind fun cs => (T o.type).bind fun
        | .fn a r => some (true, st1.put (some d) (.tv ⟨.fn a r, fnOf G f a r cs⟩))
        | .seq e => (G.s f cs).bind fun r => bif decide (r.2.e = e) then some (r.1, st1.put (some d) (.tv ⟨.seq r.2.e, (true, r.2.l)⟩)) else none
        | _ => none) else none
  | .build .., some d => let st1 := freezeOps st o.op.operands.toList
      (opVal G T st1.bx (opd st1) o).map fun r => (r.1, st1.put (some d) r.2)
  | .buildSlice t len parts, some d => (T t).bind fun
    | .slice e => bif Nat.ble (len * e.size) 16777216 then let st1 := freezeOps st o.op.operands.toList
      (fillV e st1.bx st1 (zeros e len) parts.toList).map fun l => (true, st1.newBox d (.vec e l) (.ref d)) else none
    | _ => none
  | .makeSlice t n c, some d => (T t).bind fun
    | .slice e => (opd st n).bind fun n => n.int.bind fun kn => let n := kn.2; (opd st c).bind fun c => c.int.bind fun kc => let c := kc.2;
      some (decide (0 ≤ n) && decide (n ≤ c) && capOK e c.toNat, st.newBox d (.vec e (zeros e n.toNat)) (.ref d))
    | _ => none
  | .store t a v, none => (T t).bind fun ty => let st1 := freezeOps st [v]
    (opd st1 v).bind fun sv => (bif sv.isRef then none else sv.data st1.bx ty).bind fun y => (opd st1 a).bind fun
      | .ptr b none p => (match look b st1.bx with
        | some (.var d) => (setPath d p ⟨ty, y⟩).map fun x => (true, ⟨st1.sl, ins b (.var ⟨d.t, x⟩) st1.bx⟩)
        | _ => none)
      | .ptr b (some i) p => (match look b st1.bx with
        | some (.vec e l) => (setPath ⟨e, l.getD i e.zero⟩ p ⟨ty, y⟩).map fun x => (true, ⟨st1.sl, ins b (.vec e (l.set i x)) st1.bx⟩)
        | _ => none)
      | _ => none
  | .call c, some d =>
    (match c.callee with
    | .value (.func f) =>
      (match G.o f with
      | some oc => (match c.args.toList, c.argTypes.toList with
        | x :: xs, _ :: ts => (opd st x).bind fun
          | .ref b => (match look b (freezeOps st xs).bx with
            | some (.vec e' l) => (TD.as ⟨.slice e', l⟩ (.slice oc.e)).bind fun l => (mapO (opd (freezeOps st xs)) xs).bind fun svs => (bif svs.any SV.isRef then none else argsTD T (freezeOps st xs).bx ts svs).map fun tds =>
                (oc.k l tds, ((freezeOps st xs).kill b).newBox d (.vec oc.e (oc.r l tds)) (.ref d))
            | _ => none)
          | _ => none
        | _, _ => none)
      | none =>
      (match (mapO (opd st) c.args.toList).bind fun svs => (bif svs.any SV.isRef then argsTD T st.bx c.argTypes.toList svs else none).bind fun tds => (G f tds).bind (flatOwn st d) with
      | some x => some x
      | none =>
      let st1 := freezeOps st c.args.toList
      (mapO (opd st1) c.args.toList).bind fun svs => (bif svs.any SV.isRef then none else argsTD T st1.bx c.argTypes.toList svs).bind fun tds => (G f tds).map fun r => (r.1, install st1 d r.2)))
    | .builtin .append =>
      (match c.args.toList, c.argTypes.toList with
      | [x, y], [t, t'] => (bif Nat.beq t t' then T t else none).bind fun
        | .slice e => (opd st y).bind fun y => (y.data st.bx (.slice e)).bind fun ys => (opd st x).bind fun
          | .nils => some (capOK e ys.length, st.newBox d (.vec e ys) (.ref d))
          | .ref b => (match look b st.bx with
            | some (.vec e' l) => (TD.as ⟨.slice e', l⟩ (.slice e)).map fun l => (capOK e (l.length + ys.length), (st.kill b).newBox d (.vec e (l ++ ys)) (.ref d))
            | _ => none)
          | .view b lo hi => (match look b st.bx with
            | some (.vec e' l) => (TD.as ⟨.slice e', l⟩ (.slice e)).map fun l => (decide (lo = 0) && capOK e (hi + ys.length), (st.kill b).newBox d (.vec e (l.take hi ++ ys)) (.ref d))
            | _ => none)
          | _ => none
        | _ => none
      | _, _ => none)
    | _ => none)
  | _, _ => none

inductive Leaf where
  | fail
  | ret (v : SV)
  | loop (body : Code) (k : List Item) (st : St)
  | more (todo : List Item) (st : St)
  | iter (e : Ty) (L : Bool × List e.D) (ps : List Nat) (assign body : Code) (k : List Item) (st : St)
  | done (st : St)

def opStep (G : Tbl) (T : Nat → Option Ty) (o : Oper) (st : St) : Option (Bool × St) :=
  match opVal G T st.bx (opd st) o with
  | some (c, v) => some (c, st.put o.dst v)
  | none => opEff G T o st

def guardVal (all : List Oper) (st : St) : Nat → Nat × Bool → Option Bool
  | 0, _ => none
  | n + 1, (m, w) => (all[m]?).bind fun o => o.dst.bind fun d => (look d st.sl).bind fun v => v.boolean.bind fun b =>
      match o.guard with
      | none => some (bif w then b else !b)
      | some g => (guardVal all st n g).map fun r => r && (bif w then b else !b)

def setLit (all : List Oper) (m : Nat) (w : Bool) (st : St) : St :=
  match all[m]? with
  | some { guard := none, dst := some d, .. } => ⟨ins d (.tv ⟨.bool, w⟩) st.sl, st.bx⟩
  | _ => st

def hasEdge (o : Oper) (j : Nat) : Bool := o.after.toList.any fun e => Nat.beq e.on j && Region.binds .any e

/-- operation i waits for all that stand before it -/
def domin (all : List Oper) (i : Nat) (o : Oper) : Bool :=
  (List.range i).all fun j => hasEdge o j || (List.range i).any fun k => Nat.blt j k && (match all[k]? with | some p => hasEdge p j | none => false)

def tailGo (all : List Oper) : Nat → List Oper → Bool
  | _, [] => true
  | i, o :: r => domin all i o && tailGo all (i + 1) r

def tailOK (all : List Oper) (i : Nat) : Bool := tailGo all i (all.drop i)

def execR (G : Tbl) (T : Nat → Option Ty) (ro : Bool) (all : List Oper) : List Oper → St → (St → Leaf) → Leaf
  | [], st, k => k st
  | o :: r, st, k =>
    match o.guard with
    | none =>
      (match (bif ro then (opVal G T st.bx (opd st) o).map fun x => (x.1, st.put o.dst x.2) else opStep G T o st) with
      | some (c, st') => bif c then execR G T ro all r st' k else .fail
      | none => bif ro && tailOK all (all.length - (r.length + 1)) then (match opStep G T o st with
        | some (c, st') => bif c then execR G T false all r st' k else .fail
        | none => .fail) else .fail)
    | some (m, w) =>
      match guardVal all st all.length (m, w) with
      | none => .fail
      | some g =>
        match opVal G T st.bx (opd st) o with
        | some (c, v) => bif (c || !g) then execR G T ro all r (st.put o.dst v) k else .fail
        | none => bif !ro || tailOK all (all.length - (r.length + 1)) then
          bif g then (match opEff G T o (setLit all m w st) with
            | some (c, st') => bif c then execR G T false all r st' k else .fail
            | none => .fail)
          else execR G T false all r ((setLit all m (!w) st).unput o.dst) k else .fail

/-- an allocation without a guard -/
def isAlloc (o : Oper) : Bool := match o.op, o.guard, o.dst with | .alloc _, none, some _ => true | _, _, _ => false
/-- the only allocation of a drawn region: it may come at any time -/
def soleA (all : List Oper) (o : Oper) : Bool := isAlloc o && Nat.beq (all.filter isAlloc).length 1
def opValR (G : Tbl) (T : Nat → Option Ty) (all : List Oper) (bx : List (Nat × Box)) (ρ : Operand → Option SV) (o : Oper) : Option (Bool × SV) :=
  match opVal G T bx ρ o with
  | some r => some r
  | none => bif soleA all o then (match o.op with | .alloc t => (T t).map fun _ => (true, .gone) | _ => none) else none
/-- the allocation that has come: its box -/
def pendL (T : Nat → Option Ty) : List Oper → St → St
  | [], st => st
  | o :: r, st => bif isAlloc o then (match o.op, o.dst with
      | .alloc t, some d => (match T t with | some ty => st.newBox d (.var ⟨ty, ty.zero⟩) (.ptr d none []) | none => st)
      | _, _ => st) else pendL T r st
def pend (T : Nat → Option Ty) (all : List Oper) (i : Nat) (st : St) : St := bif Nat.beq (all.filter isAlloc).length 1 then pendL T (all.take i) st else st

/-- a drawn region: it reads, and allocates once, in whatever order; from some place on each operation waits for all before it -/
def execD (G : Tbl) (T : Nat → Option Ty) (all : List Oper) : List Oper → St → (St → Leaf) → Leaf
  | [], st, k => k (pend T all all.length st)
  | o :: r, st, k =>
    match o.guard with
    | none =>
      (match opValR G T all st.bx (opd st) o with
      | some (c, v) => bif c then execD G T all r (st.put o.dst v) k else .fail
      | none => bif tailOK all (all.length - (r.length + 1)) then execR G T false all (o :: r) (pend T all (all.length - (r.length + 1)) st) k else .fail)
    | some (m, w) =>
      match guardVal all st all.length (m, w) with
      | none => .fail
      | some g =>
        match opValR G T all st.bx (opd st) o with
        | some (c, v) => bif (c || !g) then execD G T all r (st.put o.dst v) k else .fail
        | none => bif tailOK all (all.length - (r.length + 1)) then execR G T false all (o :: r) (pend T all (all.length - (r.length + 1)) st) k else .fail

def execX (G : Tbl) (T : Nat → Option Ty) (draw : Bool) (all : List Oper) (st : St) (k : St → Leaf) : Leaf := bif draw then execD G T all all st k else execR G T false all all st k

def unguard : List Oper → St → St
  | [], st => st
  | o :: r, st => match o.guard with
    | none => unguard r st
    | some _ => unguard r (st.unput o.dst)

def tmpsOf (o : Oper) : List Nat := o.op.operands.toList.filterMap fun | .tmp t => some t | _ => none

/-- the guarded operations: slot, place, guard -/
def gds : Nat → List Oper → List (Nat × Nat × Nat × Bool)
  | _, [] => []
  | i, o :: r => match o.guard, o.dst with
    | some g, some d => (d, i, g) :: gds (i + 1) r
    | _, _ => gds (i + 1) r

def implG (all : List Oper) : Nat → Option (Nat × Bool) → Nat × Bool → Bool
  | 0, _, _ => false
  | _ + 1, none, _ => false
  | n + 1, some (m, w), g => (Nat.beq m g.1 && (w == g.2)) || (match all[m]? with | some o => implG all n o.guard g | none => false)

def okRead (all : List Oper) (gs : List (Nat × Nat × Nat × Bool)) (i : Nat) (o : Oper) (t : Nat) : Bool :=
  gs.all fun x => !Nat.beq x.1 t || (Nat.blt x.2.1 i && implG all all.length o.guard x.2.2)

def okPick (all : List Oper) (gs : List (Nat × Nat × Nat × Bool)) (i : Nat) (o : Oper) (c : Nat) (w : Bool) (t : Nat) : Bool :=
  gs.all fun x => !Nat.beq x.1 t || (Nat.blt x.2.1 i && (implG all all.length o.guard x.2.2 || ((x.2.2.2 == w) && (match all[x.2.2.1]? with | some om => (match om.dst with | some d => Nat.beq d c | none => false) | none => false))))

def okOper (all : List Oper) (gs : List (Nat × Nat × Nat × Bool)) (i : Nat) (o : Oper) : Bool :=
  (match o.guard with
    | none => true
    | some (m, _) => o.dst.isSome && Nat.blt m i && (match all[m]? with | some om => om.dst.isSome | none => false)) &&
  (match o.op with
    | .pick c a b => (match c with
      | .tmp c => okRead all gs i o c && (match a with | .tmp t => okPick all gs i o c true t | _ => true) && (match b with | .tmp t => okPick all gs i o c false t | _ => true)
      | _ => (tmpsOf o).all (okRead all gs i o))
    | _ => (tmpsOf o).all (okRead all gs i o))

def okOpers (all : List Oper) (gs : List (Nat × Nat × Nat × Bool)) : Nat → List Oper → Bool
  | _, [] => true
  | i, o :: r => okOper all gs i o && okOpers all gs (i + 1) r

def distinctB : List Nat → Bool
  | [] => true
  | a :: r => !(r.any (Nat.beq a)) && distinctB r

def guardsOK (N : Nat) (all : List Oper) : Bool :=
  okOpers all (gds 0 all) 0 all && distinctB (all.filterMap (·.dst)) && all.all fun o => match o.dst with | some d => Nat.blt d N | none => true

def dsi : Nat → List Oper → List (Nat × Nat × Oper)
  | _, [] => []
  | i, o :: r => match o.dst with
    | some d => (d, i, o) :: dsi (i + 1) r
    | none => dsi (i + 1) r

def looksOf (all : List Oper) (o : Oper) : List Nat :=
  tmpsOf o ++ (match o.guard with
    | some (m, _) => (match all[m]? with | some om => om.dst.toList | none => [])
    | none => [])

def drawOper (all : List Oper) (ds : List (Nat × Nat × Oper)) (i : Nat) (o : Oper) : Bool :=
  (looksOf all o).all fun t => ds.all fun x => !Nat.beq x.1 t || Nat.beq x.2.1 i || (bif Nat.blt x.2.1 i then hasEdge o x.2.1 else hasEdge x.2.2 i)

def drawOpers (all : List Oper) (ds : List (Nat × Nat × Oper)) : Nat → List Oper → Bool
  | _, [] => true
  | i, o :: r => drawOper all ds i o && (o.after.toList.all fun e => !Region.binds .any e || Nat.blt e.on i) && drawOpers all ds (i + 1) r

def drawOK (all : List Oper) : Bool := drawOpers all (dsi 0 all) 0 all

def retOne (T : Nat → Option Ty) (st : St) : ResultVar → Option SV
  | .tmp t => (look t st.sl).bind fun
    | .ref b => (match look b st.bx with | some (.vec e l) => some (.own e l) | _ => none)
    | .tv d => some (.tv d)
    | _ => none
  | .cell a t => (T t).bind fun ty => (look a st.sl).bind fun
    | .ptr b none [] => (match look b st.bx with | some (.var d) => (d.as ty).map fun x => .tv ⟨ty, x⟩ | _ => none)
    | _ => none

def retBoxes (st : St) : List ResultVar → List Nat
  | [] => []
  | .tmp t :: r => (match look t st.sl with | some (.ref b) => b :: retBoxes st r | _ => retBoxes st r)
  | _ :: r => retBoxes st r

def retOf (T : Nat → Option Ty) (rs : List ResultVar) (st : St) : Option SV :=
  match rs with
  | [r] => retOne T st r
  | rs => bif distinctB (retBoxes st rs) then (mapO (retOne T st) rs).map .tup else none

def leave (T : Nat → Option Ty) (rs : List ResultVar) (st : St) : Leaf :=
  match retOf T rs st with
  | some v => .ret v
  | none => .fail

def killAll : List Nat → St → St
  | [], st => st
  | b :: r, st => killAll r (st.kill b)

def pickS {α : Type} (ks : List Nat) : List (Nat × α) → List (Nat × α)
  | [] => []
  | (j, u) :: r => bif ks.any (Nat.beq j) then (j, u) :: pickS ks r else pickS ks r

def outS {α : Type} (ks : List Nat) : List (Nat × α) → List Nat
  | [] => []
  | (j, _) :: r => bif ks.any (Nat.beq j) then outS ks r else j :: outS ks r

/-- forget all slots and boxes but these -/
def keep (ks : List Nat) (st : St) : St :=
  let st' := killAll (outS ks st.bx) st
  ⟨pickS ks st'.sl, st'.bx⟩

/-- the first region of a piece of code: tells one loop from another -/
def Code.rid : Code → Nat
  | .region id _ _ => id
  | .seq a b => (match a with | .skip => Code.rid b | a => Code.rid a)
  | .cond _ a _ | .block _ a | .loop a | .scope a => Code.rid a
  | _ => 0

/-- operations that defer nothing, by their kind alone -/
def plainOp (o : Oper) : Bool :=
  match o.op with
  | .move _ | .assign _ | .pick _ _ _ | .alloc _ | .box _ _ | .build _ _ | .buildSlice _ _ _ | .load _ _ | .store _ _ _ | .binOp _ _ _ _ _ | .unOp _ _ _
  | .convert _ _ _ | .makeSlice _ _ _ | .slice _ _ _ _ _ | .fieldAddr _ _ _ | .field _ _ _ | .indexAddr _ _ _ | .index _ _ _ | .extract _ _ => true
  | .call c => (match c.callee with | .builtin .len | .builtin .max | .builtin .min | .builtin .append => true | _ => false)
  | _ => false

/-- in a round of a range over a function: no operation writes a slot that is pinned, none defers (where the pins hold 999999: by its kind) -/
def pinOK (md : Option (List Nat)) (ops : List Oper) : Bool :=
  match md with
  | none => true
  | some ps => (ops.all fun o => (match o.dst with | some d => !ps.any (Nat.beq d) | none => true) && (match o.op with | .defer _ => false | _ => true)) && (!ps.any (Nat.beq 999999) || ops.all plainOp)

def runP (md : Option (List Nat)) (G : Tbl) (T : Nat → Option Ty) (N : Nat) (rs : List ResultVar) (ks : Nat → List Nat) : Nat → List Item → St → Leaf
  | 0, todo, st => .more todo (keep (ks todo.length) st)
  | _ + 1, [], st => (match md with | none => leave T rs st | some _ => .done st)
  | n + 1, x :: k, st =>
    match x with
    | .code .ret => (match md with | none => leave T rs st | some _ => .fail)
    | .code .skip | .inBlock _ => runP md G T N rs ks n k st
    | .code (.seq a b) => runP md G T N rs ks n (.code a :: .code b :: k) st
    | .code (.cond c x y) =>
      (match opd st c with
      | some (.tv ⟨.bool, b⟩) => bif b then runP md G T N rs ks n (.code x :: k) st else runP md G T N rs ks n (.code y :: k) st
      | _ => .fail)
    | .code (.block id body) => runP md G T N rs ks n (.code body :: .inBlock id :: k) st
    | .code (.loop body) | .inLoop body => .loop body k (keep (ks (64 * Code.rid body + k.length)) st)
    | .code (.exit id) => (match exitTo id k with | some k' => runP md G T N rs ks n k' st | none => .fail)
    | .code (.region _ ops draw) =>
      bif guardsOK N ops.toList && (!draw || drawOK ops.toList) && pinOK md ops.toList then
        execX G T draw ops.toList st fun st' => runP md G T N rs ks n k (unguard ops.toList st')
      else .fail
    | .code (.rangeFunc f ps assign body) => (match md with
      | none => (match opd st f with
        | some (.tv ⟨.seq e, L⟩) => .iter e L ps.toList assign body k (keep (ks (64 * Code.rid body + k.length)) st)
        | _ => .fail)
      | some _ => .fail)
    | _ => .fail

def run (G : Tbl) (T : Nat → Option Ty) (N : Nat) (rs : List ResultVar) (ks : Nat → List Nat) (n : Nat) (todo : List Item) (st : St) : Leaf := runP none G T N rs ks n todo st

def entry (args : List TD) : St :=
  ⟨go 0 args, []⟩
where
  go (i : Nat) : List TD → List (Nat × SV)
    | [] => []
    | d :: r => (i, .tv d) :: go (i + 1) r

end Go.Lift
namespace Go.Lift

/-! Stable memory -/
def Store (_ : Program) := Nat → Option Obj

def Store.cell? {P : Program} (σ : Store P) (a : Addr) : Option Value :=
  match σ a.block with
  | some (.cells c _ _) => if a.spot.isSome then none else c[a.off]?
  | _ => none

section
variable {P : Program}
def Lies (σ : Store P) (a : Addr) (cs : List Value) : Prop := ∀ j v, cs[j]? = some v → σ.cell? (a.add j) = some v

def Store.le (σ τ : Store P) : Prop := ∀ b o, σ b = some o → τ b = some o
def Holds (w : World) (σ : Store P) : Prop := ∀ b o, σ b = some o → w.heap[b]? = some o

structure Step (σ : Store P) (w : World) (σ' : Store P) (w' : World) : Prop where
  le : Store.le σ σ'
  holds : Holds w' σ'
  news : ∀ b o, σ' b = some o → σ b = some o ∨ w.heap.size ≤ b
  size : w.heap.size ≤ w'.heap.size
  block : ∀ b, b < w.heap.size → w'.heap[b]? = w.heap[b]?
  os : w'.os = w.os
  output : w'.output = w.output
  tape : w'.tape = w.tape

def FnOK (P : Program) (f : Nat) : Prop := ∃ fn : Func, P.funcs[f]? = some fn ∧ fn.body.isNone = false ∧ (fn.name == "runtime.NumGoroutine") = false

/-- nothing that lay has changed -/
structure Grown (w w' : World) : Prop where
  size : w.heap.size ≤ w'.heap.size
  block : ∀ b, b < w.heap.size → w'.heap[b]? = w.heap[b]?
  os : w'.os = w.os
  output : w'.output = w.output
  tape : w'.tape = w.tape

def isAggV : Value → Bool
  | .agg _ => true
  | _ => false

/-- values for the places of a type of arguments -/
def ArgShape : Ty → List Value → Prop
  | .cons a b, v :: vs => v.cells.size = a.size ∧ isAggV v = a.isAgg ∧ ArgShape b vs
  | .nil, [] => True
  | _, _ => False

def flatCells (vs : List Value) : List Value := vs.flatMap fun v => v.cells.toList

/-- one round of a loop over a function: the loop's record l is asked for it, the round runs, the loop goes on -/
def Yielded (P : Program) (l : Nat) (u : Value) (w : World) (R : World → Prop) : Prop :=
  ∃ fn tmps assign body, (Instr.yield l #[u]).run P w = .ok (.round l fn tmps assign body) w ∧
    ∀ (c : Frame) (cs : List Frame), ∃ w', R w' ∧ Steps P (lone (Frame.round l fn tmps assign body .normal) (c :: cs) w) (lone (c.finish (.bool true)) cs w')

theorem Store.le.refl (σ : Store P) : Store.le σ σ := fun _ _ h => h
theorem Store.le.trans {a b c : Store P} (h : Store.le a b) (h' : Store.le b c) : Store.le a c := fun _ _ x => h' _ _ (h _ _ x)

theorem Store.le.cell {σ τ : Store P} (h : Store.le σ τ) {a : Addr} {v : Value} (hc : σ.cell? a = some v) : τ.cell? a = some v := by
  unfold Store.cell? at *
  cases hs : σ a.block with
  | none => simp [hs] at hc
  | some o => rw [h _ _ hs]; simpa [hs] using hc

theorem Holds.cell {w : World} {σ : Store P} (h : Holds w σ) {a : Addr} {v : Value} (hc : σ.cell? a = some v) : w.cell? a = some v := by
  unfold Store.cell? at hc
  unfold World.cell?
  cases hs : σ a.block with
  | none => simp [hs] at hc
  | some o => rw [h _ _ hs]; rw [hs] at hc; exact hc

theorem Lies.mono {σ τ : Store P} (h : Store.le σ τ) {a : Addr} {cs : List Value} (hl : Lies σ a cs) : Lies τ a cs := fun j v hv => h.cell (hl j v hv)

theorem addr_add_add (a : Addr) (i j : Nat) : (a.add i).add j = a.add (i + j) := by
  unfold Addr.add
  by_cases hi : i = 0
  · subst hi; simp
  · by_cases hj : j = 0
    · subst hj; simp [hi]
    · simp [hi, hj, Nat.add_assoc]

theorem addr_add_zero (a : Addr) : a.add 0 = a := by simp [Addr.add]

theorem addr_add_block (a : Addr) (n : Nat) : (a.add n).block = a.block := by unfold Addr.add; split <;> rfl

theorem addr_lit (g o n : Nat) : (⟨g, o, none⟩ : Addr).add n = ⟨g, o + n, none⟩ := by
  unfold Addr.add; split <;> simp_all

theorem Lies.app {σ : Store P} {a : Addr} {c r : List Value} (h : Lies σ a (c ++ r)) : Lies σ a c ∧ Lies σ (a.add c.length) r := by
  constructor
  · intro j v hv
    exact h j v (by rw [List.getElem?_append_left (List.getElem?_eq_some_iff.1 hv).1]; exact hv)
  · intro j v hv
    rw [addr_add_add]
    exact h (c.length + j) v (by rw [List.getElem?_append_right (by omega)]; simpa using hv)

/-! Data in cells -/
def Enc (σ : Store P) : (t : Ty) → t.D → List Value → Prop
  | .int k, n, cs => cs = [.int k n]
  | .bool, b, cs => cs = [.bool b]
  | .str, s, cs => cs = [.string s]
  | .slice e, l, cs => ∃ ad cap, cs = [.slice ad (List.length l) cap] ∧ List.length l ≤ cap ∧ (ad = none → cap = 0) ∧
      ∀ (i : Nat) (h : i < List.length l), ∃ a c, ad = some a ∧ List.length c = e.size ∧ Lies σ (a.add (i * e.size)) c ∧ Enc σ e (l[i]) c
  | .nil, _, cs => cs = []
  | .cons a b, x, cs => ∃ c r, cs = c ++ r ∧ Enc σ a x.1 c ∧ Enc σ b x.2 r
  | .ptr e, q, cs => ∃ v, cs = [v] ∧ v.oneCell' = true ∧ isAggV v = false ∧ (q.1 = true → ∃ a c, v = .pointer (some a) ∧ Lies σ a c ∧ Enc σ e q.2 c)
  | .fn a r, φ, cs => ∃ v, cs = [v] ∧ v.oneCell' = true ∧ isAggV v = false ∧ ∀ x, (φ x).1 = true → ∃ f caps, v = .func (.func f) #[] caps ∧ FnOK P f ∧
      ∀ (τ : Store P) (w : World) (vs : List Value), Store.le σ τ → Holds w τ → ArgShape a vs → Enc τ a x (flatCells vs) →
        Calls P f (vs.toArray ++ caps) w fun en w' => ∃ u τ', en = .returned u ∧ Step τ w τ' w' ∧ Enc τ' r (φ x).2 u.cells.toList ∧ isAggV u = r.isAgg
  | .seq e, L, cs => ∃ v, cs = [v] ∧ v.oneCell' = true ∧ isAggV v = false ∧ (L.1 = true → ∃ f caps, v = .func (.func f) #[] caps ∧ FnOK P f ∧
      ∀ (τ : Store P) (w : World) (l : Nat) (I : Nat → World → Prop), Store.le σ τ → (∀ i w', I i w' → Holds w' τ) → (∀ i w' w'', I i w' → Grown w' w'' → I i w'') →
        (∀ (i : Nat) (x : e.D) (u : Value) (w' : World), L.2[i]? = some x → I i w' → Enc τ e x u.cells.toList → isAggV u = e.isAgg → Yielded P l u w' (I (i + 1))) →
        I 0 w → Calls P f (#[.func (.yield l) #[] #[]] ++ caps) w fun en w' => (∃ u, en = .returned u) ∧ I (List.length L.2) w')

theorem Enc.mono {σ τ : Store P} (h : Store.le σ τ) : ∀ (t : Ty) (x : t.D) (cs : List Value), Enc σ t x cs → Enc τ t x cs
  | .int _, _, _, e => e
  | .bool, _, _, e => e
  | .str, _, _, e => e
  | .nil, _, _, e => e
  | .cons a b, _, _, ⟨c, r, h1, h2, h3⟩ => ⟨c, r, h1, Enc.mono h a _ _ h2, Enc.mono h b _ _ h3⟩
  | .slice e, _, _, ⟨ad, cap, h1, h2, h3, h4⟩ => ⟨ad, cap, h1, h2, h3, fun i hi => let ⟨a, c, g1, g2, g3, g4⟩ := h4 i hi; ⟨a, c, g1, g2, g3.mono h, Enc.mono h e _ _ g4⟩⟩
  | .ptr e, _, _, ⟨v, h1, h2, h3, h4⟩ => ⟨v, h1, h2, h3, fun hq => let ⟨a, c, g1, g2, g3⟩ := h4 hq; ⟨a, c, g1, g2.mono h, Enc.mono h e _ _ g3⟩⟩
  | .fn _ _, _, _, ⟨v, h1, h2, h3, h4⟩ => ⟨v, h1, h2, h3, fun x hx => let ⟨f, caps, g1, g2, g3⟩ := h4 x hx; ⟨f, caps, g1, g2, fun τ w vs hl => g3 τ w vs (h.trans hl)⟩⟩
  | .seq _, _, _, ⟨v, h1, h2, h3, h4⟩ => ⟨v, h1, h2, h3, fun hL => let ⟨f, caps, g1, g2, g3⟩ := h4 hL; ⟨f, caps, g1, g2, fun τ w l I hl => g3 τ w l I (h.trans hl)⟩⟩

theorem Enc.length {σ : Store P} : ∀ (t : Ty) (x : t.D) (cs : List Value), Enc σ t x cs → cs.length = t.size
  | .int _, _, _, e => by simp [Enc] at e; simp [e, Ty.size]
  | .bool, _, _, e => by simp [Enc] at e; simp [e, Ty.size]
  | .str, _, _, e => by simp [Enc] at e; simp [e, Ty.size]
  | .nil, _, _, e => by simp [Enc] at e; simp [e, Ty.size]
  | .cons a b, _, _, ⟨c, r, h1, h2, h3⟩ => by simp [h1, Ty.size, Enc.length a _ _ h2, Enc.length b _ _ h3]
  | .slice _, _, _, ⟨_, _, h1, _⟩ => by simp [h1, Ty.size]
  | .ptr _, _, _, ⟨_, h1, _⟩ => by simp [h1, Ty.size]
  | .fn _ _, _, _, ⟨_, h1, _⟩ => by simp [h1, Ty.size]
  | .seq _, _, _, ⟨_, h1, _⟩ => by simp [h1, Ty.size]

theorem Enc.one {σ : Store P} : ∀ (t : Ty) (x : t.D) (cs : List Value), Enc σ t x cs → ∀ v ∈ cs, v.oneCell' = true
  | .int _, _, _, e => by simp [Enc] at e; simp [e, Value.oneCell']
  | .bool, _, _, e => by simp [Enc] at e; simp [e, Value.oneCell']
  | .str, _, _, e => by simp [Enc] at e; simp [e, Value.oneCell']
  | .nil, _, _, e => by simp [Enc] at e; simp [e]
  | .cons a b, _, _, ⟨c, r, h1, h2, h3⟩ => by
    intro v hv
    rw [h1, List.mem_append] at hv
    exact hv.elim (Enc.one a _ _ h2 v) (Enc.one b _ _ h3 v)
  | .slice _, _, _, ⟨_, _, h1, _⟩ => by simp [h1, Value.oneCell']
  | .ptr _, _, _, ⟨_, h1, h2, _⟩ => by simp [h1, h2]
  | .fn _ _, _, _, ⟨_, h1, h2, _⟩ => by simp [h1, h2]
  | .seq _, _, _, ⟨_, h1, h2, _⟩ => by simp [h1, h2]

def offs : Ty → Nat → Nat
  | .cons _ _, 0 => 0
  | .cons a b, n + 1 => a.size + offs b n
  | _, _ => 0

theorem Enc.fld {σ : Store P} : ∀ (t : Ty) (x : t.D) (i : Nat) (d : TD) (cs : List Value), getFld t x i = some d → Enc σ t x cs →
    ∃ p c r, cs = p ++ c ++ r ∧ p.length = offs t i ∧ Enc σ d.t d.x c
  | .cons a b, x, 0, d, cs, h, ⟨c, r, h1, h2, _⟩ => by
    simp [getFld] at h; subst h
    exact ⟨[], c, r, by simp [h1], rfl, h2⟩
  | .cons a b, x, n + 1, d, cs, h, ⟨c, r, h1, h2, h3⟩ => by
    simp only [getFld] at h
    obtain ⟨p, c', r', g1, g2, g3⟩ := Enc.fld b x.2 n d r h h3
    exact ⟨c ++ p, c', r', by simp [h1, g1], by simp [offs, Enc.length a _ _ h2, g2], g3⟩
  | .int _, _, _, _, _, h, _ => by simp [getFld] at h
  | .bool, _, _, _, _, h, _ => by simp [getFld] at h
  | .str, _, _, _, _, h, _ => by simp [getFld] at h
  | .nil, _, _, _, _, h, _ => by simp [getFld] at h
  | .slice _, _, _, _, _, h, _ => by simp [getFld] at h
  | .ptr _, _, _, _, _, h, _ => by simp [getFld] at h
  | .fn _ _, _, _, _, _, h, _ => by simp [getFld] at h
  | .seq _, _, _, _, _, h, _ => by simp [getFld] at h

theorem TD.as_eq {d : TD} {t : Ty} {x : t.D} (h : d.as t = some x) : d = ⟨t, x⟩ := by
  obtain ⟨u, y⟩ := d
  unfold TD.as at h
  split at h
  · rename_i e
    simp only at e
    subst e
    simp at h
    subst h
    rfl
  · simp at h

theorem TD.as_self (t : Ty) (x : t.D) : TD.as ⟨t, x⟩ t = some x := by simp [TD.as]

theorem Enc.set {σ : Store P} : ∀ (t : Ty) (x x' : t.D) (i : Nat) (d0 d : TD) (cs : List Value), getFld t x i = some d0 → setFld t x i d = some x' → Enc σ t x cs →
    ∃ p c r, cs = p ++ c ++ r ∧ p.length = offs t i ∧ Enc σ d0.t d0.x c ∧ d.t = d0.t ∧ ∀ c', Enc σ d.t d.x c' → Enc σ t x' (p ++ c' ++ r)
  | .cons a b, x, x', 0, d0, d, cs, h, hs, ⟨c, r, h1, h2, h3⟩ => by
    simp [getFld] at h; subst h
    simp only [setFld, Option.map_eq_some_iff] at hs
    obtain ⟨y, hy, rfl⟩ := hs
    have := TD.as_eq hy
    subst this
    exact ⟨[], c, r, by simp [h1], rfl, h2, rfl, fun c' hc' => ⟨c', r, by simp, hc', h3⟩⟩
  | .cons a b, x, x', n + 1, d0, d, cs, h, hs, ⟨c, r, h1, h2, h3⟩ => by
    simp only [getFld] at h
    simp only [setFld, Option.map_eq_some_iff] at hs
    obtain ⟨y, hy, rfl⟩ := hs
    obtain ⟨p, c1, r', g1, g2, g3, g4, g5⟩ := Enc.set b x.2 y n d0 d r h hy h3
    exact ⟨c ++ p, c1, r', by simp [h1, g1], by simp [offs, Enc.length a _ _ h2, g2], g3, g4, fun c' hc' => ⟨c, p ++ c' ++ r', by simp, h2, g5 c' hc'⟩⟩
  | .int _, _, _, _, _, _, _, h, _, _ => by simp [getFld] at h
  | .bool, _, _, _, _, _, _, h, _, _ => by simp [getFld] at h
  | .str, _, _, _, _, _, _, h, _, _ => by simp [getFld] at h
  | .nil, _, _, _, _, _, _, h, _, _ => by simp [getFld] at h
  | .slice _, _, _, _, _, _, _, h, _, _ => by simp [getFld] at h
  | .ptr _, _, _, _, _, _, _, h, _, _ => by simp [getFld] at h
  | .fn _ _, _, _, _, _, _, _, h, _, _ => by simp [getFld] at h
  | .seq _, _, _, _, _, _, _, h, _, _ => by simp [getFld] at h

/-! paths -/
theorem getPath_cons {d : TD} {i : Nat} {r : List Nat} {e : TD} (h : getPath d (i :: r) = some e) : ∃ d', getFld d.t d.x i = some d' ∧ getPath d' r = some e := by
  simpa [getPath, Option.bind_eq_some_iff] using h

def offPath : TD → List Nat → Nat
  | _, [] => 0
  | d, i :: r => offs d.t i + (match getFld d.t d.x i with | some d' => offPath d' r | none => 0)

theorem Enc.path {σ : Store P} : ∀ (p : List Nat) (d e : TD) (cs : List Value), getPath d p = some e → Enc σ d.t d.x cs →
    ∃ a c r, cs = a ++ c ++ r ∧ a.length = offPath d p ∧ Enc σ e.t e.x c
  | [], d, e, cs, h, he => by
    simp [getPath] at h; subst h
    exact ⟨[], cs, [], by simp, rfl, he⟩
  | i :: p, d, e, cs, h, he => by
    obtain ⟨d', h1, h2⟩ := getPath_cons h
    obtain ⟨a, c, r, g1, g2, g3⟩ := Enc.fld d.t d.x i d' cs h1 he
    obtain ⟨a', c', r', k1, k2, k3⟩ := Enc.path p d' e c h2 g3
    exact ⟨a ++ a', c', r' ++ r, by simp [g1, k1], by simp [offPath, h1, g2, k2], k3⟩

theorem getPath_snoc : ∀ (p : List Nat) (d e f : TD) (i : Nat), getPath d p = some e → getFld e.t e.x i = some f → getPath d (p ++ [i]) = some f
  | [], d, e, f, i, h, hf => by simp [getPath] at h; subst h; simp [getPath, hf]
  | j :: p, d, e, f, i, h, hf => by
    obtain ⟨d', h1, h2⟩ := getPath_cons h
    simp [getPath, h1, getPath_snoc p d' e f i h2 hf]

theorem offPath_snoc : ∀ (p : List Nat) (d e : TD) (i : Nat), getPath d p = some e → offPath d (p ++ [i]) = offPath d p + offs e.t i
  | [], d, e, i, h => by
    simp only [getPath, Option.some.injEq] at h; subst h
    simp only [List.nil_append, offPath]
    split <;> simp
  | j :: p, d, e, i, h => by
    obtain ⟨d', h1, h2⟩ := getPath_cons h
    simp [offPath, h1, offPath_snoc p d' e i h2, Nat.add_assoc]

theorem Enc.setPath {σ : Store P} : ∀ (p : List Nat) (d v : TD) (x' : d.t.D) (cs : List Value), setPath d p v = some x' → Enc σ d.t d.x cs →
    ∃ e, getPath d p = some e ∧ v.t = e.t ∧ ∃ a c r, cs = a ++ c ++ r ∧ a.length = offPath d p ∧ Enc σ e.t e.x c ∧ ∀ c', Enc σ v.t v.x c' → Enc σ d.t x' (a ++ c' ++ r)
  | [], d, v, x', cs, h, he => by
    simp only [Lift.setPath] at h
    have := TD.as_eq h
    subst this
    exact ⟨d, rfl, rfl, [], cs, [], by simp, rfl, he, fun c' hc' => by simpa using hc'⟩
  | i :: p, d, v, x', cs, h, he => by
    simp only [Lift.setPath, Option.bind_eq_some_iff] at h
    obtain ⟨d', h1, y, h2, h3⟩ := h
    obtain ⟨a, c, r, g1, g2, g3, g4, g5⟩ := Enc.set d.t d.x x' i d' ⟨d'.t, y⟩ cs h1 h3 he
    obtain ⟨e, k0, k1, a', c', r', k2, k3, k4, k5⟩ := Enc.setPath p d' v y c h2 g3
    exact ⟨e, by simp [getPath, h1, k0], k1, a ++ a', c', r' ++ r, by simp [g1, k2], by simp [offPath, h1, g2, k3], k4,
      fun c2 hc2 => by have := g5 _ (k5 c2 hc2); simpa using this⟩

/-! lists of elements -/
def EncL (σ : Store P) (t : Ty) : List t.D → List Value → Prop
  | [], cs => cs = []
  | x :: l, cs => ∃ c r, cs = c ++ r ∧ Enc σ t x c ∧ EncL σ t l r

theorem EncL.mono {σ τ : Store P} (h : Store.le σ τ) {t : Ty} : ∀ (l : List t.D) (cs : List Value), EncL σ t l cs → EncL τ t l cs
  | [], _, e => e
  | _ :: l, _, ⟨c, r, h1, h2, h3⟩ => ⟨c, r, h1, h2.mono h, EncL.mono h l r h3⟩

theorem EncL.length {σ : Store P} {t : Ty} : ∀ (l : List t.D) (cs : List Value), EncL σ t l cs → cs.length = l.length * t.size
  | [], _, e => by simp [EncL] at e; simp [e]
  | _ :: l, _, ⟨c, r, h1, h2, h3⟩ => by
    simp [h1, h2.length, EncL.length l r h3, Nat.add_mul, Nat.add_comm]

theorem EncL.one {σ : Store P} {t : Ty} : ∀ (l : List t.D) (cs : List Value), EncL σ t l cs → ∀ v ∈ cs, v.oneCell' = true
  | [], _, e => by simp [EncL] at e; simp [e]
  | _ :: l, _, ⟨c, r, h1, h2, h3⟩ => by
    intro v hv
    rw [h1, List.mem_append] at hv
    exact hv.elim (h2.one _ _ _ v) (EncL.one l r h3 v)

theorem EncL.app {σ : Store P} {t : Ty} : ∀ (l m : List t.D) (cs ds : List Value), EncL σ t l cs → EncL σ t m ds → EncL σ t (l ++ m) (cs ++ ds)
  | [], m, cs, ds, h, h' => by simp [EncL] at h; subst h; simpa using h'
  | _ :: l, m, _, ds, ⟨c, r, h1, h2, h3⟩, h' => ⟨c, r ++ ds, by simp [h1], h2, EncL.app l m r ds h3 h'⟩

theorem EncL.take {σ : Store P} {t : Ty} : ∀ (n : Nat) (l : List t.D) (cs : List Value), EncL σ t l cs → n ≤ l.length → EncL σ t (l.take n) (cs.take (n * t.size)) ∧ EncL σ t (l.drop n) (cs.drop (n * t.size))
  | 0, l, cs, h, _ => by simp [EncL]; exact h
  | n + 1, [], _, _, hn => by simp at hn
  | n + 1, x :: l, cs, ⟨c, r, h1, h2, h3⟩, hn => by
    have hc : c.length = t.size := h2.length
    obtain ⟨k1, k2⟩ := EncL.take n l r h3 (by simpa using hn)
    have e : (n + 1) * t.size = c.length + n * t.size := by rw [Nat.add_mul, hc]; omega
    constructor
    · refine ⟨c, r.take (n * t.size), ?_, h2, k1⟩
      rw [h1, e, List.take_length_add_append]
    · show EncL σ t (l.drop n) _
      rw [h1, e, List.drop_length_add_append]
      exact k2

theorem EncL.get {σ : Store P} {t : Ty} (l : List t.D) (cs : List Value) (h : EncL σ t l cs) (i : Nat) (hi : i < l.length) :
    ∃ p c r, cs = p ++ c ++ r ∧ p.length = i * t.size ∧ Enc σ t l[i] c ∧ ∀ (x : t.D) (c' : List Value), Enc σ t x c' → EncL σ t (l.set i x) (p ++ c' ++ r) := by
  induction l generalizing cs i with
  | nil => simp at hi
  | cons y l ih =>
    obtain ⟨c, r, h1, h2, h3⟩ := h
    cases i with
    | zero => exact ⟨[], c, r, by simp [h1], by simp, h2, fun x c' hx => ⟨c', r, by simp, hx, h3⟩⟩
    | succ i =>
      obtain ⟨p, c2, r2, g1, g2, g3, g4⟩ := ih r h3 i (by simpa using hi)
      refine ⟨c ++ p, c2, r2, by simp [h1, g1], ?_, by simpa using g3, fun x c' hx => ⟨c, p ++ c' ++ r2, by simp, h2, g4 x c' hx⟩⟩
      simp [h2.length, g2, Nat.add_mul, Nat.add_comm]

theorem EncL.ofSlice {σ : Store P} {t : Ty} (l : List t.D) (ad : Option Addr) (h : ∀ (i : Nat) (h : i < l.length), ∃ a c, ad = some a ∧ c.length = t.size ∧ Lies σ (a.add (i * t.size)) c ∧ Enc σ t (l[i]) c) :
    ∃ cs, EncL σ t l cs ∧ (∀ a, ad = some a → Lies σ a cs) := by
  induction l generalizing ad with
  | nil => exact ⟨[], rfl, fun a _ j v hv => by simp at hv⟩
  | cons x l ih =>
    obtain ⟨a, c, h1, h2, h3, h4⟩ := h 0 (by simp)
    subst h1
    obtain ⟨cs, g1, g2⟩ := ih (some (a.add t.size)) (fun i hi => by
      obtain ⟨a', c', k1, k2, k3, k4⟩ := h (i + 1) (by simpa using hi)
      simp at k1; subst k1
      refine ⟨_, c', rfl, k2, ?_, by simpa using k4⟩
      rw [addr_add_add, show t.size + i * t.size = (i + 1) * t.size by rw [Nat.add_mul]; omega]
      exact k3)
    refine ⟨c ++ cs, ⟨c, cs, rfl, by simpa using h4, g1⟩, fun a' ha' => ?_⟩
    simp at ha'; subst ha'
    intro j v hv
    by_cases hj : j < c.length
    · rw [List.getElem?_append_left hj] at hv
      have := h3 j v hv
      simpa [addr_add_zero] using this
    · rw [List.getElem?_append_right (by omega)] at hv
      have := g2 _ rfl _ _ hv
      rw [addr_add_add] at this
      rw [show j = t.size + (j - c.length) by omega]
      exact this

theorem EncL.toSlice {σ : Store P} {t : Ty} (l : List t.D) (cs : List Value) (h : EncL σ t l cs) (a : Addr) (hl : Lies σ a cs) :
    ∀ (i : Nat) (h : i < l.length), ∃ a' c, some a = some a' ∧ c.length = t.size ∧ Lies σ (a'.add (i * t.size)) c ∧ Enc σ t (l[i]) c := by
  intro i hi
  obtain ⟨p, c, r, h1, h2, h3, _⟩ := h.get l cs i hi
  subst h1
  refine ⟨a, c, rfl, h3.length, ?_, h3⟩
  have := (hl.app).1.app.2
  rwa [h2] at this

end
end Go.Lift
namespace Go.Lift

/-! The table of types, held against the program -/
def zeroB : Ty → List Value → Bool
  | .int k, cs => (match cs with | [.int k' n] => decide (k' = k) && decide (n = 0) | _ => false)
  | .bool, cs => (match cs with | [.bool b] => !b | _ => false)
  | .str, cs => (match cs with | [.string s] => decide (s.size = 0) | _ => false)
  | .slice _, cs => (match cs with | [.slice none 0 0] => true | _ => false)
  | .nil, cs => cs.isEmpty
  | .ptr _, cs => (match cs with | [.pointer none] => true | _ => false)
  | .fn _ _, cs | .seq _, cs => (match cs with | [.nilFunc] => true | _ => false)
  | .cons a b, cs => zeroB a (cs.take a.size) && zeroB b (cs.drop a.size)

def infoOK (P : Program) (t : Ty) (ty : Nat) : Bool :=
  match P.info? ty with
  | some i => decide (i.size = t.size) && (decide (i.bytes ≤ t.wid) && (!t.exact || decide (i.bytes = t.wid))) &&
    (match i.zero with | some z => zeroB t z.cells.toList && (isAggV z == t.isAgg) | none => false)
  | none => false

def eqOK (P : Program) (ty : Nat) : Bool := !P.stoodInHeld ty && !P.eqGuardType P.depth ty

mutual
def chk (P : Program) : Ty → Nat → Bool
  | .int k, ty => infoOK P (.int k) ty && (match P.underlying ty with | some (.int k') => decide (k' = k) | _ => false)
  | .bool, ty => infoOK P .bool ty && (match P.underlying ty with | some .bool => true | _ => false)
  | .str, ty => infoOK P .str ty && (match P.underlying ty with | some .string => true | _ => false)
  | .slice e, ty => infoOK P (.slice e) ty && (match P.underlying ty with | some (.slice et) => chk P e et && decide (0 < e.size) | _ => false)
  | .ptr e, ty => infoOK P (.ptr e) ty && (match P.underlying ty with | some (.pointer et) => chk P e et | _ => false)
  | .fn a r, ty => infoOK P (.fn a r) ty && (match P.underlying ty with | some (.func _ _ _) => true | _ => false)
  | .seq e, ty => infoOK P (.seq e) ty && (match P.underlying ty with | some (.func _ _ _) => true | _ => false)
  | .nil, ty => infoOK P .nil ty && eqOK P ty && (match P.underlying ty with | some (.struct fs) => fs.isEmpty | _ => false)
  | .cons a b, ty => infoOK P (.cons a b) ty && eqOK P ty && (match P.underlying ty with
    | some (.struct fs) => (match fs.toList with
      | f :: r => decide (f.offset = 0) && decide (f.name ≠ "_") && chk P a f.type && chkF P b r a.size
      | [] => false) && decide (a ≠ .nil)
    | some (.array n et) => (match a with | .nil => chkA P b et n | _ => false)
    | _ => false)
def chkF (P : Program) : Ty → List Field → Nat → Bool
  | .nil, fs, _ => fs.isEmpty
  | .cons a b, fs, off => (match fs with
    | f :: r => decide (f.offset = off) && decide (f.name ≠ "_") && chk P a f.type && chkF P b r (off + a.size)
    | [] => false)
  | _, _, _ => false
def chkA (P : Program) : Ty → Nat → Nat → Bool
  | .nil, _, n => decide (n = 0)
  | .cons a b, et, n => decide (0 < n) && chk P a et && chkA P b et (n - 1)
  | _, _, _ => false
end

section
variable {P : Program}
theorem zeroB_enc {σ : Store P} : ∀ (t : Ty) (cs : List Value), zeroB t cs = true → Enc σ t t.zero cs
  | .int k, cs, h => by
    unfold zeroB at h
    split at h
    · simp at h; obtain ⟨rfl, rfl⟩ := h; rfl
    · simp at h
  | .bool, cs, h => by
    unfold zeroB at h
    split at h
    · simp at h; subst h; rfl
    · simp at h
  | .str, cs, h => by
    unfold zeroB at h
    split at h
    · rename_i s
      simp at h
      subst h; rfl
    · simp at h
  | .slice e, cs, h => by
    unfold zeroB at h
    split at h
    · exact ⟨none, 0, rfl, by simp [Ty.zero], fun _ => rfl, fun i hi => by simp [Ty.zero] at hi⟩
    · simp at h
  | .nil, cs, h => by simpa [zeroB, Enc] using h
  | .ptr e, cs, h => by
    unfold zeroB at h
    split at h
    · exact ⟨_, rfl, rfl, rfl, fun h => by cases h⟩
    · simp at h
  | .fn a r, cs, h => by
    unfold zeroB at h
    split at h
    · exact ⟨_, rfl, rfl, rfl, fun x h => by cases h⟩
    · simp at h
  | .seq e, cs, h => by
    unfold zeroB at h
    split at h
    · exact ⟨_, rfl, rfl, rfl, fun h => by cases h⟩
    · simp at h
  | .cons a b, cs, h => by
    simp only [zeroB, Bool.and_eq_true] at h
    exact ⟨_, _, (List.take_append_drop a.size cs).symm, zeroB_enc a _ h.1, zeroB_enc b _ h.2⟩

theorem infoOK_spec {P : Program} {t : Ty} {ty : Nat} (h : infoOK P t ty = true) :
    ∃ i z, P.info? ty = some i ∧ i.size = t.size ∧ i.bytes ≤ t.wid ∧ i.zero = some z ∧ (∀ σ : Store P, Enc σ t t.zero z.cells.toList) ∧ isAggV z = t.isAgg := by
  unfold infoOK at h
  split at h
  · rename_i i hi
    simp only [Bool.and_eq_true, decide_eq_true_eq] at h
    obtain ⟨⟨h1, h2, _⟩, h3⟩ := h
    split at h3
    · rename_i z hz
      simp only [Bool.and_eq_true, beq_iff_eq] at h3
      exact ⟨i, z, hi, h1, h2, hz, fun σ => zeroB_enc t _ h3.1, h3.2⟩
    · simp at h3
  · simp at h

theorem infoOK_exact {P : Program} {t : Ty} {ty : Nat} (h : infoOK P t ty = true) (he : t.exact = true) : P.bytesOf ty = t.wid := by
  unfold infoOK at h
  split at h
  · rename_i i hi
    simp only [Bool.and_eq_true, he, Bool.not_true, Bool.false_or, decide_eq_true_eq] at h
    simp [Program.bytesOf, hi, h.1.2.2]
  · simp at h

theorem chk_info {P : Program} {t : Ty} {ty : Nat} (h : chk P t ty = true) : infoOK P t ty = true := by
  cases t <;> simp only [chk, Bool.and_eq_true] at h <;> first | exact h.1 | exact h.1.1

theorem chk_int {P : Program} {k : IntKind} {ty : Nat} (h : chk P (.int k) ty = true) : P.underlying ty = some (.int k) := by
  simp only [chk, Bool.and_eq_true] at h
  split at h
  · rename_i hu; have := h.2; simp at this; rw [hu, this]
  · simp at h

theorem chk_bool {P : Program} {ty : Nat} (h : chk P .bool ty = true) : P.underlying ty = some .bool := by
  simp only [chk, Bool.and_eq_true] at h
  split at h
  · assumption
  · simp at h

theorem chk_str {P : Program} {ty : Nat} (h : chk P .str ty = true) : P.underlying ty = some .string := by
  simp only [chk, Bool.and_eq_true] at h
  split at h
  · assumption
  · simp at h

theorem chk_slice {P : Program} {e : Ty} {ty : Nat} (h : chk P (.slice e) ty = true) : ∃ et, P.underlying ty = some (.slice et) ∧ chk P e et = true ∧ 0 < e.size := by
  simp only [chk, Bool.and_eq_true] at h
  split at h
  · rename_i et hu
    simp only [Bool.and_eq_true, decide_eq_true_eq] at h
    exact ⟨et, hu, h.2.1, h.2.2⟩
  · simp at h

theorem chk_ptr {P : Program} {e : Ty} {ty : Nat} (h : chk P (.ptr e) ty = true) : ∃ et, P.underlying ty = some (.pointer et) ∧ chk P e et = true := by
  simp only [chk, Bool.and_eq_true] at h
  split at h
  · rename_i et hu; exact ⟨et, hu, h.2⟩
  · simp at h

theorem chk_fn {P : Program} {a r : Ty} {ty : Nat} (h : chk P (.fn a r) ty = true) : ∃ x y z, P.underlying ty = some (.func x y z) := by
  simp only [chk, Bool.and_eq_true] at h
  split at h
  · rename_i x y z hu; exact ⟨x, y, z, hu⟩
  · simp at h

theorem chk_seq {P : Program} {e : Ty} {ty : Nat} (h : chk P (.seq e) ty = true) : ∃ x y z, P.underlying ty = some (.func x y z) := by
  simp only [chk, Bool.and_eq_true] at h
  split at h
  · rename_i x y z hu; exact ⟨x, y, z, hu⟩
  · simp at h

theorem chkF_spec {P : Program} : ∀ (t : Ty) (fs : List Field) (off : Nat), chkF P t fs off = true → ∀ (x : t.D) (i : Nat) (d : TD), getFld t x i = some d →
    ∃ f, fs[i]? = some f ∧ f.offset = off + offs t i ∧ chk P d.t f.type = true
  | .nil, fs, off, _, x, i, d, hd => by simp [getFld] at hd
  | .cons a b, fs, off, h, x, i, d, hd => by
    simp only [chkF] at h
    cases fs with
    | nil => simp at h
    | cons f r =>
      simp only [Bool.and_eq_true, decide_eq_true_eq] at h
      cases i with
      | zero =>
        simp [getFld] at hd; subst hd
        exact ⟨f, rfl, by simp [offs, h.1.1.1], h.1.2⟩
      | succ i =>
        simp only [getFld] at hd
        obtain ⟨g, h1, h2, h3⟩ := chkF_spec b r _ h.2 x.2 i d hd
        exact ⟨g, by simpa using h1, by simp [offs, h2, Nat.add_assoc], h3⟩
  | .int _, _, _, h, _, _, _, _ => by simp [chkF] at h
  | .bool, _, _, h, _, _, _, _ => by simp [chkF] at h
  | .str, _, _, h, _, _, _, _ => by simp [chkF] at h
  | .slice _, _, _, h, _, _, _, _ => by simp [chkF] at h
  | .ptr _, _, _, h, _, _, _, _ => by simp [chkF] at h
  | .fn _ _, _, _, h, _, _, _, _ => by simp [chkF] at h
  | .seq _, _, _, h, _, _, _, _ => by simp [chkF] at h

theorem chkA_spec {P : Program} : ∀ (t : Ty) (et n : Nat), chkA P t et n = true → ∀ (x : t.D) (i : Nat) (d : TD), getFld t x i = some d →
    i < n ∧ chk P d.t et = true ∧ offs t i = i * d.t.size
  | .nil, et, n, _, x, i, d, hd => by simp [getFld] at hd
  | .cons a b, et, n, h, x, i, d, hd => by
    simp only [chkA, Bool.and_eq_true, decide_eq_true_eq] at h
    cases i with
    | zero =>
      simp [getFld] at hd; subst hd
      exact ⟨h.1.1, h.1.2, by simp [offs]⟩
    | succ i =>
      simp only [getFld] at hd
      obtain ⟨h1, h2, h3⟩ := chkA_spec b et _ h.2 x.2 i d hd
      refine ⟨by omega, h2, ?_⟩
      obtain ⟨i1, _, q1, q2, _⟩ := infoOK_spec (chk_info h.1.2)
      obtain ⟨i2, _, r1, r2, _⟩ := infoOK_spec (chk_info h2)
      rw [q1] at r1
      simp at r1
      subst r1
      simp [offs, h3, Nat.add_mul]
      omega
  | .int _, _, _, h, _, _, _, _ => by simp [chkA] at h
  | .bool, _, _, h, _, _, _, _ => by simp [chkA] at h
  | .str, _, _, h, _, _, _, _ => by simp [chkA] at h
  | .slice _, _, _, h, _, _, _, _ => by simp [chkA] at h
  | .ptr _, _, _, h, _, _, _, _ => by simp [chkA] at h
  | .fn _ _, _, _, h, _, _, _, _ => by simp [chkA] at h
  | .seq _, _, _, h, _, _, _, _ => by simp [chkA] at h

theorem chk_cons {P : Program} {a b : Ty} {ty : Nat} (h : chk P (.cons a b) ty = true) :
    (∃ fs, P.underlying ty = some (.struct fs) ∧ a ≠ .nil ∧ chkF P (.cons a b) fs.toList 0 = true ∧ ∀ (x : (Ty.cons a b).D) (i : Nat) (d : TD), getFld (.cons a b) x i = some d → ∃ f, fs[i]? = some f ∧ f.offset = offs (.cons a b) i ∧ chk P d.t f.type = true) ∨
    (∃ n et, P.underlying ty = some (.array n et) ∧ a = .nil ∧ ∀ (x : b.D) (i : Nat) (d : TD), getFld b x i = some d → i < n ∧ chk P d.t et = true ∧ offs b i = i * d.t.size) := by
  simp only [chk, Bool.and_eq_true] at h
  obtain ⟨_, h⟩ := h
  split at h
  · rename_i fs hu
    left
    simp only [Bool.and_eq_true, decide_eq_true_eq] at h
    obtain ⟨h, hnn⟩ := h
    have hF : chkF P (.cons a b) fs.toList 0 = true := by
      simp only [chkF]
      split at h
      · rename_i f r hfs
        simp only [Bool.and_eq_true] at h ⊢
        exact ⟨h.1, by simpa using h.2⟩
      · simp at h
    refine ⟨fs, hu, hnn, hF, fun x i d hd => ?_⟩
    obtain ⟨f, h1, h2, h3⟩ := chkF_spec _ _ _ hF x i d hd
    exact ⟨f, by simpa using h1, by simpa using h2, h3⟩
  · rename_i n et hu
    right
    split at h
    · exact ⟨n, et, hu, rfl, fun x i d hd => chkA_spec b et n h x i d hd⟩
    · simp at h
  · simp at h

theorem chk_struct_eq {P : Program} {a b : Ty} {ty : Nat} (h : chk P (.cons a b) ty = true) : P.stoodInHeld ty = false ∧ P.eqGuardType P.depth ty = false := by
  simp only [chk, Bool.and_eq_true] at h
  have := h.1.2
  simpa [eqOK] using this

/-! Values -/
def RelV (σ : Store P) (d : TD) (v : Value) : Prop := Enc σ d.t d.x v.cells.toList ∧ isAggV v = d.t.isAgg

theorem cells_of_not {v : Value} (h : isAggV v = false) : v.cells.toList = [v] := by cases v <;> simp_all [isAggV, Value.cells]
theorem cells_of_agg {v : Value} (h : isAggV v = true) : ∃ cs, v = .agg cs ∧ v.cells = cs := by cases v <;> simp_all [isAggV, Value.cells]

theorem RelV.int {σ : Store P} {k : IntKind} {n : Int} {v : Value} (h : RelV σ ⟨.int k, n⟩ v) : v = .int k n := by
  have := h.1; rw [cells_of_not (by simpa [Ty.isAgg] using h.2)] at this; simpa [Enc] using this
theorem RelV.bool {σ : Store P} {b : Bool} {v : Value} (h : RelV σ ⟨.bool, b⟩ v) : v = .bool b := by
  have := h.1; rw [cells_of_not (by simpa [Ty.isAgg] using h.2)] at this; simpa [Enc] using this
theorem RelV.str {σ : Store P} {s : ByteArray} {v : Value} (h : RelV σ ⟨.str, s⟩ v) : v = .string s := by
  have := h.1; rw [cells_of_not (by simpa [Ty.isAgg] using h.2)] at this; simpa [Enc] using this
theorem RelV.slice {σ : Store P} {t : Ty} {l : List t.D} {v : Value} (h : RelV σ ⟨.slice t, l⟩ v) :
    ∃ ad cap, v = .slice ad l.length cap ∧ l.length ≤ cap ∧ (ad = none → cap = 0) ∧
      ∀ (i : Nat) (h : i < l.length), ∃ a c, ad = some a ∧ c.length = t.size ∧ Lies σ (a.add (i * t.size)) c ∧ Enc σ t (l[i]) c := by
  have := h.1
  rw [cells_of_not (by simpa [Ty.isAgg] using h.2)] at this
  obtain ⟨ad, cap, h1, h2, h3, h4⟩ := this
  simp at h1
  exact ⟨ad, cap, h1, h2, h3, h4⟩
theorem RelV.agg {σ : Store P} {d : TD} {v : Value} (h : RelV σ d v) (ha : d.t.isAgg = true) : ∃ cs : Array Value, v = .agg cs ∧ Enc σ d.t d.x cs.toList := by
  obtain ⟨cs, rfl, h2⟩ := cells_of_agg (h.2.trans ha)
  exact ⟨cs, rfl, h.1⟩

theorem relV_int (σ : Store P) (k : IntKind) (n : Int) : RelV σ ⟨.int k, n⟩ (.int k n) := ⟨by simp [Enc, Value.cells], rfl⟩
theorem relV_bool (σ : Store P) (b : Bool) : RelV σ ⟨.bool, b⟩ (.bool b) := ⟨by simp [Enc, Value.cells], rfl⟩
theorem relV_str (σ : Store P) (s : ByteArray) : RelV σ ⟨.str, s⟩ (.string s) := ⟨by simp [Enc, Value.cells], rfl⟩

theorem RelV.mono {σ τ : Store P} (h : Store.le σ τ) {d : TD} {v : Value} (hr : RelV σ d v) : RelV τ d v := ⟨hr.1.mono h, hr.2⟩

theorem Enc.flat {σ τ : Store P} : ∀ (t : Ty) (x : t.D) (cs : List Value), t.flat = true → Enc σ t x cs → Enc τ t x cs
  | .int _, _, _, _, e => e
  | .bool, _, _, _, e => e
  | .str, _, _, _, e => e
  | .nil, _, _, _, e => e
  | .cons a b, _, _, hf, ⟨c, r, h1, h2, h3⟩ => by
    simp only [Ty.flat, Bool.and_eq_true] at hf
    exact ⟨c, r, h1, Enc.flat a _ _ hf.1 h2, Enc.flat b _ _ hf.2 h3⟩
  | .slice _, _, _, hf, _ => by simp [Ty.flat] at hf

theorem relV_nil (σ : Store P) (e : Ty) : RelV σ ⟨.slice e, []⟩ (.slice none 0 0) :=
  ⟨⟨none, 0, by simp [Value.cells], by simp, fun _ => rfl, fun i hi => by simp at hi⟩, rfl⟩

/-- a value out of the cells of a type -/
theorem relV_part {σ : Store P} {d : TD} {c : List Value} (h : Enc σ d.t d.x c) : RelV σ d (if d.t.isAgg then .agg c.toArray else c.headD undef) := by
  obtain ⟨t, x⟩ := d
  cases t <;> simp only [Ty.isAgg, if_true, Bool.false_eq_true, if_false]
  all_goals first
    | (refine ⟨?_, rfl⟩; simpa [Value.cells] using h)
    | (simp only [Enc] at h; subst h; refine ⟨?_, rfl⟩; simp [Enc, Value.cells])
    | (obtain ⟨ad, cap, h1, h2⟩ := h; subst h1; refine ⟨⟨ad, cap, ?_, h2⟩, rfl⟩; simp [Value.cells])
    | (obtain ⟨v, h1, h2, h3, h4⟩ := h; subst h1; refine ⟨⟨v, ?_, h2, h3, h4⟩, h3⟩; simp [cells_of_not h3])

def hBlock : Value → Option Nat
  | .pointer (some a) => some a.block
  | .slice (some a) _ _ => some a.block
  | .map (some g) => some g
  | _ => none

def BoxR (σ : Store P) (w : World) (n0 : Nat) : Box → Value → Prop
  | .var d, v => ∃ g cs ty, v = .pointer (some ⟨g, 0, none⟩) ∧ w.heap[g]? = some (.cells cs ty (0, 0)) ∧ Enc σ d.t d.x cs.toList ∧ n0 ≤ g ∧ σ g = none
  | .vec t l, v => ∃ ety xs, w.ownsRow n0 ety t.size v l.length xs ∧ EncL σ t l xs ∧ (∀ g, hBlock v = some g → σ g = none) ∧ 0 < t.size
  | .mp _ l, v => ∃ g es clock, v = .map (some g) ∧ w.heap[g]? = some (.map es clock) ∧ es.toList.map (fun e => (e.key, e.val)) = l.map (fun p => (Value.int .i64 p.1, Value.int .i64 p.2)) ∧ n0 ≤ g ∧ σ g = none

def viewV (v : Value) (lo hi size : Nat) : Value :=
  match v with
  | .slice ad _ cap => .slice (if cap = lo then ad else ad.map (·.add (lo * size))) (hi - lo) (cap - lo)
  | v => v

def SVR1 (σ : Store P) (bx : List (Nat × Box)) (H : Nat → Value) : SV → Value → Prop
  | .tv d, v => RelV σ d v
  | .nils, v => v = .slice none 0 0
  | .ref b, v => ∃ t l, look b bx = some (.vec t l) ∧ v = H b
  | .view b lo hi, v => ∃ t l, look b bx = some (.vec t l) ∧ lo ≤ hi ∧ hi ≤ l.length ∧ v = viewV (H b) lo hi t.size
  | .ptr b none p, v => ∃ d e g, look b bx = some (.var d) ∧ getPath d p = some e ∧ H b = .pointer (some ⟨g, 0, none⟩) ∧ v = .pointer (some ⟨g, offPath d p, none⟩)
  | .ptr b (some i) p, v => ∃ t l e g n c, look b bx = some (.vec t l) ∧ i < l.length ∧ getPath ⟨t, l.getD i t.zero⟩ p = some e ∧ H b = .slice (some ⟨g, 0, none⟩) n c ∧
      v = .pointer (some ⟨g, i * t.size + offPath ⟨t, l.getD i t.zero⟩ p, none⟩)
  | .cptr d, v => ∃ a cs, v = .pointer (some a) ∧ Lies σ a cs ∧ Enc σ d.t d.x cs
  | .mref b, v => ∃ t l, look b bx = some (.mp t l) ∧ v = H b
  | .gone, _ => True
  | .own _ _, _ => False
  | .tup _, _ => False

def SVR (σ : Store P) (bx : List (Nat × Box)) (H : Nat → Value) : SV → Value → Prop
  | .tup l, v => ∃ vs : Array Value, v = .tuple vs ∧ vs.size = l.length ∧ ∀ (i : Nat) (s : SV) (u : Value), l[i]? = some s → vs[i]? = some u → SVR1 σ bx H s u
  | s, v => SVR1 σ bx H s v

def noCells : Obj → Bool
  | .cells _ _ _ => false
  | .map _ _ => false
  | _ => true

/-- the marks of loops over functions, among the deferred calls -/
def DefsOK (n0 : Nat) (σ : Store P) (w : World) : List Deferred → Prop
  | [] => True
  | d :: ds => (∃ D, d = { target := .collected D, args := #[] } ∧ n0 ≤ D ∧ w.heap[D]? = some (.deferred (some [])) ∧ σ D = none ∧ ∀ e ∈ ds, e.target ≠ .collected D) ∧ DefsOK n0 σ w ds

structure Rel (C : Nat → Prop) (N n0 : Nat) (σ : Store P) (H : Nat → Value) (st : St) (a : Act) (w : World) : Prop where
  holds : Holds w σ
  size : a.tmps.size = N
  defers : DefsOK n0 σ w a.defers
  base : n0 ≤ w.heap.size
  box : ∀ k b, look k st.bx = some b → BoxR σ w n0 b (H k)
  apart : ∀ k k' b b' g, look k st.bx = some b → look k' st.bx = some b' → k ≠ k' → hBlock (H k) = some g → hBlock (H k') ≠ some g
  slot : ∀ k s, look k st.sl = some s → C k → SVR σ st.bx H s (a.tmps.getD k undef)

def RetR (σ : Store P) (w : World) (n0 : Nat) : SV → Value → Prop
  | .tv d, v => RelV σ d v
  | .own t l, v => BoxR σ w n0 (.vec t l) v
  | .tup l, v => ∃ vs : Array Value, v = .tuple vs ∧ vs.size = l.length ∧
      (∀ (i : Nat) (s : SV) (u : Value), l[i]? = some s → vs[i]? = some u → match s with
        | .tv d => RelV σ d u
        | .own t l => BoxR σ w n0 (.vec t l) u
        | _ => False) ∧
      ∀ (i j : Nat) (t t' : Ty) (m : List t.D) (m' : List t'.D) (u u' : Value) (g : Nat), l[i]? = some (.own t m) → l[j]? = some (.own t' m') → vs[i]? = some u → vs[j]? = some u' → i ≠ j → hBlock u = some g → hBlock u' ≠ some g
  | _, _ => False

def ArgsR (σ : Store P) (tds : List TD) (vs : Array Value) : Prop := vs.size = tds.length ∧ ∀ (i : Nat) (d : TD) (v : Value), tds[i]? = some d → vs[i]? = some v → RelV σ d v

/-- a call that took the vector v: nothing else that lay has changed -/
structure Taken (v : Value) (σ : Store P) (w : World) (σ' : Store P) (w' : World) : Prop where
  le : Store.le σ σ'
  holds : Holds w' σ'
  news : ∀ b o, σ' b = some o → σ b = some o ∨ w.heap.size ≤ b
  size : w.heap.size ≤ w'.heap.size
  block : ∀ b, b < w.heap.size → hBlock v ≠ some b → w'.heap[b]? = w.heap[b]?
  os : w'.os = w.os
  output : w'.output = w.output
  tape : w'.tape = w.tape

def OwnGood (P : Program) (G : Tbl) : Prop := ∀ f oc, G.o f = some oc → FnOK P f ∧ ∀ (l : List oc.e.D) (tds : List TD), oc.k l tds = true → ∀ (σ : Store P) (w : World) (n0 : Nat) (v : Value) (vs : List Value),
  Holds w σ → n0 ≤ w.heap.size → BoxR σ w n0 (.vec oc.e l) v → ArgsR σ tds vs.toArray → Calls P f (v :: vs).toArray w fun en w' => ∃ u σ', en = .returned u ∧ Taken v σ w σ' w' ∧ BoxR σ' w' n0 (.vec oc.e (oc.r l tds)) u ∧
    ∀ g, hBlock u = some g → hBlock v = some g ∨ w.heap.size ≤ g

def SeqGood (P : Program) (G : Tbl) : Prop := ∀ f tds r, G.s f tds = some (true, r) → ∀ (σ : Store P) (caps : Array Value), ArgsR σ tds caps → Enc σ (.seq r.e) (true, r.l) [.func (.func f) #[] caps]

def Good (P : Program) (G : Tbl) : Prop := ∀ f tds r, G f tds = some (true, r) → ∀ (σ : Store P) (w : World) (vs : Array Value), Holds w σ → ArgsR σ tds vs →
  Calls P f vs w fun e w' => ∃ v σ', e = .returned v ∧ Step σ w σ' w' ∧ RetR σ' w' w.heap.size r v

end
end Go.Lift
namespace Go.Lift

theorem Step.refl {P : Program} {σ : Store P} {w : World} (h : Holds w σ) : Step σ w σ w :=
  ⟨Store.le.refl σ, h, fun _ _ h => .inl h, Nat.le_refl _, fun _ _ => rfl, rfl, rfl, rfl⟩

section
variable {P : Program} {w : World} {σ : Store P}

theorem wp_val {o : Oper} {a : Act} {v : Value} {w' : World} {next : Act → World → Prop} {Q : Exit → Act → World → Prop}
    (hr : (execOp a.eval o).run P w = .ok (.value v) w') (hn : next (a.put o.dst v) w') : o.wp P a w next Q := by
  unfold Oper.wp; rw [hr]; exact hn

theorem run_isAgg {t : Ty} {ty : Nat} (h : chk P t ty = true) : (isAgg ty).run P w = .ok t.isAgg w := by
  unfold isAgg
  cases t with
  | int k => simp [run_underlying (chk_int h), Ty.isAgg]
  | bool => simp [run_underlying (chk_bool h), Ty.isAgg]
  | str => simp [run_underlying (chk_str h), Ty.isAgg]
  | slice e => obtain ⟨et, hu, _⟩ := chk_slice h; simp [run_underlying hu, Ty.isAgg]
  | ptr e => obtain ⟨et, hu, _⟩ := chk_ptr h; simp [run_underlying hu, Ty.isAgg]
  | fn a r => obtain ⟨x, y, z, hu⟩ := chk_fn h; simp [run_underlying hu, Ty.isAgg]
  | seq e => obtain ⟨x, y, z, hu⟩ := chk_seq h; simp [run_underlying hu, Ty.isAgg]
  | nil =>
    simp only [chk, Bool.and_eq_true] at h
    obtain ⟨_, h⟩ := h
    split at h
    · rename_i fs hu; simp [run_underlying hu, Ty.isAgg]
    · simp at h
  | cons a b =>
    rcases chk_cons h with ⟨fs, hu, _, _, _⟩ | ⟨n, et, hu, _⟩ <;> simp [run_underlying hu, Ty.isAgg]

theorem run_sizeOf {t : Ty} {ty : Nat} (h : chk P t ty = true) : (sizeOf ty).run P w = .ok t.size w := by
  obtain ⟨i, z, h1, h2, _⟩ := infoOK_spec (chk_info h)
  simp [sizeOf, typeInfo, h1, h2]

theorem run_zeroValue {t : Ty} {ty : Nat} (h : chk P t ty = true) : ∃ z, (zeroValue ty).run P w = .ok z w ∧ ∀ σ : Store P, RelV σ ⟨t, t.zero⟩ z := by
  obtain ⟨i, z, h1, h2, _, h4, h5, h6⟩ := infoOK_spec (chk_info h)
  exact ⟨z, by simp [zeroValue, typeInfo, h1, h4], fun σ => ⟨h5 σ, h6⟩⟩

/-- the cells of w at an address -/
def At (w : World) (a : Addr) (cs : List Value) : Prop := ∀ j v, cs[j]? = some v → w.cell? (a.add j) = some v

theorem Lies.at {σ : Store P} (h : Holds w σ) {a : Addr} {cs : List Value} (hl : Lies σ a cs) : At w a cs := fun j v hv => h.cell (hl j v hv)

theorem at_row {g off : Nat} {cs : Array Value} {ty : Nat} {fr : Nat × Nat} (hg : w.heap[g]? = some (.cells cs ty fr)) {p c r : List Value} (h : cs.toList = p ++ c ++ r) (hp : p.length = off) :
    At w ⟨g, off, none⟩ c := by
  intro j v hv
  rw [addr_lit, cell_of_row w g _ cs ty fr hg]
  have : cs.toList[off + j]? = some v := by
    rw [h, List.append_assoc, List.getElem?_append_right (by omega), List.getElem?_append_left (by have := (List.getElem?_eq_some_iff.1 hv).1; omega)]
    rw [← hv]; congr 1; omega
  simpa using this

theorem run_loadAt {t : Ty} {ty : Nat} (h : chk P t ty = true) {x : t.D} {a : Addr} {cs : List Value} (ha : At w a cs) (he : Enc σ t x cs) :
    ∃ v, (Instr.loadAt ty (.pointer (some a))).run P w = .ok v w ∧ RelV σ ⟨t, x⟩ v := by
  have hp := relV_part (σ := σ) (d := ⟨t, x⟩) he
  refine ⟨_, ?_, hp⟩
  have hl : (loadCells a cs.length).run P w = .ok cs.toArray w := run_loadCells_list w a cs ha
  rw [he.length] at hl
  unfold Instr.loadAt Instr.sureAddr loadVar
  simp only [Sem.run_bind, Sem.run_pure, Result.andThen_ok, run_isAgg h]
  cases hag : t.isAgg with
  | true => simp [run_sizeOf h, hl]
  | false =>
    have hlen : cs.length = 1 := by rw [he.length]; cases t <;> simp_all [Ty.isAgg, Ty.size]
    match cs, hlen with
    | [u], _ =>
      have := ha 0 u rfl
      rw [addr_add_zero] at this
      simp [this]

end
end Go.Lift
namespace Go.Lift

section
variable {P : Program} {T : Nat → Option Ty} {w : World} {σ : Store P} {bx : List (Nat × Box)} {H : Nat → Value} {n0 : Nat}

def Gives (P : Program) (o : Oper) (a : Act) (w : World) (σ : Store P) (bx : List (Nat × Box)) (H : Nat → Value) (s : SV) : Prop :=
  ∃ v, (execOp a.eval o).run P w = .ok (.value v) w ∧ SVR σ bx H s v

def BoxesR (σ : Store P) (w : World) (n0 : Nat) (bx : List (Nat × Box)) (H : Nat → Value) : Prop := ∀ k b, look k bx = some b → BoxR σ w n0 b (H k)

theorem int_inv {s : SV} {k : IntKind} {n : Int} (h : s.int = some (k, n)) : s = .tv ⟨.int k, n⟩ := by
  unfold SV.int at h
  split at h
  · simp at h; obtain ⟨rfl, rfl⟩ := h; rfl
  · simp at h

theorem boolean_inv {s : SV} {b : Bool} (h : s.boolean = some b) : s = .tv ⟨.bool, b⟩ := by
  unfold SV.boolean at h
  split at h
  · simp at h; subst h; rfl
  · simp at h

theorem svr_int {k : IntKind} {n : Int} {v : Value} (h : SVR σ bx H (.tv ⟨.int k, n⟩) v) : v = .int k n := RelV.int h
theorem svr_bool {b : Bool} {v : Value} (h : SVR σ bx H (.tv ⟨.bool, b⟩) v) : v = .bool b := RelV.bool h

theorem gives_pick {o : Oper} {a : Act} {c x y : Operand} (ho : o.op = .pick c x y) {cb xb yb : Bool} (hc : a.eval c = .bool cb)
    (hx : cb = true → a.eval x = .bool xb) (hy : cb = false → a.eval y = .bool yb) : Gives P o a w σ bx H (.tv ⟨.bool, bif cb then xb else yb⟩) := by
  cases cb
  · exact ⟨.bool yb, by simp [execOp, ho, hc, asBool, hy rfl], relV_bool σ yb⟩
  · exact ⟨.bool xb, by simp [execOp, ho, hc, asBool, hx rfl], relV_bool σ xb⟩

theorem gives_load {o : Oper} {a : Act} {ty : Nat} {x : Operand} (ho : o.op = .load ty x) {t : Ty} (ht : chk P t ty = true) {ad : Addr} {cs : List Value} {y : t.D}
    (hx : a.eval x = .pointer (some ad)) (hat : At w ad cs) (he : Enc σ t y cs) : Gives P o a w σ bx H (.tv ⟨t, y⟩) := by
  obtain ⟨v, h1, h2⟩ := run_loadAt (P := P) (σ := σ) ht hat he
  exact ⟨v, by simp [execOp, ho, hx, h1], h2⟩

theorem run_intOp {op : BinOp} {k : IntKind} {x y : Int} {r : TD} (xt : Nat) (h : intOp op k x y = some (true, r)) :
    ∃ v, (binOp op xt (.int k x) (.int k y)).run P w = .ok v w ∧ RelV σ r v := by
  cases op <;> simp only [intOp, Option.some.injEq, Prod.mk.injEq, reduceCtorEq] at h
  all_goals obtain ⟨h0, rfl⟩ := h
  case quo => exact ⟨_, by have h1 : y ≠ 0 := by simpa using h0
                           simp [binOp, Op.intDiv, h1], relV_int σ k _⟩
  case rem => exact ⟨_, by have h1 : y ≠ 0 := by simpa using h0
                           simp [binOp, Op.intDiv, h1], relV_int σ k _⟩
  case and => exact ⟨.int k (bitI .and k x y), by simp [binOp, Op.intBits, bitI], relV_int σ k _⟩
  case or => exact ⟨.int k (bitI .or k x y), by simp [binOp, Op.intBits, bitI], relV_int σ k _⟩
  case xor => exact ⟨.int k (bitI .xor k x y), by simp [binOp, Op.intBits, bitI], relV_int σ k _⟩
  case andNot => exact ⟨.int k (bitI .andNot k x y), by simp [binOp, Op.intBits, bitI], relV_int σ k _⟩
  case add => exact ⟨_, by simp [binOp, Op.intArith], relV_int σ k _⟩
  case sub => exact ⟨_, by simp [binOp, Op.intArith], relV_int σ k _⟩
  case mul => exact ⟨_, by simp [binOp, Op.intArith], relV_int σ k _⟩
  all_goals exact ⟨.bool _, by simp [binOp, Op.intCmp], relV_bool σ _⟩

theorem run_shiftOp {op : BinOp} {k k' : IntKind} {x y : Int} {r : TD} (xt : Nat) (h : shiftOp op k x y = some (true, r)) :
    ∃ v, (binOp op xt (.int k x) (.int k' y)).run P w = .ok v w ∧ RelV σ r v := by
  cases op <;> simp only [shiftOp, Option.some.injEq, Prod.mk.injEq, reduceCtorEq] at h
  all_goals obtain ⟨h0, rfl⟩ := h
  all_goals simp at h0
  all_goals exact ⟨_, by simp [binOp, Op.shift, show ¬ y < 0 by omega], relV_int σ k _⟩

theorem run_eqGuard_int (op : BinOp) (xt : Nat) (x y : Operand) (k k' : IntKind) (m n : Int) : (eqGuard op xt x y (.int k m) (.int k' n)).run P w = .ok () w := by
  cases op <;> simp [eqGuard]
theorem run_eqGuard_bool (op : BinOp) (xt : Nat) (x y : Operand) (m n : Bool) : (eqGuard op xt x y (.bool m) (.bool n)).run P w = .ok () w := by
  cases op <;> simp [eqGuard]
theorem run_eqGuard_str (op : BinOp) (xt : Nat) (x y : Operand) (m n : ByteArray) : (eqGuard op xt x y (.string m) (.string n)).run P w = .ok () w := by
  cases op <;> simp [eqGuard]

theorem gives_int {o : Oper} {a : Act} {op : BinOp} {xt yt : Nat} {x y : Operand} (ho : o.op = .binOp op xt x y yt) {k : IntKind} {m n : Int} {r : TD}
    (hx : a.eval x = .int k m) (hy : a.eval y = .int k n) (h : intOp op k m n = some (true, r)) : Gives P o a w σ bx H (.tv r) := by
  obtain ⟨v, h1, h2⟩ := run_intOp (P := P) (w := w) (σ := σ) xt h
  exact ⟨v, by simp [execOp, ho, hx, hy, run_eqGuard_int, h1], h2⟩

theorem gives_shift {o : Oper} {a : Act} {op : BinOp} {xt yt : Nat} {x y : Operand} (ho : o.op = .binOp op xt x y yt) {k k' : IntKind} {m n : Int} {r : TD}
    (hx : a.eval x = .int k m) (hy : a.eval y = .int k' n) (h : shiftOp op k m n = some (true, r)) : Gives P o a w σ bx H (.tv r) := by
  obtain ⟨v, h1, h2⟩ := run_shiftOp (P := P) (w := w) (σ := σ) (k' := k') xt h
  exact ⟨v, by simp [execOp, ho, hx, hy, run_eqGuard_int, h1], h2⟩

theorem gives_bool_eq {o : Oper} {a : Act} {xt yt : Nat} {x y : Operand} (ho : o.op = .binOp .eql xt x y yt) (ht : chk P .bool xt = true) {m n : Bool}
    (hx : a.eval x = .bool m) (hy : a.eval y = .bool n) : Gives P o a w σ bx H (.tv ⟨.bool, m == n⟩) :=
  ⟨.bool (m == n), by simp [execOp, ho, hx, hy, run_eqGuard_bool, run_eql_bool w xt m n (chk_bool ht)], relV_bool σ _⟩
theorem gives_bool_ne {o : Oper} {a : Act} {xt yt : Nat} {x y : Operand} (ho : o.op = .binOp .neq xt x y yt) (ht : chk P .bool xt = true) {m n : Bool}
    (hx : a.eval x = .bool m) (hy : a.eval y = .bool n) : Gives P o a w σ bx H (.tv ⟨.bool, !(m == n)⟩) :=
  ⟨.bool (!(m == n)), by simp [execOp, ho, hx, hy, run_eqGuard_bool, run_neq_bool w xt m n (chk_bool ht)], relV_bool σ _⟩
theorem gives_str_eq {o : Oper} {a : Act} {xt yt : Nat} {x y : Operand} (ho : o.op = .binOp .eql xt x y yt) {m n : ByteArray}
    (hx : a.eval x = .string m) (hy : a.eval y = .string n) : Gives P o a w σ bx H (.tv ⟨.bool, m == n⟩) :=
  ⟨.bool (m == n), by simp [execOp, ho, hx, hy, run_eqGuard_str, binOp, Op.stringOp, beq_toListBytes], relV_bool σ _⟩
theorem gives_str_ne {o : Oper} {a : Act} {xt yt : Nat} {x y : Operand} (ho : o.op = .binOp .neq xt x y yt) {m n : ByteArray}
    (hx : a.eval x = .string m) (hy : a.eval y = .string n) : Gives P o a w σ bx H (.tv ⟨.bool, !(m == n)⟩) :=
  ⟨.bool (!(m == n)), by simp [execOp, ho, hx, hy, run_eqGuard_str, binOp, Op.stringOp, beq_toListBytes], relV_bool σ _⟩

/-! equality of structs -/
theorem run_part {t : Ty} {ty off : Nat} (h : chk P t ty = true) {x : t.D} {cs : Array Value} {p c r : List Value} (hc : cs.toList = p ++ c ++ r) (hp : p.length = off) (he : Enc σ t x c) :
    ∃ v, (part ty cs off).run P w = .ok v w ∧ RelV σ ⟨t, x⟩ v := by
  refine ⟨_, ?_, relV_part (σ := σ) (d := ⟨t, x⟩) he⟩
  unfold part
  simp only [Sem.run_bind, run_isAgg h, Result.andThen_ok]
  cases hag : t.isAgg with
  | true =>
    simp [run_sizeOf h]
    have hl := he.length
    apply Array.ext'
    simp only [Array.toList_extract, List.extract_eq_take_drop, hc]
    rw [← hp, ← hl]
    simp
  | false =>
    have hlen : c.length = 1 := by rw [he.length]; cases t <;> simp_all [Ty.isAgg, Ty.size]
    match c, hlen with
    | [u], _ =>
      have : cs[off]? = some u := by
        have : cs.toList[off]? = some u := by rw [hc, List.append_assoc, List.getElem?_append_right (by omega)]; simp [hp]
        simpa using this
      simp [this]

mutual
theorem run_eqT {τ : Store P} : ∀ (t : Ty) (d ty : Nat), t.eqable = true → t.dep ≤ d → chk P t ty = true → t ≠ .nil → ∀ (x y : t.D) (u v : Value), RelV σ ⟨t, x⟩ u → RelV τ ⟨t, y⟩ v →
    (Op.equalIn (d + 1) ty u v).run P w = .ok (eqD t x y) w
  | .int k, d, ty, _, _, hc, _, x, y, u, v, hu, hv => by
    rw [RelV.int hu, RelV.int hv, run_equalIn_int w d ty k k x y (chk_int hc)]; rfl
  | .bool, d, ty, _, _, hc, _, x, y, u, v, hu, hv => by
    rw [RelV.bool hu, RelV.bool hv, run_equalIn_bool' w d ty x y (chk_bool hc)]; rfl
  | .str, d, ty, _, _, hc, _, x, y, u, v, hu, hv => by
    rw [RelV.str hu, RelV.str hv, run_equalIn_string w d ty x y (chk_str hc), ← beq_toListBytes]; rfl
  | .slice _, _, _, h, _, _, _, _, _, _, _, _, _ => by simp [Ty.eqable] at h
  | .nil, _, _, _, _, _, h, _, _, _, _, _, _ => (h rfl).elim
  | .cons a b, d, ty, he, hd, hc, _, x, y, u, v, hu, hv => by
    rcases chk_cons hc with ⟨fs, hun, _, hF, _⟩ | ⟨n, et, hun, ha, _⟩
    · obtain ⟨cs, rfl, hcs⟩ := hu.agg rfl
      obtain ⟨ds, rfl, hds⟩ := hv.agg rfl
      have hfo : P.fieldsOf ty = fs := by simp [Program.fieldsOf, hun]
      rw [run_equalIn_struct w d ty cs ds (by rw [hfo]; exact hun) (chk_struct_eq hc).1, hfo]
      exact run_eqF (.cons a b) d fs.toList 0 he hd hF x y cs ds [] [] cs.toList ds.toList [] [] (by simp) (by simp) rfl rfl hcs hds
    · subst ha; simp [Ty.eqable] at he
theorem run_eqF {τ : Store P} : ∀ (t : Ty) (d : Nat) (fs : List Field) (off : Nat), t.eqable = true → t.dep ≤ d → chkF P t fs off = true → ∀ (x y : t.D) (xs ys : Array Value) (p q c e r s : List Value),
    xs.toList = p ++ c ++ r → ys.toList = q ++ e ++ s → p.length = off → q.length = off → Enc σ t x c → Enc τ t y e → (Op.eqFields d xs ys fs).run P w = .ok (eqD t x y) w
  | .nil, d, fs, off, _, _, hF, x, y, xs, ys, p, q, c, e, r, s, _, _, _, _, _, _ => by
    simp [chkF] at hF; subst hF; simp [Op.eqFields, eqD]
  | .cons a b, d, fs, off, he, hd, hF, x, y, xs, ys, p, q, c, e, r, s, hx, hy, hp, hq, hc, hy' => by
    simp only [chkF] at hF
    cases fs with
    | nil => simp at hF
    | cons f fs =>
      simp only [Bool.and_eq_true, decide_eq_true_eq] at hF
      obtain ⟨⟨⟨h1, h2⟩, h3⟩, h4⟩ := hF
      obtain ⟨c1, r1, k1, k2, k3⟩ := hc
      obtain ⟨e1, s1, g1, g2, g3⟩ := hy'
      subst k1; subst g1
      have ha : a ≠ .nil := by intro h; subst h; simp [Ty.eqable] at he
      have hea : a.eqable = true ∧ b.eqable = true := by
        cases a <;> simp_all [Ty.eqable]
      simp only [Ty.dep] at hd
      obtain ⟨u, hu1, hu2⟩ := run_part (P := P) (w := w) (σ := σ) (off := off) h3 (cs := xs) (p := p) (c := c1) (r := r1 ++ r) (by simp [hx]) hp k2
      obtain ⟨v, hv1, hv2⟩ := run_part (P := P) (w := w) (σ := τ) (off := off) h3 (cs := ys) (p := q) (c := e1) (r := s1 ++ s) (by simp [hy]) hq g2
      obtain ⟨d, rfl⟩ : ∃ d', d = d' + 1 := ⟨d - 1, by omega⟩
      have hE := run_eqT a d f.type hea.1 (by omega) h3 ha x.1 y.1 u v hu2 hv2
      have hR := run_eqF b (d + 1) fs (off + a.size) hea.2 (by omega) h4 x.2 y.2 xs ys (p ++ c1) (q ++ e1) r1 s1 r s (by simp [hx]) (by simp [hy]) (by simp [hp, k2.length]) (by simp [hq, g2.length]) k3 g3
      simp only [Op.eqFields, if_pos h2, h1, Sem.run_bind, hu1, hv1, hE, Result.andThen_ok, eqD]
      cases eqD a x.1 y.1
      · simp
      · simpa using hR
  | .int _, _, _, _, _, _, h, _, _, _, _, _, _, _, _, _, _, _, _, _, _, _, _ => by simp [chkF] at h
  | .bool, _, _, _, _, _, h, _, _, _, _, _, _, _, _, _, _, _, _, _, _, _, _ => by simp [chkF] at h
  | .str, _, _, _, _, _, h, _, _, _, _, _, _, _, _, _, _, _, _, _, _, _, _ => by simp [chkF] at h
  | .slice _, _, _, _, _, _, h, _, _, _, _, _, _, _, _, _, _, _, _, _, _, _, _ => by simp [chkF] at h
end

theorem gives_agg_eq {o : Oper} {a : Act} {xt yt : Nat} {x y : Operand} (ho : o.op = .binOp .eql xt x y yt) {t u : Ty} (ht : chk P (.cons t u) xt = true) (he : (Ty.cons t u).eqable = true)
    (hd : (Ty.cons t u).dep < 1000) {m n : (Ty.cons t u).D} (hx : RelV σ ⟨.cons t u, m⟩ (a.eval x)) (hy : RelV σ ⟨.cons t u, n⟩ (a.eval y)) :
    Gives P o a w σ bx H (.tv ⟨.bool, eqD (.cons t u) m n⟩) := by
  have hr := run_eqT (P := P) (w := w) (.cons t u) 9999 xt he (by omega) ht (by simp) m n _ _ hx hy
  obtain ⟨cs, h1, _⟩ := hx.agg rfl
  obtain ⟨ds, h2, _⟩ := hy.agg rfl
  rw [h1, h2] at hr
  refine ⟨.bool _, ?_, relV_bool σ _⟩
  simp [execOp, ho, h1, h2, run_eqGuard_agg w .eql xt x y cs ds (chk_struct_eq ht).2, run_eql_struct, hr]

theorem gives_agg_ne {o : Oper} {a : Act} {xt yt : Nat} {x y : Operand} (ho : o.op = .binOp .neq xt x y yt) {t u : Ty} (ht : chk P (.cons t u) xt = true) (he : (Ty.cons t u).eqable = true)
    (hd : (Ty.cons t u).dep < 1000) {m n : (Ty.cons t u).D} (hx : RelV σ ⟨.cons t u, m⟩ (a.eval x)) (hy : RelV σ ⟨.cons t u, n⟩ (a.eval y)) :
    Gives P o a w σ bx H (.tv ⟨.bool, !eqD (.cons t u) m n⟩) := by
  have hr := run_eqT (P := P) (w := w) (.cons t u) 9999 xt he (by omega) ht (by simp) m n _ _ hx hy
  obtain ⟨cs, h1, _⟩ := hx.agg rfl
  obtain ⟨ds, h2, _⟩ := hy.agg rfl
  rw [h1, h2] at hr
  refine ⟨.bool _, ?_, relV_bool σ _⟩
  simp [execOp, ho, h1, h2, run_eqGuard_agg w .neq xt x y cs ds (chk_struct_eq ht).2, run_neq_struct, hr]

end
end Go.Lift
namespace Go.Lift

section
variable {P : Program} {w : World} {σ : Store P} {bx : List (Nat × Box)} {H : Nat → Value} {n0 : Nat}

theorem gives_not {o : Oper} {a : Act} {xt : Nat} {x : Operand} (ho : o.op = .unOp .not xt x) {b : Bool} (hx : a.eval x = .bool b) : Gives P o a w σ bx H (.tv ⟨.bool, !b⟩) :=
  ⟨.bool (!b), by simp [execOp, ho, hx, Op.unary], relV_bool σ _⟩
theorem gives_neg {o : Oper} {a : Act} {xt : Nat} {x : Operand} (ho : o.op = .unOp .neg xt x) {k : IntKind} {n : Int} (hx : a.eval x = .int k n) : Gives P o a w σ bx H (.tv ⟨.int k, k.wrap (0 - n)⟩) :=
  ⟨.int k (k.wrap (0 - n)), by simp [execOp, ho, hx, Op.unary, Op.intArith], relV_int σ _ _⟩
theorem gives_inv {o : Oper} {a : Act} {xt : Nat} {x : Operand} (ho : o.op = .unOp .xor xt x) {k : IntKind} {n : Int} (hx : a.eval x = .int k n) :
    Gives P o a w σ bx H (.tv ⟨.int k, bitI .xor k (if k.signed then -1 else k.max) n⟩) :=
  ⟨.int k (bitI .xor k (if k.signed then -1 else k.max) n), by simp [execOp, ho, hx, Op.unary, Op.intBits, bitI], relV_int σ _ _⟩

theorem chk_some {t : Ty} {ty : Nat} (h : chk P t ty = true) : ∃ d, P.underlying ty = some d := by
  cases t with
  | int k => exact ⟨_, chk_int h⟩
  | bool => exact ⟨_, chk_bool h⟩
  | str => exact ⟨_, chk_str h⟩
  | slice e => obtain ⟨et, hu, _⟩ := chk_slice h; exact ⟨_, hu⟩
  | ptr e => obtain ⟨et, hu, _⟩ := chk_ptr h; exact ⟨_, hu⟩
  | fn a r => obtain ⟨x, y, z, hu⟩ := chk_fn h; exact ⟨_, hu⟩
  | seq e => obtain ⟨x, y, z, hu⟩ := chk_seq h; exact ⟨_, hu⟩
  | nil =>
    simp only [chk, Bool.and_eq_true] at h
    obtain ⟨_, h⟩ := h
    split at h
    · rename_i fs hu; exact ⟨_, hu⟩
    · simp at h
  | cons a b => rcases chk_cons h with ⟨fs, hu, _, _, _⟩ | ⟨n, et, hu, _⟩ <;> exact ⟨_, hu⟩

theorem gives_convert {o : Oper} {a : Act} {src dst : Nat} {x : Operand} (ho : o.op = .convert src dst x) {t : Ty} (hs : chk P t src = true) {k k' : IntKind} (hd : chk P (.int k) dst = true) {n : Int}
    (hx : a.eval x = .int k' n) : Gives P o a w σ bx H (.tv ⟨.int k, k.wrap n⟩) := by
  obtain ⟨d, hu⟩ := chk_some hs
  have hr : (convert src dst (.int k' n)).run P w = .ok (.int k (k.wrap n)) w := by
    simp [convert, run_underlying hu, run_underlying (chk_int hd), Conv.intToInt]
  exact ⟨_, by simp [execOp, ho, hx, hr], relV_int σ _ _⟩

theorem gives_field {o : Oper} {a : Act} {xt f : Nat} {x : Operand} (ho : o.op = .field xt x f) {t : Ty} (ht : chk P t xt = true) {y : t.D} {d : TD} (hg : getFld t y f = some d)
    (hx : RelV σ ⟨t, y⟩ (a.eval x)) (hnil : ∀ u, t ≠ .cons .nil u) : Gives P o a w σ bx H (.tv d) := by
  cases t with
  | cons p q =>
    rcases chk_cons ht with ⟨fs, hu, _, _, hF⟩ | ⟨n, et, hu, ha, _⟩
    · obtain ⟨fd, h1, h2, h3⟩ := hF y f d hg
      obtain ⟨cs, hcs, he⟩ := hx.agg rfl
      obtain ⟨pp, c, r, g1, g2, g3⟩ := Enc.fld _ y f d _ hg he
      obtain ⟨v, k1, k2⟩ := run_part (P := P) (w := w) (σ := σ) (off := fd.offset) h3 g1 (by rw [g2, h2]) g3
      exact ⟨v, by simp [execOp, ho, hcs, Instr.field, run_underlying hu, h1, asAgg, k1], k2⟩
    · exact (hnil q (by rw [ha])).elim
  | _ => simp [getFld] at hg

/-- a pointer to data that stays -/
theorem RelV.ptr {e : Ty} {q : (Ty.ptr e).D} {v : Value} (h : RelV σ ⟨.ptr e, q⟩ v) (hq : q.1 = true) : SVR σ bx H (.cptr ⟨e, q.2⟩) v := by
  obtain ⟨⟨u, h1, h2, h3, h4⟩, h5⟩ := h
  rw [cells_of_not h5] at h1
  simp only [List.cons.injEq, and_true] at h1
  subst h1
  exact h4 hq

theorem relV_cptr {t : Ty} {d : TD} {y : t.D} {v : Value} (hd : cptrD t d = some y) (h : SVR σ bx H (.cptr d) v) : RelV σ ⟨t, y⟩ v := by
  cases t with
  | ptr e =>
    simp only [cptrD, Option.map_eq_some_iff] at hd
    obtain ⟨x, hx, rfl⟩ := hd
    have := TD.as_eq hx
    subst this
    obtain ⟨a, c, rfl, h2, h3⟩ := h
    exact ⟨⟨_, by simp [Value.cells], rfl, rfl, fun _ => ⟨a, c, rfl, h2, h3⟩⟩, rfl⟩
  | _ => simp [cptrD] at hd

theorem run_fieldAt {s f : Nat} {t : Ty} (ht : chk P t s = true) (hnil : ∀ u, t ≠ .cons .nil u) {y : t.D} {d : TD} (hg : getFld t y f = some d) (hd : d.t.size ≠ 0) (ad : Addr) :
    (Instr.fieldAt s (.pointer (some ad)) f).run P w = .ok (.pointer (some (ad.add (offs t f)))) w := by
  cases t with
  | cons p q =>
    rcases chk_cons ht with ⟨fs, hu, _, _, hF⟩ | ⟨n, et, hu, ha, _⟩
    · obtain ⟨fd, h1, h2, h3⟩ := hF y f d hg
      simp [Instr.fieldAt, run_underlying hu, h1, Instr.sureAddr, fieldPlace, run_sizeOf h3, hd, h2]
    · exact (hnil q (by rw [ha])).elim
  | _ => simp [getFld] at hg

theorem gives_fieldAddr_c {o : Oper} {a : Act} {s f : Nat} {x : Operand} (ho : o.op = .fieldAddr s x f) {t : Ty} (ht : chk P t s = true) (hnil : ∀ u, t ≠ .cons .nil u) {y : t.D} {d : TD} (hg : getFld t y f = some d) (hd : d.t.size ≠ 0)
    (hx : SVR σ bx H (.cptr ⟨t, y⟩) (a.eval x)) : Gives P o a w σ bx H (.cptr d) := by
  obtain ⟨ad, cs, h1, h2, h3⟩ := hx
  obtain ⟨pp, c, r, g1, g2, g3⟩ := Enc.fld _ y f d _ hg h3
  refine ⟨_, by simp [execOp, ho, h1, run_fieldAt ht hnil hg hd], ad.add (offs t f), c, rfl, ?_, g3⟩
  subst g1
  have := (h2.app.1).app.2
  rwa [g2] at this

theorem gives_fieldAddr_v {o : Oper} {a : Act} {s f b : Nat} {p : List Nat} {x : Operand} (ho : o.op = .fieldAddr s x f) {t : Ty} (ht : chk P t s = true) (hnil : ∀ u, t ≠ .cons .nil u) {y : t.D} {d : TD} (hg : getFld t y f = some d) (hd : d.t.size ≠ 0)
    (hx : SVR σ bx H (.ptr b none p) (a.eval x)) (hp : ∀ d0, look b bx = some (.var d0) → getPath d0 p = some ⟨t, y⟩) : Gives P o a w σ bx H (.ptr b none (p ++ [f])) := by
  obtain ⟨d0, e, g, h1, h2, h3, h4⟩ := hx
  have hpe := hp d0 h1
  refine ⟨.pointer (some ⟨g, offPath d0 (p ++ [f]), none⟩), ?_, d0, d, g, h1, getPath_snoc p d0 _ d f hpe hg, h3, rfl⟩
  rw [offPath_snoc p d0 _ f hpe]
  simp [execOp, ho, h4, run_fieldAt ht hnil hg hd, addr_lit]

theorem gives_fieldAddr_e {o : Oper} {a : Act} {s f b i : Nat} {p : List Nat} {x : Operand} (ho : o.op = .fieldAddr s x f) {t : Ty} (ht : chk P t s = true) (hnil : ∀ u, t ≠ .cons .nil u) {y : t.D} {d : TD} (hg : getFld t y f = some d) (hd : d.t.size ≠ 0)
    (hx : SVR σ bx H (.ptr b (some i) p) (a.eval x)) (hp : ∀ e l, look b bx = some (.vec e l) → getPath ⟨e, l.getD i e.zero⟩ p = some ⟨t, y⟩) : Gives P o a w σ bx H (.ptr b (some i) (p ++ [f])) := by
  obtain ⟨e, l, d1, g, n, c, h1, h2, h3, h4, h5⟩ := hx
  have hpe := hp e l h1
  refine ⟨.pointer (some ⟨g, i * e.size + offPath ⟨e, l.getD i e.zero⟩ (p ++ [f]), none⟩), ?_, e, l, d, g, n, c, h1, h2, getPath_snoc p _ _ d f hpe hg, h4, rfl⟩
  rw [offPath_snoc p _ _ f hpe]
  simp [execOp, ho, h5, run_fieldAt ht hnil hg hd, addr_lit, Nat.add_assoc]

/-! indexAddr -/
theorem inB_spec {i : Int} {n : Nat} (h : inB i n = true) : 0 ≤ i ∧ i < n := by simpa [inB] using h

theorem run_indexAt {ty et : Nat} {e : Ty} (hu : P.underlying ty = some (.slice et)) (he : chk P e et = true) (ad : Addr) (len cap : Nat) (k : IntKind) (i : Int) (h0 : 0 ≤ i) (h1 : i < len) :
    (Instr.indexAt ty (.slice (some ad) len cap) (.int k i)).run P w = .ok (.pointer (some (ad.add (i.toNat * e.size)))) w := by
  simp [Instr.indexAt, run_underlying hu, asIntOf, h0, h1, run_sizeOf he]

theorem gives_index_c {o : Oper} {a : Act} {ty : Nat} {x ix : Operand} (ho : o.op = .indexAddr ty x ix) {e : Ty} (ht : chk P (.slice e) ty = true) {k : IntKind} {i : Int} (hi : a.eval ix = .int k i)
    {l : List e.D} (hx : RelV σ ⟨.slice e, l⟩ (a.eval x)) (hb : inB i l.length = true) : Gives P o a w σ bx H (.cptr ⟨e, l.getD i.toNat e.zero⟩) := by
  obtain ⟨et, hu, he, _⟩ := chk_slice ht
  obtain ⟨h0, h1⟩ := inB_spec hb
  obtain ⟨ad, cap, hv, hcap, _, hel⟩ := hx.slice
  have hlt : i.toNat < l.length := by omega
  obtain ⟨a', c, g1, g2, g3, g4⟩ := hel i.toNat hlt
  subst g1
  refine ⟨_, by simp [execOp, ho, hv, hi, run_indexAt hu he a' l.length cap k i h0 h1], _, c, rfl, g3, ?_⟩
  simpa [List.getD, List.getElem?_eq_getElem hlt] using g4

theorem ownsRow_inv {et : Nat} {v : Value} {n size : Nat} {xs : List Value} (h : w.ownsRow n0 et size v n xs) (hn : 0 < n) :
    ∃ g cap cur, v = .slice (some ⟨g, 0, none⟩) n cap ∧ w.heap[g]? = some (.cells cur et (0, 0)) ∧ n ≤ cap ∧ cur.size = cap * size ∧ cur.toList.take (n * size) = xs ∧ n0 ≤ g := by
  rcases h.2 with ⟨_, rfl⟩ | ⟨g, cap, cur, h1, h2, h3, h4, _, h5, h6⟩
  · omega
  · exact ⟨g, cap, cur, h1, h3, h4, h5, h6, h2⟩

theorem gives_index_r {o : Oper} {a : Act} {ty b : Nat} {x ix : Operand} (ho : o.op = .indexAddr ty x ix) {e : Ty} (ht : chk P (.slice e) ty = true) {k : IntKind} {i : Int} (hi : a.eval ix = .int k i)
    {l : List e.D} (hbx : look b bx = some (.vec e l)) (hB : BoxR σ w n0 (.vec e l) (H b)) (hx : a.eval x = H b) (hb : inB i l.length = true) : Gives P o a w σ bx H (.ptr b (some i.toNat) []) := by
  obtain ⟨et, hu, he, _⟩ := chk_slice ht
  obtain ⟨h0, h1⟩ := inB_spec hb
  obtain ⟨ety, xs, hown, _⟩ := hB
  obtain ⟨g, cap, cur, hv, _⟩ := ownsRow_inv hown (by omega)
  refine ⟨.pointer (some ⟨g, i.toNat * e.size, none⟩), by simp [execOp, ho, hx, hv, hi, run_indexAt hu he _ l.length cap k i h0 h1, addr_lit], e, l, ⟨e, l.getD i.toNat e.zero⟩, g, _, cap, hbx, by omega, rfl, hv, ?_⟩
  simp [offPath]

theorem gives_index_w {o : Oper} {a : Act} {ty b lo hi : Nat} {x ix : Operand} (ho : o.op = .indexAddr ty x ix) {e : Ty} (ht : chk P (.slice e) ty = true) {k : IntKind} {i : Int} (hix : a.eval ix = .int k i)
    {l : List e.D} (hbx : look b bx = some (.vec e l)) (hB : BoxR σ w n0 (.vec e l) (H b)) (hx : SVR σ bx H (.view b lo hi) (a.eval x)) (hb : inB i (hi - lo) = true) : Gives P o a w σ bx H (.ptr b (some (lo + i.toNat)) []) := by
  obtain ⟨et, hu, he, _⟩ := chk_slice ht
  obtain ⟨h0, h1⟩ := inB_spec hb
  obtain ⟨e', l', q1, q2, q3, q4⟩ := hx
  rw [hbx] at q1
  simp only [Option.some.injEq, Box.vec.injEq] at q1
  obtain ⟨rfl, q1⟩ := q1
  have q1 := eq_of_heq q1
  subst q1
  obtain ⟨ety, xs, hown, _⟩ := hB
  obtain ⟨g, cap, cur, hv, _, hcap, _⟩ := ownsRow_inv hown (by omega)
  have hne : ¬ cap = lo := by omega
  rw [hv] at q4
  simp only [viewV, if_neg hne, Option.map_some, addr_lit, Nat.zero_add] at q4
  refine ⟨.pointer (some ⟨g, lo * e.size + i.toNat * e.size, none⟩), by simp [execOp, ho, q4, hix, run_indexAt hu he _ (hi - lo) (cap - lo) k i h0 (by omega), addr_lit], e, l, ⟨e, l.getD (lo + i.toNat) e.zero⟩, g, _, cap, hbx, by omega, rfl, hv, ?_⟩
  simp [offPath, Nat.add_mul]

/-- a place of an array variable -/
theorem gives_index_a {o : Oper} {a : Act} {ty b : Nat} {p : List Nat} {x : Operand} {k : IntKind} {n : Int} (ho : o.op = .indexAddr ty x (.const (.int k n))) {u : Ty} (ht : chk P (.cons .nil u) ty = true) (h0 : 0 ≤ n)
    {y : (Ty.cons .nil u).D} {d : TD} (hg : getFld u y.2 n.toNat = some d) (hx : SVR σ bx H (.ptr b none p) (a.eval x)) (hp : ∀ d0, look b bx = some (.var d0) → getPath d0 p = some ⟨.cons .nil u, y⟩) :
    Gives P o a w σ bx H (.ptr b none (p ++ [n.toNat + 1])) := by
  rcases chk_cons ht with ⟨fs, hu, hnn, _⟩ | ⟨m, et, hu, _, hF⟩
  · exact (hnn rfl).elim
  · obtain ⟨h1, h2, h3⟩ := hF y.2 n.toNat d hg
    obtain ⟨d0, e, g, k1, k2, k3, k4⟩ := hx
    have hpe := hp d0 k1
    have hsn := getPath_snoc p d0 _ d (n.toNat + 1) hpe (by simpa [getFld] using hg)
    refine ⟨.pointer (some ⟨g, offPath d0 (p ++ [n.toNat + 1]), none⟩), ?_, d0, d, g, k1, hsn, k3, rfl⟩
    rw [offPath_snoc p d0 _ (n.toNat + 1) hpe]
    have hlt : n < (m : Int) := by omega
    simp [execOp, ho, k4, show a.eval (.const (.int k n)) = .int k n from rfl, Instr.indexAt, Instr.sureAddr, asIntOf, run_underlying hu, h0, hlt, run_sizeOf h2, addr_lit, offs, h3, Ty.size]

end
end Go.Lift
namespace Go.Lift

section
variable {P : Program} {w : World} {σ : Store P} {bx : List (Nat × Box)} {H : Nat → Value} {n0 : Nat}

/-! index -/
theorem gives_str_index {o : Oper} {a : Act} {xt : Nat} {x ix : Operand} (ho : o.op = .index xt x ix) (ht : chk P .str xt = true) {k : IntKind} {i : Int} (hi : a.eval ix = .int k i) {s : ByteArray}
    (hx : a.eval x = .string s) (hb : inB i s.size = true) : Gives P o a w σ bx H (.tv ⟨.int .u8, ((s.get! i.toNat).toNat : Int)⟩) := by
  obtain ⟨h0, h1⟩ := inB_spec hb
  have hlt : i.toNat < s.size := by omega
  have hs : s[i.toNat]? = some (s.get! i.toNat) := by
    rw [getElem?_pos s i.toNat hlt]
    congr 1
    obtain ⟨bs⟩ := s
    have : i.toNat < bs.size := hlt
    show bs[i.toNat] = bs[i.toNat]!
    rw [getElem!_pos bs i.toNat this]
  exact ⟨.int .u8 _, by simp [execOp, ho, hx, hi, Instr.index, asIntOf, run_underlying (chk_str ht), h0, hs], relV_int σ _ _⟩

theorem gives_arr_index {o : Oper} {a : Act} {xt : Nat} {x : Operand} {k : IntKind} {n : Int} (ho : o.op = .index xt x (.const (.int k n))) {u : Ty} (ht : chk P (.cons .nil u) xt = true) (h0 : 0 ≤ n)
    {y : (Ty.cons .nil u).D} {d : TD} (hg : getFld u y.2 n.toNat = some d) (hx : RelV σ ⟨.cons .nil u, y⟩ (a.eval x)) : Gives P o a w σ bx H (.tv d) := by
  rcases chk_cons ht with ⟨fs, hu, hnn, _⟩ | ⟨m, et, hu, _, hF⟩
  · exact (hnn rfl).elim
  · obtain ⟨h1, h2, h3⟩ := hF y.2 n.toNat d hg
    obtain ⟨cs, hcs, c0, r0, e1, e2, e3⟩ := hx.agg rfl
    simp only [Enc] at e2
    subst e2
    obtain ⟨pp, c, r, g1, g2, g3⟩ := Enc.fld _ y.2 n.toNat d _ hg e3
    obtain ⟨v, k1, k2⟩ := run_part (P := P) (w := w) (σ := σ) (off := n.toNat * d.t.size) h2 (cs := cs) (p := pp) (c := c) (r := r) (by rw [e1, g1]; simp) (by rw [g2, h3]) g3
    have : n < (m : Int) := by omega
    exact ⟨v, by simp [execOp, ho, hcs, show a.eval (.const (.int k n)) = .int k n from rfl, Instr.index, asIntOf, run_underlying hu, h0, this, run_sizeOf h2, k1], k2⟩

/-! slices of slices -/
def optV (k : Option (IntKind × Int)) : Option Value := k.map fun x => .int x.1 x.2

theorem run_sliceAt' {ty et : Nat} {e : Ty} (hu : P.underlying ty = some (.slice et)) (he : chk P e et = true) (ad : Option Addr) (len cap : Nat) (lo hi : Option (IntKind × Int)) (l h : Nat)
    (hl : lo.map (·.2) = some (l : Int) ∨ (lo = none ∧ l = 0)) (hh : hi.map (·.2) = some (h : Int) ∨ (hi = none ∧ h = len)) (h1 : l ≤ h) (h2 : h ≤ cap) :
    (Instr.sliceAt ty (.slice ad len cap) (optV lo) (optV hi) none).run P w = .ok (viewV (.slice ad len cap) l h e.size) w := by
  have hs : P.elem ty = et := by simp [Program.elem, hu]
  have hbound : ∀ (k : IntKind) (i : Nat) (y : Nat) (c : BoundsCode), i ≤ y → (Instr.sliceBound (.int k (i : Int)) y c).run P w = .ok i w := by
    intro k i y c hi
    have := run_sliceBound (P := P) w k (i : Int) y c (by omega) (by omega)
    simpa using this
  have hlo : ∀ (v : Value), optV lo = some v → ∃ k, v = .int k (l : Int) := by
    intro v hv
    cases lo with
    | none => simp [optV] at hv
    | some x => simp [optV] at hv; subst hv; simp at hl; exact ⟨x.1, by rw [hl]⟩
  have hhi : ∀ (v : Value), optV hi = some v → ∃ k, v = .int k (h : Int) := by
    intro v hv
    cases hi with
    | none => simp [optV] at hv
    | some x => simp [optV] at hv; subst hv; simp at hh; exact ⟨x.1, by rw [hh]⟩
  have e1 : optV lo = none → l = 0 := by
    intro h; cases lo with
    | none => simpa using hl
    | some x => simp [optV] at h
  have e2 : optV hi = none → h = len := by
    intro h; cases hi with
    | none => simpa using hh
    | some x => simp [optV] at h
  have e2' : optV hi = none → len ≤ cap := by intro h; have := e2 h; omega
  generalize optV lo = vl at *
  generalize optV hi = vh at *
  cases vl with
  | none =>
    have := e1 rfl
    subst this
    cases vh with
    | none =>
      have := e2 rfl
      subst this
      simp [Instr.sliceAt, run_underlying hu, Instr.slice, Instr.sliceBounds, run_sizeOf he, viewV]
    | some v =>
      obtain ⟨k, rfl⟩ := hhi v rfl
      simp [Instr.sliceAt, run_underlying hu, Instr.slice, Instr.sliceBounds, run_sizeOf he, viewV, hbound k h cap _ h2]
  | some u =>
    obtain ⟨k', rfl⟩ := hlo u rfl
    cases vh with
    | none =>
      have := e2 rfl
      subst this
      simp [Instr.sliceAt, run_underlying hu, Instr.slice, Instr.sliceBounds, run_sizeOf he, viewV, hbound k' l h _ h1]
    | some v =>
      obtain ⟨k, rfl⟩ := hhi v rfl
      simp [Instr.sliceAt, run_underlying hu, Instr.slice, Instr.sliceBounds, run_sizeOf he, viewV, hbound k h cap _ h2, hbound k' l h _ h1]

theorem relV_view {e : Ty} {l : List e.D} {v : Value} (h : RelV σ ⟨.slice e, l⟩ v) (lo hi : Nat) (h1 : lo ≤ hi) (h2 : hi ≤ l.length) : RelV σ ⟨.slice e, tail l lo hi⟩ (viewV v lo hi e.size) := by
  obtain ⟨ad, cap, rfl, g1, g2, g3⟩ := h.slice
  have hlen : (tail l lo hi).length = hi - lo := by simp [tail]; omega
  refine ⟨⟨if cap = lo then ad else ad.map (·.add (lo * e.size)), cap - lo, ?_, ?_, ?_, ?_⟩, rfl⟩
  · simp only [viewV]; rw [cells_of_not rfl]; simp [hlen]
  · simp only [hlen]; omega
  · intro hn
    by_cases hc : cap = lo
    · omega
    · simp [hc] at hn; have := g2 hn; omega
  · intro i hi'
    simp only at hi'
    have hi2 : i < hi - lo := by rw [hlen] at hi'; exact hi'
    obtain ⟨a, c, k1, k2, k3, k4⟩ := g3 (lo + i) (by omega)
    subst k1
    have hc : ¬ cap = lo := by omega
    refine ⟨a.add (lo * e.size), c, by simp [hc], k2, ?_, ?_⟩
    · rw [addr_add_add, ← Nat.add_mul]; exact k3
    · have : (tail l lo hi)[i]'hi' = l[lo + i]'(by omega) := by simp [tail]
      rw [this]; exact k4

/-! build -/
theorem chkF_places : ∀ (t : Ty) (fs : List Field) (off : Nat), chkF P t fs off = true →
    ∃ places, fs.mapM (fun f => (P.info? f.type).map fun i => (f.offset, i.size)) = some places ∧ ∀ (x : t.D) (i : Nat) (d : TD), getFld t x i = some d → places[i]? = some (off + offs t i, d.t.size)
  | .nil, fs, off, h => by
    simp [chkF] at h; subst h
    exact ⟨[], by simp, fun x i d hd => by simp [getFld] at hd⟩
  | .cons a b, fs, off, h => by
    simp only [chkF] at h
    cases fs with
    | nil => simp at h
    | cons f r =>
      simp only [Bool.and_eq_true, decide_eq_true_eq] at h
      obtain ⟨places, h1, h2⟩ := chkF_places b r _ h.2
      obtain ⟨i, z, k1, k2, _⟩ := infoOK_spec (chk_info h.1.2)
      refine ⟨(f.offset, i.size) :: places, by simp [List.mapM_cons, k1, h1], fun x j d hd => ?_⟩
      cases j with
      | zero => simp [getFld] at hd; subst hd; simp [offs, k2, h.1.1.1]
      | succ j => simp only [getFld] at hd; simp [h2 x.2 j d hd, offs, Nat.add_assoc]
  | .int _, _, _, h => by simp [chkF] at h
  | .bool, _, _, h => by simp [chkF] at h
  | .str, _, _, h => by simp [chkF] at h
  | .slice _, _, _, h => by simp [chkF] at h

theorem foldl_set : ∀ (v : List Value) (k : Nat) (cells : Array Value) (p c r : List Value), cells.toList = p ++ c ++ r → c.length = v.length → ∀ off, p.length = off + k →
    ((v.zipIdx k).foldl (fun (cs : Array Value) x => cs.setIfInBounds (off + x.2) x.1) cells).toList = p ++ v ++ r
  | [], k, cells, p, c, r, h, hc, off, hp => by
    have : c = [] := List.eq_nil_of_length_eq_zero hc
    subst this; simpa using h
  | u :: v, k, cells, p, c, r, h, hc, off, hp => by
    match c, hc with
    | x :: c, hc =>
      simp only [List.zipIdx_cons, List.foldl_cons]
      rw [foldl_set v (k + 1) _ (p ++ [u]) c r ?_ (by simpa using hc) off (by simp; omega)]
      · simp
      · rw [Array.toList_setIfInBounds, h, ← hp]
        simp

theorem fill_cells (place : Nat → Option (Nat × Nat)) (cells : Array Value) (i off : Nat) (v : Value) (rest : List (Nat × Value)) (p c r : List Value) (hpl : place i = some (off, c.length))
    (hc : cells.toList = p ++ c ++ r) (hp : p.length = off) (hv : v.cells.toList.length = c.length) :
    Instr.fill place cells ((i, v) :: rest) = Instr.fill place (p ++ v.cells.toList ++ r).toArray rest := by
  have hsz : v.cells.size = c.length := by simpa using hv
  have hcs : cells.size = off + c.length + r.length := by
    have : cells.toList.length = off + c.length + r.length := by rw [hc]; simp [hp]; omega
    simpa using this
  simp only [Instr.fill, hpl, hsz]
  rw [if_neg (by simp; omega)]
  congr 1
  apply Array.ext'
  have := foldl_set v.cells.toList 0 cells p c r hc (by omega) off (by omega)
  show _ = p ++ v.cells.toList ++ r
  rw [← this, ← Array.foldl_toList]
  congr 1
  simp [Array.toList_zipIdx]

theorem setFld_get : ∀ (t : Ty) (x x' : t.D) (i : Nat) (d : TD), setFld t x i d = some x' → ∃ d0, getFld t x i = some d0
  | .cons _ _, _, _, 0, _, _ => ⟨_, rfl⟩
  | .cons _ b, x, _, n + 1, d, h => by
    simp only [setFld, Option.map_eq_some_iff] at h
    obtain ⟨y, hy, _⟩ := h
    simpa [getFld] using setFld_get b x.2 y n d hy
  | .int _, _, _, _, _, h => by simp [setFld] at h
  | .bool, _, _, _, _, h => by simp [setFld] at h
  | .str, _, _, _, _, h => by simp [setFld] at h
  | .nil, _, _, _, _, h => by simp [setFld] at h
  | .slice _, _, _, _, _, h => by simp [setFld] at h

theorem fill_build {t : Ty} {places : List (Nat × Nat)} (hpl : ∀ (x : t.D) (i : Nat) (d : TD), getFld t x i = some d → places[i]? = some (offs t i, d.t.size)) :
    ∀ (parts : List (Nat × Value)) (ds : List (Nat × TD)) (x x' : t.D) (cells : Array Value), Enc σ t x cells.toList → parts.length = ds.length →
      (∀ (k i : Nat) (v : Value), parts[k]? = some (i, v) → ∃ d : TD, ds[k]? = some (i, d) ∧ RelV σ d v) →
      ds.foldlM (fun x (id : Nat × TD) => setFld t x id.1 id.2) x = some x' → ∃ cs, Instr.fill (fun i => places[i]?) cells parts = some cs ∧ Enc σ t x' cs.toList
  | [], ds, x, x', cells, he, hl, _, hf => by
    have : ds = [] := List.eq_nil_of_length_eq_zero (by simpa using hl.symm)
    subst this
    simp at hf; subst hf
    exact ⟨cells, rfl, he⟩
  | (i, v) :: parts, ds, x, x', cells, he, hl, hp, hf => by
    match ds, hl with
    | (j, d) :: ds, hl =>
      obtain ⟨d', h1, h2⟩ := hp 0 i v rfl
      simp at h1
      obtain ⟨rfl, rfl⟩ := h1
      simp only [List.foldlM_cons, Option.bind_eq_bind, Option.bind_eq_some_iff] at hf
      obtain ⟨x1, hs, hf⟩ := hf
      have hget := setFld_get t x x1 j d hs
      obtain ⟨d0, hg⟩ := hget
      obtain ⟨p, c, r, g1, g2, g3, g4, g5⟩ := Enc.set t x x1 j d0 d cells.toList hg hs he
      have hlen : v.cells.toList.length = c.length := by rw [h2.1.length, g3.length, g4]
      rw [fill_cells _ cells j (offs t j) v parts p c r (by rw [hpl x j d0 hg, g3.length]) g1 g2 hlen]
      exact fill_build hpl parts ds x1 x' _ (by simpa using g5 _ h2.1) (by simpa using hl) (fun k i' v' hk => hp (k + 1) i' v' (by simpa using hk)) hf

theorem gives_build {o : Oper} {a : Act} {ty : Nat} {parts : Array (Nat × Operand)} (ho : o.op = .build ty parts) {t : Ty} (ht : chk P t ty = true) (harr : t.isArr = false) (hag : t.isAgg = true) {ds : List (Nat × TD)} {x' : t.D}
    (hl : parts.toList.length = ds.length) (hp : ∀ (k i : Nat) (x : Operand), parts.toList[k]? = some (i, x) → ∃ d, ds[k]? = some (i, d) ∧ RelV σ d (a.eval x))
    (hf : ds.foldlM (fun x (id : Nat × TD) => setFld t x id.1 id.2) t.zero = some x') : Gives P o a w σ bx H (.tv ⟨t, x'⟩) := by
  obtain ⟨it, z, k1, k2, _, k4, k5, k6⟩ := infoOK_spec (chk_info ht)
  have hst : ∃ fs, P.underlying ty = some (.struct fs) ∧ chkF P t fs.toList 0 = true := by
    cases t with
    | cons p q =>
      rcases chk_cons ht with ⟨fs, hu, _, hF, _⟩ | ⟨n, et, hu, ha, _⟩
      · exact ⟨fs, hu, hF⟩
      · subst ha; simp [Ty.isArr] at harr
    | nil =>
      simp only [chk, Bool.and_eq_true] at ht
      obtain ⟨_, h⟩ := ht
      split at h
      · rename_i fs hu; exact ⟨fs, hu, by simp [chkF]; simpa using h⟩
      · simp at h
    | _ => simp [Ty.isAgg] at hag
  obtain ⟨fs, hu, hF⟩ := hst
  obtain ⟨places, q1, q2⟩ := chkF_places t fs.toList 0 hF
  obtain ⟨cs, f1, f2⟩ := fill_build (σ := σ) (places := places) (fun x i d hd => by simpa using q2 x i d hd) ((parts.map fun (i, x) => (i, a.eval x)).toList) ds t.zero x' z.cells (k5 σ)
    (by simpa using hl) (fun k i v hk => by
      simp only [Array.toList_map, List.getElem?_map, Option.map_eq_some_iff, Prod.mk.injEq] at hk
      obtain ⟨⟨i', x⟩, hk1, rfl, rfl⟩ := hk
      exact hp k _ x hk1) hf
  have hb : P.built ty (parts.map fun (i, x) => (i, a.eval x)).toList = some cs := by
    simp only [Program.built, k1, hu, k4, q1]
    simpa using f1
  refine ⟨.agg cs, ?_, by simpa [Value.cells] using f2, by simp [isAggV, hag]⟩
  have hr := run_build w ty (parts.map fun (i, x) => (i, a.eval x)) cs hb
  simp [execOp, ho, hr]

end
end Go.Lift
namespace Go.Lift

def heapS {P : Program} (w : World) : Store P := fun b => w.heap[b]?
theorem holds_heapS {P : Program} (w : World) : Holds (P := P) w (heapS w) := fun _ _ h => h
theorem Holds.le_heapS {P : Program} {w : World} {σ : Store P} (h : Holds w σ) : Store.le σ (heapS (P := P) w) := h

structure Env (P : Program) (T : Nat → Option Ty) (G : Tbl) : Prop where
  types : ∀ ty t, T ty = some t → chk P t ty = true
  fns : ∀ f tds r, G f tds = some r → FnOK P f
  good : Good P G
  seqs : SeqGood P G
  mixed : P.follows .mixedOrders = true
  owns : OwnGood P G
  maps : ∀ t, G.m t = true → ∃ k e, P.underlying t = some (.map k e) ∧ P.underlying k = some (.int .i64) ∧ chk P (.int .i64) e = true

section
variable {P : Program} {T : Nat → Option Ty} {G : Tbl} {w : World} {σ : Store P} {bx : List (Nat × Box)} {H : Nat → Value} {n0 : Nat}

theorem lies_heapS {w : World} {a : Addr} {cs : List Value} (h : At w a cs) : Lies (P := P) (heapS (P := P) w) a cs := by
  intro j v hv
  have := h j v hv
  unfold World.cell? at this
  unfold Store.cell? heapS
  exact this

theorem box_slice {e : Ty} {l : List e.D} {v : Value} (hh : Holds w σ) (h : BoxR σ w n0 (.vec e l) v) : RelV (heapS (P := P) w) ⟨.slice e, l⟩ v := by
  obtain ⟨ety, xs, hown, henc, _⟩ := h
  rcases Nat.eq_zero_or_pos l.length with h0 | hpos
  · have hl : l = [] := List.eq_nil_of_length_eq_zero h0
    subst hl
    rcases hown.2 with ⟨rfl, _⟩ | ⟨g, cap, cur, rfl, _, hg, h1, _, h3, h4⟩
    · exact relV_nil _ _
    · exact ⟨⟨some ⟨g, 0, none⟩, cap, by simp [Value.cells], by simp, by simp, fun i hi => by simp at hi⟩, rfl⟩
  · obtain ⟨g, cap, cur, rfl, hg, hcap, hcs, htake, _⟩ := ownsRow_inv hown hpos
    refine ⟨⟨some ⟨g, 0, none⟩, cap, by simp [Value.cells], hcap, by simp, ?_⟩, rfl⟩
    refine EncL.toSlice l xs (henc.mono hh.le_heapS) ⟨g, 0, none⟩ (lies_heapS ?_)
    intro j v hv
    exact hown.cells (g := g) rfl j v hv

theorem data_rel {t : Ty} {y : t.D} {s : SV} {v : Value} (hh : Holds w σ) (hB : BoxesR σ w n0 bx H) (hd : s.data bx t = some y) (h : SVR σ bx H s v) :
    (s.isRef = false → RelV σ ⟨t, y⟩ v) ∧ RelV (heapS (P := P) w) ⟨t, y⟩ v := by
  cases s with
  | tv d =>
    have := TD.as_eq hd; subst this
    exact ⟨fun _ => h, RelV.mono hh.le_heapS h⟩
  | nils =>
    have hv : v = .slice none 0 0 := h
    subst hv
    cases t with
    | slice e => simp [SV.data, nilD] at hd; subst hd; exact ⟨fun _ => relV_nil _ _, relV_nil _ _⟩
    | _ => simp [SV.data, nilD] at hd
  | cptr d =>
    have hr : RelV σ ⟨t, y⟩ v := relV_cptr (bx := bx) (H := H) hd h
    exact ⟨fun _ => hr, RelV.mono hh.le_heapS hr⟩
  | ref b =>
    obtain ⟨e, l, h1, h2⟩ := h
    simp only [SV.data, h1] at hd
    have := TD.as_eq hd
    have hb := box_slice hh (hB b _ h1)
    rw [this, ← h2] at hb
    exact ⟨by simp [SV.isRef], hb⟩
  | view b lo hi =>
    obtain ⟨e, l, h1, h2, h3, h4⟩ := h
    simp only [SV.data, h1] at hd
    have := TD.as_eq hd
    have hb := relV_view (box_slice hh (hB b _ h1)) lo hi h2 h3
    rw [this, ← h4] at hb
    exact ⟨by simp [SV.isRef], hb⟩
  | _ => simp [SV.data] at hd

theorem mapO_spec {α β : Type} {f : α → Option β} : ∀ {l : List α} {m : List β}, mapO f l = some m → m.length = l.length ∧ ∀ (i : Nat) (x : α), l[i]? = some x → ∃ y, f x = some y ∧ m[i]? = some y
  | [], m, h => by simp [mapO] at h; subst h; simp
  | a :: l, m, h => by
    simp only [mapO, Option.bind_eq_some_iff] at h
    obtain ⟨b, hb, s, hs, h⟩ := h
    simp at h; subst h
    obtain ⟨h1, h2⟩ := mapO_spec hs
    refine ⟨by simp [h1], fun i x hx => ?_⟩
    cases i with
    | zero => simp at hx; subst hx; exact ⟨b, hb, rfl⟩
    | succ i => simpa using h2 i x (by simpa using hx)

theorem argsTD_spec : ∀ {ts : List Nat} {vs : List SV} {tds : List TD}, argsTD T bx ts vs = some tds → tds.length = vs.length ∧
    ∀ (i : Nat) (s : SV), vs[i]? = some s → ∃ d : TD, tds[i]? = some d ∧ s.data bx d.t = some d.x
  | [], [], tds, h => by simp [argsTD] at h; subst h; simp
  | t :: ts, v :: vs, tds, h => by
    simp only [argsTD, Option.bind_eq_some_iff] at h
    obtain ⟨u, hu, x, hx, r, hr, h⟩ := h
    simp at h; subst h
    obtain ⟨h1, h2⟩ := argsTD_spec hr
    refine ⟨by simp [h1], fun i s hs => ?_⟩
    cases i with
    | zero => simp at hs; subst hs; exact ⟨_, rfl, hx⟩
    | succ i => simpa using h2 i s (by simpa using hs)
  | [], _ :: _, _, h => by simp [argsTD] at h
  | _ :: _, [], _, h => by simp [argsTD] at h

theorem run_call {o : Oper} {a : Act} {c : Call} (ho : o.op = .call c) {f : Nat} (hc : c.callee = .value (.func f)) (hf : FnOK P f) :
    (execOp a.eval o).run P w = .ok (.enter f (c.args.map a.eval)) w := by
  obtain ⟨fn, h1, h2, h3⟩ := hf
  have h3' : fn.name ≠ "runtime.NumGoroutine" := by simpa using h3
  have h2' : fn.body ≠ none := by intro h; simp [h] at h2
  simp [execOp, ho, resolve, hc, show a.eval (.func f) = .func (.func f) #[] #[] from rfl, Deferred.ofValue, invoke, callFunc, h1, h2', h3']

theorem wp_call (hE : Env P T G) {o : Oper} {a : Act} {c : Call} (ho : o.op = .call c) {f : Nat} (hc : c.callee = .value (.func f)) {tds : List TD} {r : SV} (hg : G f tds = some (true, r))
    {τ : Store P} (ht : Holds w τ) (hargs : ArgsR τ tds (c.args.map a.eval)) {next : Act → World → Prop} {Q : Exit → Act → World → Prop}
    (hn : ∀ v τ' w', Step τ w τ' w' → RetR τ' w' w.heap.size r v → next (a.put o.dst v) w') : o.wp P a w next Q := by
  unfold Oper.wp
  rw [run_call ho hc (hE.fns f tds _ hg), Oper.upon_enter]
  refine (hE.good f tds r hg τ w _ ht hargs).mono fun e w' ⟨v, τ', he, hs, hr⟩ => ?_
  subst he
  exact hn v τ' w' hs hr

theorem svr_of_svr1 {s : SV} {v : Value} (h : SVR1 σ bx H s v) : SVR σ bx H s v := by
  cases s <;> first | exact h | exact h.elim

theorem retR_plain {w' : World} {m : Nat} {r : SV} {v : Value} (h : RetR σ w' m r v) (hp : r.plainR = true) : SVR σ bx H r v := by
  cases r with
  | tv d => exact h
  | tup l =>
    obtain ⟨vs, h1, h2, h3, _⟩ := h
    refine ⟨vs, h1, h2, fun i s u hs hu => ?_⟩
    have := h3 i s u hs hu
    simp only [SV.plainR, List.all_eq_true] at hp
    have hps := hp s (List.mem_of_getElem? hs)
    cases s <;> simp_all
    exact this
  | _ => simp [SV.plainR] at hp

theorem retR_flat {w' : World} {m : Nat} {r : SV} {v : Value} {τ : Store P} (h : RetR τ w' m r v) (hp : r.flatR = true) : SVR σ bx H r v := by
  cases r with
  | tv d => exact ⟨Enc.flat _ _ _ hp h.1, h.2⟩
  | tup l =>
    obtain ⟨vs, h1, h2, h3, _⟩ := h
    refine ⟨vs, h1, h2, fun i s u hs hu => ?_⟩
    have := h3 i s u hs hu
    simp only [SV.flatR, List.all_eq_true] at hp
    have hps := hp s (List.mem_of_getElem? hs)
    cases s <;> simp_all
    exact ⟨Enc.flat _ _ _ hps this.1, this.2⟩
  | _ => simp [SV.flatR] at hp

/-- what an operation yields, its own world apart -/
def Yields (P : Program) (o : Oper) (a : Act) (w : World) (σ : Store P) (bx : List (Nat × Box)) (H : Nat → Value) (s : SV) : Prop :=
  ∀ (next : Act → World → Prop) (Q : Exit → Act → World → Prop), (∀ v σ' w', Step σ w σ' w' → SVR σ' bx H s v → next (a.put o.dst v) w') → o.wp P a w next Q

theorem Gives.yields {o : Oper} {a : Act} {s : SV} (hh : Holds w σ) (h : Gives P o a w σ bx H s) : Yields P o a w σ bx H s :=
  fun _ _ hn => let ⟨v, h1, h2⟩ := h; wp_val h1 (hn v σ w (Step.refl hh) h2)

theorem yields_call (hE : Env P T G) (hh : Holds w σ) (hB : BoxesR σ w n0 bx H) {o : Oper} {a : Act} {c : Call} (ho : o.op = .call c) {ρ : Operand → Option SV} {f : Nat} (hc : c.callee = .value (.func f))
    (hρ : ∀ x ∈ c.args.toList, ∀ s, ρ x = some s → SVR σ bx H s (a.eval x)) {s : SV} (hv : callVal G T bx ρ c = some (true, s)) : Yields P o a w σ bx H s := by
  simp only [callVal, hc, Option.bind_eq_some_iff] at hv
  obtain ⟨svs, h1, tds, h2, ⟨b, r⟩, h3, hv⟩ := hv
  obtain ⟨m1, m2⟩ := mapO_spec h1
  obtain ⟨t1, t2⟩ := argsTD_spec h2
  intro next Q hn
  have hargs : ∀ τ : Store P, (∀ (x : Operand) (s : SV) (d : TD), x ∈ c.args.toList → s ∈ svs → ρ x = some s → s.data bx d.t = some d.x → RelV τ d (a.eval x)) → ArgsR τ tds (c.args.map a.eval) := by
    intro τ hτ
    refine ⟨by simp [t1, m1], fun i d v hd hv => ?_⟩
    simp only [Array.getElem?_map, Option.map_eq_some_iff] at hv
    obtain ⟨x, hx, rfl⟩ := hv
    have hx' : c.args.toList[i]? = some x := by simpa using hx
    obtain ⟨y, hy1, hy2⟩ := m2 i x hx'
    obtain ⟨d', hd1, hd2⟩ := t2 i y hy2
    rw [hd] at hd1
    simp at hd1; subst hd1
    exact hτ x y d (List.mem_of_getElem? hx') (List.mem_of_getElem? hy2) hy1 hd2
  cases hany : svs.any SV.isRef with
  | true =>
    simp only [hany, if_true] at hv
    cases hfl : r.flatR with
    | false => simp [hfl] at hv
    | true =>
      simp [hfl] at hv
      obtain ⟨rfl, rfl⟩ := hv
      refine wp_call hE ho hc h3 (holds_heapS w) (hargs _ fun x s d hx _ hxs hd => (data_rel hh hB hd (hρ x hx s hxs)).2) fun v τ' w' hst hr => ?_
      refine hn v σ w' ⟨Store.le.refl σ, fun b o hb => hst.holds b o (hst.le b o (hh b o hb)), fun b o hb => .inl hb, hst.size, hst.block, hst.os, hst.output, hst.tape⟩ (retR_flat hr hfl)
  | false =>
    simp only [hany, Bool.false_eq_true, if_false] at hv
    cases hfl : r.plainR with
    | false => simp [hfl] at hv
    | true =>
      simp [hfl] at hv
      obtain ⟨rfl, rfl⟩ := hv
      refine wp_call hE ho hc h3 hh (hargs _ fun x s d hx hs hxs hd => (data_rel hh hB hd (hρ x hx s hxs)).1 ?_) fun v τ' w' hst hr => hn v τ' w' hst (retR_plain hr hfl)
      have := List.any_eq_false.1 hany s hs
      simpa using this

/-! len, max, min -/
theorem run_len_slice' {ty et : Nat} (hu : P.underlying ty = some (.slice et)) (ad : Option Addr) (n c : Nat) (rt : Nat) : (Builtin.len_ #[ty] rt #[.slice ad n c]).run P w = .ok (.int .i64 n) w := by
  simp [Builtin.len_, run_underlying hu, goInt]

end
end Go.Lift
namespace Go.Lift

section
variable {P : Program} {T : Nat → Option Ty} {G : Tbl} {w : World} {σ : Store P} {bx : List (Nat × Box)} {H : Nat → Value} {n0 : Nat}

def OpdR (ρ : Operand → Option SV) (o : Oper) (a : Act) (σ : Store P) (bx : List (Nat × Box)) (H : Nat → Value) : Prop :=
  match o.op with
  | .pick c x y => (∀ s, ρ c = some s → SVR σ bx H s (a.eval c)) ∧ (a.eval c = .bool true → ∀ s, ρ x = some s → SVR σ bx H s (a.eval x)) ∧
      (a.eval c = .bool false → ∀ s, ρ y = some s → SVR σ bx H s (a.eval y))
  | op => ∀ x ∈ op.operands.toList, ∀ s, ρ x = some s → SVR σ bx H s (a.eval x)

theorem gives_len {o : Oper} {a : Act} {c : Call} (ho : o.op = .call c) (hc : c.callee = .builtin .len) {ρ : Operand → Option SV} (hT : ∀ ty t, T ty = some t → chk P t ty = true) (hh : Holds w σ) (hB : BoxesR σ w n0 bx H)
    (hρ : ∀ x ∈ c.args.toList, ∀ s, ρ x = some s → SVR σ bx H s (a.eval x)) {s : SV} (hv : callVal G T bx ρ c = some (true, s)) : Gives P o a w σ bx H s := by
  simp only [callVal, hc] at hv
  split at hv
  · rename_i x t hargs htys
    have ha : c.args = #[x] := by apply Array.ext'; simpa using hargs
    have ht : c.argTypes = #[t] := by apply Array.ext'; simpa using htys
    have hx := hρ x (by simp [hargs])
    have hrun : ∀ v n, a.eval x = v → (Builtin.len_ #[t] o.type #[v]).run P w = .ok (.int .i64 n) w → (execOp a.eval o).run P w = .ok (.value (.int .i64 n)) w := by
      intro v n h1 h2
      simp [execOp, ho, resolve, hc, invoke, builtin, ha, ht, h1, h2]
    simp only [Option.bind_eq_some_iff] at hv
    obtain ⟨ty, hty, hv⟩ := hv
    have hchk := hT t ty hty
    cases ty with
    | slice e =>
      obtain ⟨et, hu, _⟩ := chk_slice hchk
      simp only [Option.bind_eq_some_iff] at hv
      obtain ⟨sv, hsv, hv⟩ := hv
      have hr := hx sv hsv
      split at hv
      · simp at hv; subst hv
        obtain ⟨ad, cap, h1, _⟩ := RelV.slice hr
        exact ⟨_, hrun _ _ h1 (run_len_slice' hu _ _ _ _), relV_int σ _ _⟩
      · simp at hv; subst hv
        exact ⟨_, hrun _ _ hr (by simpa using run_len_slice' hu none 0 0 o.type), relV_int σ _ _⟩
      · rename_i b
        obtain ⟨t', l, h1, h2⟩ := hr
        simp only [h1] at hv
        simp at hv; subst hv
        obtain ⟨ad, cap, h3, _⟩ := RelV.slice (box_slice hh (hB b _ h1))
        exact ⟨_, hrun _ _ (h2.trans h3) (run_len_slice' hu _ _ _ _), relV_int σ _ _⟩
      · rename_i b lo hi
        obtain ⟨t', l, h1, h2, h3, h4⟩ := hr
        simp at hv; subst hv
        obtain ⟨ad, cap, h5, _⟩ := RelV.slice (box_slice hh (hB b _ h1))
        rw [h5] at h4
        exact ⟨_, hrun _ _ h4 (run_len_slice' hu _ _ _ _), relV_int σ _ _⟩
      · simp at hv
    | str =>
      simp only [Option.bind_eq_some_iff] at hv
      obtain ⟨sv, hsv, hv⟩ := hv
      have hr := hx sv hsv
      split at hv
      · rename_i st
        simp at hv; subst hv
        have h1 := RelV.str hr
        exact ⟨_, hrun _ _ h1 (by simp [Builtin.len_, run_underlying (chk_str hchk), goInt]), relV_int σ _ _⟩
      · simp at hv
    | _ => simp at hv
  · simp at hv

theorem run_max : ∀ (l : List Int) (k : IntKind) (n : Int), ((l.map (Value.int k)).foldlM Builtin.max2 (.int k n)).run P w = .ok (.int k (maxI l n)) w
  | [], k, n => by simp [maxI]
  | b :: l, k, n => by
    simp only [List.map_cons, List.foldlM_cons, Builtin.max2, maxI, Sem.run_bind, Sem.run_pure, Result.andThen_ok]
    exact run_max l k _

theorem run_min : ∀ (l : List Int) (k : IntKind) (n : Int), ((l.map (Value.int k)).foldlM Builtin.min2 (.int k n)).run P w = .ok (.int k (minI l n)) w
  | [], k, n => by simp [minI]
  | b :: l, k, n => by
    simp only [List.map_cons, List.foldlM_cons, Builtin.min2, minI, Sem.run_bind, Sem.run_pure, Result.andThen_ok]
    exact run_min l k _

theorem ints_spec {k : IntKind} : ∀ {vs : List SV} {l : List Int}, ints k vs = some l → vs = l.map fun n => .tv ⟨.int k, n⟩
  | [], l, h => by simp [ints] at h; subst h; rfl
  | v :: vs, l, h => by
    simp only [ints] at h
    split at h
    · rename_i k' n hv
      cases hk : decide (k' = k) with
      | false => simp [hk] at h
      | true =>
        simp [hk, Option.bind_eq_some_iff] at h
        simp at hk; subst hk
        obtain ⟨s, hs, h⟩ := h
        subst h
        rw [int_inv hv, ints_spec hs]; rfl
    · simp at h

theorem args_ints {a : Act} {ρ : Operand → Option SV} {k : IntKind} : ∀ {xs : List Operand} {l : List Int}, (∀ x ∈ xs, ∀ s, ρ x = some s → SVR σ bx H s (a.eval x)) →
    mapO ρ xs = some (l.map fun n => SV.tv ⟨.int k, n⟩) → xs.map a.eval = l.map (Value.int k)
  | [], l, _, h => by
    simp [mapO] at h
    have : l = [] := by cases l <;> simp_all
    subst this; rfl
  | x :: xs, l, hρ, h => by
    simp only [mapO, Option.bind_eq_some_iff] at h
    obtain ⟨b, hb, s, hs, h⟩ := h
    cases l with
    | nil => simp at h
    | cons n l =>
      simp only [List.map_cons, Option.some.injEq, List.cons.injEq] at h
      obtain ⟨rfl, rfl⟩ := h
      have h1 := svr_int (hρ x (by simp) _ hb)
      simp [h1, args_ints (fun y hy => hρ y (by simp [hy])) hs]

theorem gives_max {o : Oper} {a : Act} {c : Call} (ho : o.op = .call c) (hc : c.callee = .builtin .max) {ρ : Operand → Option SV}
    (hρ : ∀ x ∈ c.args.toList, ∀ s, ρ x = some s → SVR σ bx H s (a.eval x)) {s : SV} (hv : callVal G T bx ρ c = some (true, s)) : Gives P o a w σ bx H s := by
  simp only [callVal, hc, Option.bind_eq_some_iff] at hv
  obtain ⟨svs, h1, hv⟩ := hv
  split at hv
  · rename_i v vs
    split at hv
    · rename_i k n hn
      simp only [Option.bind_eq_some_iff, Option.some.injEq, Prod.mk.injEq, true_and] at hv
      obtain ⟨l, hl, rfl⟩ := hv
      have h2 : v :: vs = (n :: l).map fun n => SV.tv ⟨.int k, n⟩ := by rw [int_inv hn, ints_spec hl]; rfl
      rw [h2] at h1
      have h3 := args_ints hρ h1
      refine ⟨.int k (maxI l n), ?_, relV_int σ _ _⟩
      have : (c.args.map a.eval).toList = Value.int k n :: l.map (Value.int k) := by simpa using h3
      simp only [execOp, ho, resolve, hc, invoke, builtin, Sem.run_bind, Sem.run_pure, Result.andThen_ok, Builtin.max_, this, run_max]
    · simp at hv
  · simp at hv

theorem gives_min {o : Oper} {a : Act} {c : Call} (ho : o.op = .call c) (hc : c.callee = .builtin .min) {ρ : Operand → Option SV}
    (hρ : ∀ x ∈ c.args.toList, ∀ s, ρ x = some s → SVR σ bx H s (a.eval x)) {s : SV} (hv : callVal G T bx ρ c = some (true, s)) : Gives P o a w σ bx H s := by
  simp only [callVal, hc, Option.bind_eq_some_iff] at hv
  obtain ⟨svs, h1, hv⟩ := hv
  split at hv
  · rename_i v vs
    split at hv
    · rename_i k n hn
      simp only [Option.bind_eq_some_iff, Option.some.injEq, Prod.mk.injEq, true_and] at hv
      obtain ⟨l, hl, rfl⟩ := hv
      have h2 : v :: vs = (n :: l).map fun n => SV.tv ⟨.int k, n⟩ := by rw [int_inv hn, ints_spec hl]; rfl
      rw [h2] at h1
      have h3 := args_ints hρ h1
      refine ⟨.int k (minI l n), ?_, relV_int σ _ _⟩
      have : (c.args.map a.eval).toList = Value.int k n :: l.map (Value.int k) := by simpa using h3
      simp only [execOp, ho, resolve, hc, invoke, builtin, Sem.run_bind, Sem.run_pure, Result.andThen_ok, Builtin.min_, this, run_min]
    · simp at hv
  · simp at hv

/-! the call of a function value -/
theorem run_callV {o : Oper} {a : Act} {c : Call} (ho : o.op = .call c) {t : Nat} (hc : c.callee = .value (.tmp t)) {f : Nat} {caps : Array Value} (hv : a.eval (.tmp t) = .func (.func f) #[] caps) (hf : FnOK P f) :
    (execOp a.eval o).run P w = .ok (.enter f (c.args.map a.eval ++ caps)) w := by
  obtain ⟨fn, h1, h2, h3⟩ := hf
  have h3' : fn.name ≠ "runtime.NumGoroutine" := by simpa using h3
  have h2' : fn.body ≠ none := by intro h; simp [h] at h2
  simp [execOp, ho, resolve, hc, hv, Deferred.ofValue, invoke, callFunc, h1, h2', h3']

theorem pack_rel {τ : Store P} : ∀ (A : Ty) (svs : List SV) (vs : List Value) (x : A.D), packD bx A svs = some x → svs.length = vs.length →
    (∀ (i : Nat) (s : SV) (v : Value) (d : Ty) (y : d.D), svs[i]? = some s → vs[i]? = some v → s.data bx d = some y → RelV τ ⟨d, y⟩ v) → ArgShape A vs ∧ Enc τ A x (flatCells vs)
  | .cons a b, s :: svs, v :: vs, x, h, hl, hr => by
    simp only [packD, Option.bind_eq_some_iff, Option.map_eq_some_iff] at h
    obtain ⟨y, hy, z, hz, rfl⟩ := h
    obtain ⟨i1, i2⟩ := pack_rel b svs vs z hz (by simpa using hl) (fun i s v d y h1 h2 => hr (i + 1) s v d y (by simpa using h1) (by simpa using h2))
    obtain ⟨e1, e2⟩ := hr 0 s v a y rfl rfl hy
    exact ⟨⟨by have := e1.length; simpa using this, e2, i1⟩, v.cells.toList, flatCells vs, by simp [flatCells], e1, i2⟩
  | .nil, [], [], x, h, hl, hr => ⟨trivial, rfl⟩
  | .nil, [], _ :: _, _, _, hl, _ => by simp at hl
  | .nil, _ :: _, _, _, h, _, _ => by simp [packD] at h
  | .cons _ _, [], _, _, h, _, _ => by simp [packD] at h
  | .cons _ _, _ :: _, [], _, _, hl, _ => by simp at hl
  | .int _, _, _, _, h, _, _ => by simp [packD] at h
  | .bool, _, _, _, h, _, _ => by simp [packD] at h
  | .str, _, _, _, h, _, _ => by simp [packD] at h
  | .slice _, _, _, _, h, _, _ => by simp [packD] at h
  | .ptr _, _, _, _, h, _, _ => by simp [packD] at h
  | .fn _ _, _, _, _, h, _, _ => by simp [packD] at h
  | .seq _, _, _, _, h, _, _ => by simp [packD] at h

theorem RelV.one {v u : Value} (hd : v.cells.toList = [u]) (ha : isAggV v = false) : u = v := by
  rw [cells_of_not ha] at hd; simpa using hd.symm

theorem yields_fn (hh : Holds w σ) (hB : BoxesR σ w n0 bx H) {o : Oper} {a : Act} {c : Call} (ho : o.op = .call c) {ρ : Operand → Option SV} {t : Nat} (hc : c.callee = .value (.tmp t))
    (hρ : ∀ x ∈ c.args.toList, ∀ s, ρ x = some s → SVR σ bx H s (a.eval x)) {A R : Ty} {φ : A.D → Bool × R.D} (hf : RelV σ ⟨.fn A R, φ⟩ (a.eval (.tmp t)))
    {svs : List SV} (hs : mapO ρ c.args.toList = some svs) {x : A.D} (hx : packD bx A svs = some x) (hg : (!svs.any SV.isRef || R.flat) = true) (hφ : (φ x).1 = true) :
    Yields P o a w σ bx H (.tv ⟨R, (φ x).2⟩) := by
  obtain ⟨⟨v, h1, _, _, h4⟩, h5⟩ := hf
  have hv := RelV.one h1 h5
  obtain ⟨f, caps, g1, g2, g3⟩ := h4 x hφ
  rw [hv] at g1
  obtain ⟨m1, m2⟩ := mapO_spec hs
  have args : ∀ τ : Store P, (∀ (y : Operand) (s : SV) (d : Ty) (z : d.D), y ∈ c.args.toList → s ∈ svs → ρ y = some s → s.data bx d = some z → RelV τ ⟨d, z⟩ (a.eval y)) →
      ArgShape A (c.args.toList.map a.eval) ∧ Enc τ A x (flatCells (c.args.toList.map a.eval)) := by
    intro τ hτ
    refine pack_rel A svs _ x hx (by simp [m1]) fun i s u d y hs' hu hd => ?_
    simp only [List.getElem?_map, Option.map_eq_some_iff] at hu
    obtain ⟨z, hz, rfl⟩ := hu
    obtain ⟨s', hs1, hs2⟩ := m2 i z hz
    rw [hs'] at hs2
    simp at hs2; subst hs2
    exact hτ z s d y (List.mem_of_getElem? hz) (List.mem_of_getElem? hs') hs1 hd
  have eargs : (c.args.toList.map a.eval).toArray = c.args.map a.eval := by apply Array.ext'; simp
  intro next Q hn
  unfold Oper.wp
  rw [run_callV ho hc g1 g2, Oper.upon_enter]
  cases hany : svs.any SV.isRef with
  | false =>
    obtain ⟨q1, q2⟩ := args σ fun y s d z hy hs' hys hd => (data_rel hh hB hd (hρ y hy s hys)).1 (by have := List.any_eq_false.1 hany s hs'; simpa using this)
    have := g3 σ w _ (Store.le.refl σ) hh q1 q2
    rw [eargs] at this
    refine this.mono fun e w' ⟨u, τ', he, hst, hr, hag⟩ => ?_
    subst he
    exact hn u τ' w' hst ⟨hr, hag⟩
  | true =>
    rw [hany] at hg
    have hfl : R.flat = true := by simpa using hg
    obtain ⟨q1, q2⟩ := args (heapS w) fun y s d z hy hs' hys hd => (data_rel hh hB hd (hρ y hy s hys)).2
    have := g3 (heapS w) w _ hh.le_heapS (holds_heapS w) q1 q2
    rw [eargs] at this
    refine this.mono fun e w' ⟨u, τ', he, hst, hr, hag⟩ => ?_
    subst he
    exact hn u σ w' ⟨Store.le.refl σ, fun b o hb => hst.holds b o (hst.le b o (hh b o hb)), fun b o hb => .inl hb, hst.size, hst.block, hst.os, hst.output, hst.tape⟩ ⟨Enc.flat _ _ _ hfl hr, hag⟩

theorem yields_callVal (hE : Env P T G) (hh : Holds w σ) (hB : BoxesR σ w n0 bx H) {o : Oper} {a : Act} {c : Call} (ho : o.op = .call c) {ρ : Operand → Option SV}
    (hρ' : ∀ x ∈ c.operands.toList, ∀ s, ρ x = some s → SVR σ bx H s (a.eval x)) {s : SV} (hv : callVal G T bx ρ c = some (true, s)) : Yields P o a w σ bx H s := by
  have hρ : ∀ x ∈ c.args.toList, ∀ s, ρ x = some s → SVR σ bx H s (a.eval x) := fun x hx => hρ' x (by simp [Call.operands]; right; simpa using hx)
  cases hc : c.callee with
  | value f =>
    cases f with
    | func f => exact yields_call hE hh hB ho hc hρ hv
    | tmp t =>
      simp only [callVal, hc, Option.bind_eq_some_iff] at hv
      obtain ⟨sf, hsf, hv⟩ := hv
      have hr := hρ' (.tmp t) (by simp [Call.operands, hc]) sf hsf
      split at hv
      · simp only [Option.bind_eq_some_iff] at hv
        obtain ⟨svs, hs, x, hx, hv⟩ := hv
        cases hg : (!svs.any SV.isRef || Ty.flat _) with
        | false => rw [hg] at hv; simp at hv
        | true =>
          rw [hg] at hv
          simp only [cond_true, Option.some.injEq, Prod.mk.injEq] at hv
          obtain ⟨hφ, rfl⟩ := hv
          exact yields_fn hh hB ho hc hρ hr hs hx hg hφ
      · simp at hv
    | _ => simp [callVal, hc] at hv
  | invoke r m => simp [callVal, hc] at hv
  | builtin b =>
    cases b with
    | len => exact (gives_len ho hc hE.types hh hB hρ hv).yields hh
    | max => exact (gives_max ho hc hρ hv).yields hh
    | min => exact (gives_min ho hc hρ hv).yields hh
    | _ => simp [callVal, hc] at hv

end
end Go.Lift
namespace Go.Lift

/-! maps from int to int -/
section
variable {P : Program} {w : World}
abbrev ents (es : Array MapEntry) : List (Value × Value) := es.toList.map (fun e => (e.key, e.val))
abbrev entV (l : List (Int × Int)) : List (Value × Value) := l.map (fun p => (Value.int .i64 p.1, Value.int .i64 p.2))

/-- where a key is found -/
def mfind : List (Int × Int) → Int → Nat → Option (Nat × Value)
  | [], _, _ => none
  | (j, v) :: r, k, i => bif decide (k = j) then some (i, .int .i64 v) else mfind r k (i + 1)

theorem findNow_ints (n : Int) : ∀ (es : List MapEntry) (l : List (Int × Int)) (i : Nat), es.map (fun e => (e.key, e.val)) = l.map (fun p => (Value.int .i64 p.1, Value.int .i64 p.2)) → Instr.findNow (.int .i64) (.int .i64 n) es i = some (mfind l n i)
  | [], [], i, _ => rfl
  | [], _ :: _, i, h => by simp at h
  | _ :: _, [], i, h => by simp at h
  | e :: es, (j, v) :: l, i, h => by
    simp only [List.map_cons, List.cons.injEq, Prod.mk.injEq] at h
    obtain ⟨⟨h1, h2⟩, h3⟩ := h
    have ih := findNow_ints n es l (i + 1) h3
    unfold Instr.findNow
    rw [h1]
    by_cases hk : n = j
    · subst hk
      simp [Instr.sameNow, mfind, h2]
    · have hb : (n == j) = false := by simp [hk]
      simp [Instr.sameNow, mfind, hk, ih, hb]

theorem mfind_get (n : Int) : ∀ (l : List (Int × Int)) (i : Nat), (mfind l n i = none → mget l n = 0) ∧ ∀ j v, mfind l n i = some (j, v) → v = .int .i64 (mget l n)
  | [], i => ⟨fun _ => rfl, fun j v h => by simp [mfind] at h⟩
  | (j, u) :: l, i => by
    have ih := mfind_get n l (i + 1)
    by_cases hk : n = j
    · subst hk
      simp [mfind, mget]
    · simp only [mfind, mget, decide_eq_false hk, cond_false]
      exact ih

theorem run_findKey {k : TypeId} (hk : P.underlying k = some (.int .i64)) {es : Array MapEntry} {l : List (Int × Int)} (hes : ents es = entV l) (n : Int) : (Instr.findKey k (.int .i64 n) es.toList).run P w = .ok (mfind l n 0) w := by
  simp [Instr.findKey, run_underlying hk, findNow_ints n es.toList l 0 hes]

theorem run_checkKey {k : TypeId} (hk : P.underlying k = some (.int .i64)) (b : Bool) (n : Int) : (Instr.checkKey b 10000 k (.int .i64 n)).run P w = .ok () w := by
  rw [show (10000 : Nat) = 9999 + 1 from rfl, Instr.checkKey]
  simp only [run_underlying hk, Sem.run_bind, Result.andThen_ok, Sem.run_pure]

theorem run_lookup_mp {t k e g : Nat} (ht : P.underlying t = some (.map k e)) (hk : P.underlying k = some (.int .i64)) (he : chk P (.int .i64) e = true) {es : Array MapEntry} {clock : Nat} {l : List (Int × Int)}
    (hg : w.heap[g]? = some (.map es clock)) (hes : ents es = entV l) (n : Int) : (Instr.lookup t (.map (some g)) (.int .i64 n) false).run P w = .ok (.int .i64 (mget l n)) w := by
  obtain ⟨z, hz, hzr⟩ := run_zeroValue (P := P) (w := w) he
  have hz0 : z = .int .i64 0 := RelV.int (hzr (fun _ => none))
  have hget : (getObj g).run P w = .ok (.map es clock) w := by simp [getObj, Sem.run, hg]
  have hf := run_findKey (P := P) (w := w) hk hes n
  cases hm : mfind l n 0 with
  | none =>
    rw [hm] at hf
    simp [Instr.lookup, run_underlying ht, hget, run_checkKey hk, hf, hz, hz0, (mfind_get n l 0).1 hm, Result.andThen]
  | some r =>
    obtain ⟨j, v⟩ := r
    rw [hm] at hf
    simp [Instr.lookup, run_underlying ht, hget, run_checkKey hk, hf, (mfind_get n l 0).2 j v hm, Result.andThen]
end

section
variable {P : Program} {T : Nat → Option Ty} {G : Tbl} {w : World} {σ : Store P} {bx : List (Nat × Box)} {H : Nat → Value} {n0 : Nat}

theorem optI_spec {ρ : Operand → Option SV} {a : Act} {lo : Option Operand} {r : Option Int} (h : optI ρ lo = some r) (hρ : ∀ x ∈ lo.toArray.toList, ∀ s, ρ x = some s → SVR σ bx H s (a.eval x)) :
    ∃ kn : Option (IntKind × Int), lo.map a.eval = optV kn ∧ r = kn.map (·.2) := by
  cases lo with
  | none => simp [optI] at h; subst h; exact ⟨none, rfl, rfl⟩
  | some l =>
    simp only [optI, Option.bind_eq_some_iff, Option.map_eq_some_iff] at h
    obtain ⟨s, hs, ⟨k, n⟩, hn, rfl⟩ := h
    have := hρ l (by simp) s hs
    rw [int_inv hn] at this
    exact ⟨some (k, n), by simp [optV, svr_int this], rfl⟩

theorem yields_slice (hT : ∀ ty t, T ty = some t → chk P t ty = true) (hh : Holds w σ) (hB : BoxesR σ w n0 bx H) {o : Oper} {a : Act} {t : Nat} {x : Operand} {lo hi : Option Operand} (ho : o.op = .slice t x lo hi none)
    {e : Ty} (he : T t = some (.slice e)) {ρ : Operand → Option SV} (hρ : ∀ y ∈ o.op.operands.toList, ∀ s, ρ y = some s → SVR σ bx H s (a.eval y))
    {sx : SV} (hx : ρ x = some sx) {lo' hi' : Option Int} (hlo : optI ρ lo = some lo') (hhi : optI ρ hi = some hi') {s : SV} (hv : sliceOp bx e sx lo' hi' = some (true, s)) : Gives P o a w σ bx H s := by
  rw [ho] at hρ
  simp only [Op.operands] at hρ
  obtain ⟨klo, h1, h2⟩ := optI_spec hlo (fun y hy => hρ y (by simp at hy ⊢; simp [hy]))
  obtain ⟨khi, h3, h4⟩ := optI_spec hhi (fun y hy => hρ y (by simp at hy ⊢; simp [hy]))
  have hrx := hρ x (by simp) sx hx
  obtain ⟨et, hu, hce, _⟩ := chk_slice (hT _ _ he)
  have key : ∀ (len : Nat) (ad : Option Addr) (cap : Nat), a.eval x = .slice ad len cap → len ≤ cap → (decide (0 ≤ lo'.getD 0) && decide (lo'.getD 0 ≤ hi'.getD (len : Int)) && decide (hi'.getD (len : Int) ≤ len)) = true →
      (execOp a.eval o).run P w = .ok (.value (viewV (a.eval x) (lo'.getD 0).toNat (hi'.getD (len : Int)).toNat e.size)) w ∧ (lo'.getD 0).toNat ≤ (hi'.getD (len : Int)).toNat ∧ (hi'.getD (len : Int)).toNat ≤ len := by
    intro len ad cap hev hcap hb
    simp only [Bool.and_eq_true, decide_eq_true_eq] at hb
    obtain ⟨⟨b1, b2⟩, b3⟩ := hb
    have hr := run_sliceAt' (P := P) (w := w) hu hce ad len cap klo khi (lo'.getD 0).toNat (hi'.getD (len : Int)).toNat
      (by rw [← h2]; cases lo' with
          | none => right; exact ⟨by cases klo with | none => rfl | some z => simp at h2, rfl⟩
          | some z => left; simp at b1 ⊢; omega)
      (by rw [← h4]; cases hi' with
          | none => right; exact ⟨by cases khi with | none => rfl | some z => simp at h4, by simp⟩
          | some z => left; simp at b1 b2 ⊢; omega)
      (by omega) (by omega)
    refine ⟨?_, by omega, by omega⟩
    rw [hev]
    simp [execOp, ho, hev, h1, h3, hr]
  cases sx with
  | tv d =>
    simp only [sliceOp, Option.map_eq_some_iff, Prod.mk.injEq] at hv
    obtain ⟨l, hl, hb, rfl⟩ := hv
    have := TD.as_eq hl; subst this
    have hrv : RelV σ ⟨.slice e, l⟩ (a.eval x) := hrx
    obtain ⟨ad, cap, q1, q2, _⟩ := hrv.slice
    obtain ⟨k1, k2, k3⟩ := key l.length ad cap q1 q2 hb
    exact ⟨_, k1, relV_view hrv _ _ k2 k3⟩
  | ref b =>
    obtain ⟨t', l, g1, g2⟩ := hrx
    simp only [sliceOp, g1] at hv
    cases hd : decide (t' = e) with
    | false => simp [hd] at hv
    | true =>
      simp only [hd, cond_true, Option.some.injEq, Prod.mk.injEq] at hv
      obtain ⟨hb, rfl⟩ := hv
      simp at hd; subst hd
      obtain ⟨ad, cap, q1, q2, _⟩ := RelV.slice (box_slice hh (hB b _ g1))
      obtain ⟨k1, k2, k3⟩ := key l.length ad cap (g2.trans q1) q2 hb
      exact ⟨_, k1, t', l, g1, k2, k3, by rw [g2]⟩
  | _ => simp [sliceOp] at hv

/-- a slice with three indexes -/
theorem relV_view3 {e : Ty} {l : List e.D} {ad : Option Addr} {cap : Nat} (h : RelV σ ⟨.slice e, l⟩ (.slice ad l.length cap)) (lo hi m : Nat) (h1 : lo ≤ hi) (h2 : hi ≤ m) (h3 : m ≤ l.length) :
    RelV σ ⟨.slice e, tail l lo hi⟩ (.slice (if m = lo then ad else ad.map (·.add (lo * e.size))) (hi - lo) (m - lo)) := by
  obtain ⟨ad', cap', q, g1, g2, g3⟩ := h.slice
  simp only [Value.slice.injEq] at q
  obtain ⟨rfl, _, rfl⟩ := q
  have hlen : (tail l lo hi).length = hi - lo := by simp [tail]; omega
  refine ⟨⟨if m = lo then ad else ad.map (·.add (lo * e.size)), m - lo, ?_, ?_, ?_, ?_⟩, rfl⟩
  · rw [cells_of_not rfl]; simp [hlen]
  · simp only [hlen]; omega
  · intro hn
    by_cases hc : m = lo
    · omega
    · simp [hc] at hn; have := g2 hn; omega
  · intro i hi'
    simp only at hi'
    have hi2 : i < hi - lo := by rw [hlen] at hi'; exact hi'
    obtain ⟨a, c, k1, k2, k3, k4⟩ := g3 (lo + i) (by omega)
    subst k1
    have hc : ¬ m = lo := by omega
    refine ⟨a.add (lo * e.size), c, by simp [hc], k2, ?_, ?_⟩
    · rw [addr_add_add, ← Nat.add_mul]; exact k3
    · have : (tail l lo hi)[i]'hi' = l[lo + i]'(by omega) := by simp [tail]
      rw [this]; exact k4

theorem gives_slice3 {o : Oper} {a : Act} {t : Nat} {x lo hi mx : Operand} (ho : o.op = .slice t x (some lo) (some hi) (some mx)) {e : Ty} (ht : chk P (.slice e) t = true) {l : List e.D}
    {k k' k'' : IntKind} {i j m : Int} (hx : RelV σ ⟨.slice e, l⟩ (a.eval x)) (h1 : a.eval lo = .int k i) (h2 : a.eval hi = .int k' j) (h3 : a.eval mx = .int k'' m)
    (b1 : 0 ≤ i) (b2 : i ≤ j) (b3 : j ≤ m) (b4 : m ≤ (l.length : Int)) : Gives P o a w σ bx H (.tv ⟨.slice e, tail l i.toNat j.toNat⟩) := by
  obtain ⟨et, hu, he, _⟩ := chk_slice ht
  obtain ⟨ad, cap, q, g1, g2, g3⟩ := hx.slice
  rw [q] at hx
  have hr : (execOp a.eval o).run P w = .ok (.value (.slice (if m.toNat = i.toNat then ad else ad.map (·.add (i.toNat * e.size))) (j.toNat - i.toNat) (m.toNat - i.toNat))) w := by
    have e1 := run_sliceBound (P := P) w k'' m cap .slice3Acap (by omega) (by omega)
    have e2 := run_sliceBound (P := P) w k' j m.toNat .slice3B (by omega) (by omega)
    have e3 := run_sliceBound (P := P) w k i j.toNat .slice3C (by omega) (by omega)
    simp [execOp, ho, q, h1, h2, h3, Instr.sliceAt, run_underlying hu, Instr.slice, Instr.sliceBounds, run_sizeOf he, e1, e2, e3]
  exact ⟨_, hr, relV_view3 hx i.toNat j.toNat m.toNat (by omega) (by omega) (by omega)⟩

theorem nilD_inv : ∀ {t : Ty} {y : t.D}, nilD t = some y → ∃ e, (⟨t, y⟩ : TD) = ⟨.slice e, []⟩
  | .slice e, y, h => by simp [nilD] at h; subst h; exact ⟨e, rfl⟩
  | .int _, _, h => by simp [nilD] at h
  | .bool, _, h => by simp [nilD] at h
  | .str, _, h => by simp [nilD] at h
  | .nil, _, h => by simp [nilD] at h
  | .cons _ _, _, h => by simp [nilD] at h

theorem blt_lt {n m : Nat} (h : n.blt m = true) : n < m := by simpa [Nat.blt, Nat.lt_iff_add_one_le] using h

theorem nbeq {n : Nat} (h : n.beq 0 = false) : n ≠ 0 := by intro e; subst e; simp at h

theorem buildV_spec {ty : Ty} {ρ : Operand → Option SV} : ∀ {parts : List (Nat × Operand)} {x : ty.D} {b : Bool} {s : SV}, opVal.buildV bx ρ ty x parts = some (b, s) →
    b = true ∧ ∃ (ds : List (Nat × TD)) (x' : ty.D), s = .tv ⟨ty, x'⟩ ∧ parts.length = ds.length ∧ ds.foldlM (fun x (id : Nat × TD) => setFld ty x id.1 id.2) x = some x' ∧
      ∀ (k i : Nat) (y : Operand), parts[k]? = some (i, y) → ∃ d : TD, ds[k]? = some (i, d) ∧ ∃ sv, ρ y = some sv ∧ (sv = .tv d ∨ (sv = .nils ∧ ∃ e, d = ⟨.slice e, []⟩))
  | [], x, b, s, h => by
    simp [opVal.buildV] at h
    obtain ⟨rfl, rfl⟩ := h
    exact ⟨rfl, [], x, rfl, rfl, by simp, fun k i y hk => by simp at hk⟩
  | (j, v) :: r, x, b, s, h => by
    simp only [opVal.buildV, Option.bind_eq_some_iff] at h
    obtain ⟨d0, h0, sv, hsv, d, hd, x1, hx1, h⟩ := h
    obtain ⟨hb, ds, x', g1, g2, g3, g4⟩ := buildV_spec h
    refine ⟨hb, (j, d) :: ds, x', g1, by simp [g2], by simp [hx1, g3], fun k i y hk => ?_⟩
    cases k with
    | zero =>
      simp at hk
      obtain ⟨rfl, rfl⟩ := hk
      refine ⟨d, rfl, sv, hsv, ?_⟩
      split at hd
      · simp at hd; subst hd; exact .inl rfl
      · right
        refine ⟨rfl, ?_⟩
        simp only [SV.data, Option.map_eq_some_iff] at hd
        obtain ⟨y, hy, rfl⟩ := hd
        exact nilD_inv hy
      · simp at hd
    | succ k => simpa using g4 k i y (by simpa using hk)

theorem cond_none {α : Type} {b : Bool} {x : Option α} {y : α} (h : (bif b then x else none) = some y) : b = true ∧ x = some y := by
  cases b <;> simp_all

theorem cond_none' {α : Type} {b : Bool} {x : Option α} {y : α} (h : (bif b then none else x) = some y) : b = false ∧ x = some y := by
  cases b <;> simp_all

theorem opVal_yields (hE : Env P T G) (hh : Holds w σ) (hB : BoxesR σ w n0 bx H) {o : Oper} {a : Act} {ρ : Operand → Option SV} (hρ : OpdR ρ o a σ bx H) {s : SV} (hv : opVal G T bx ρ o = some (true, s)) :
    Yields P o a w σ bx H s := by
  cases ho : o.op with
  | move x =>
    simp only [opVal, ho, Option.map_eq_some_iff, Prod.mk.injEq, true_and] at hv
    obtain ⟨v, hx, rfl⟩ := hv
    simp only [OpdR, ho, Op.operands] at hρ
    exact Gives.yields hh ⟨a.eval x, by simp [execOp, ho], hρ x (by simp) _ hx⟩
  | assign x =>
    simp only [opVal, ho, Option.bind_eq_some_iff] at hv
    obtain ⟨v, hx, hv⟩ := hv
    simp only [OpdR, ho, Op.operands] at hρ
    have := hρ x (by simp) _ hx
    split at hv
    · simp at hv; subst hv; exact Gives.yields hh ⟨a.eval x, by simp [execOp, ho], this⟩
    · simp at hv; subst hv; exact Gives.yields hh ⟨a.eval x, by simp [execOp, ho], this⟩
    · simp at hv; subst hv; exact Gives.yields hh ⟨a.eval x, by simp [execOp, ho], this⟩
    · simp at hv; subst hv; exact Gives.yields hh ⟨a.eval x, by simp [execOp, ho], this⟩
    · simp at hv
  | pick c x y =>
    simp only [opVal, ho, Option.bind_eq_some_iff, Option.some.injEq, Prod.mk.injEq, true_and] at hv
    obtain ⟨c', hc, cb, hcb, x', hx, xb, hxb, y', hy, yb, hyb, rfl⟩ := hv
    simp only [OpdR, ho] at hρ
    obtain ⟨h1, h2, h3⟩ := hρ
    rw [boolean_inv hcb] at hc; rw [boolean_inv hxb] at hx; rw [boolean_inv hyb] at hy
    have e1 := svr_bool (h1 _ hc)
    refine Gives.yields hh (gives_pick ho e1 (fun h => ?_) (fun h => ?_))
    · subst h; exact svr_bool (h2 e1 _ hx)
    · subst h; exact svr_bool (h3 e1 _ hy)
  | load ty x =>
    simp only [opVal, ho, Option.bind_eq_some_iff] at hv
    obtain ⟨t, ht, sx, hx, hv⟩ := hv
    simp only [OpdR, ho, Op.operands] at hρ
    have hr := hρ x (by simp) _ hx
    split at hv
    · simp only [Option.map_eq_some_iff, Prod.mk.injEq, true_and] at hv
      obtain ⟨y, hy, rfl⟩ := hv
      obtain ⟨ad, cs, h1, h2, h3⟩ := hr
      have := TD.as_eq hy; subst this
      exact (gives_load ho (hE.types _ _ ht) h1 (h2.at hh) h3).yields hh
    · simp only [Option.map_eq_some_iff, Prod.mk.injEq] at hv
      obtain ⟨y, hy, hq, rfl⟩ := hv
      obtain ⟨ad, cs, h1, h2, h3⟩ := RelV.ptr (bx := bx) (H := H) hr hq
      have := TD.as_eq hy
      simp only [TD.mk.injEq] at this
      obtain ⟨rfl, this⟩ := this
      have := eq_of_heq this
      subst this
      exact (gives_load ho (hE.types _ _ ht) h1 (h2.at hh) h3).yields hh
    · rename_i b ix p
      split at hv
      · rename_i d hl
        simp only [Option.bind_eq_some_iff, Option.map_eq_some_iff, Prod.mk.injEq, true_and] at hv
        obtain ⟨d', hp, y, hy, rfl⟩ := hv
        obtain ⟨d0, e, g, h1, h2, h3, h4⟩ := hr
        rw [hl] at h1
        simp at h1; subst h1
        rw [hp] at h2; simp at h2; subst h2
        have := TD.as_eq hy; subst this
        obtain ⟨g', cs, cty, k1, k2, k3, _⟩ := hB b _ hl
        rw [h3] at k1; simp at k1; subst k1
        obtain ⟨pp, c, r, q1, q2, q3⟩ := Enc.path p d _ cs.toList hp k3
        exact (gives_load ho (hE.types _ _ ht) h4 (at_row k2 q1 q2) q3).yields hh
      · rename_i e l i hl
        simp only [Option.bind_eq_some_iff, Option.map_eq_some_iff, Prod.mk.injEq, true_and] at hv
        obtain ⟨d', hp, y, hy, rfl⟩ := hv
        obtain ⟨t0, l0, e0, g, n, c0, h1, h2, h3, h4, h5⟩ := hr
        rw [hl] at h1
        simp only [Option.some.injEq, Box.vec.injEq] at h1
        obtain ⟨rfl, h1⟩ := h1
        have h1 := eq_of_heq h1
        subst h1
        have := TD.as_eq hy; subst this
        obtain ⟨ety, xs, hown, henc, _⟩ := hB b _ hl
        obtain ⟨g', cap, cur, k1, k2, k3, k4, k5, _⟩ := ownsRow_inv hown (by omega)
        rw [h4] at k1; simp at k1; obtain ⟨rfl, rfl, rfl⟩ := k1
        obtain ⟨p1, c1, r1, q1, q2, q3, _⟩ := henc.get l xs i h2
        have hgd : l[i] = l.getD i e.zero := by simp [List.getD, List.getElem?_eq_getElem h2]
        rw [hgd] at q3
        obtain ⟨p2, c2, r2, z1, z2, z3⟩ := Enc.path p _ _ c1 hp q3
        have hcur : cur.toList = (p1 ++ p2) ++ c2 ++ (r2 ++ r1 ++ cur.toList.drop (l.length * e.size)) := by
          have h0 := List.take_append_drop (l.length * e.size) cur.toList
          rw [k5, q1, z1] at h0
          simpa using h0.symm
        exact (gives_load ho (hE.types _ _ ht) h5 (at_row k2 hcur (by simp [q2, z2])) z3).yields hh
      · simp at hv
    · simp at hv
  | binOp op xt x y yt =>
    simp only [opVal, ho, Option.bind_eq_some_iff] at hv
    obtain ⟨sx, hx, sy, hy, hv⟩ := hv
    simp only [OpdR, ho, Op.operands] at hρ
    have hrx := hρ x (by simp) _ hx
    have hry := hρ y (by simp) _ hy
    refine Gives.yields hh ?_
    split at hv
    · have e1 := svr_int hrx
      have e2 := svr_int hry
      split at hv
      · rename_i r hr
        simp at hv
        obtain ⟨h1, rfl⟩ := hv
        exact gives_shift ho e1 e2 (by rw [hr, ← h1])
      · obtain ⟨h1, hv'⟩ := cond_none hv; clear hv; have hv := hv'; clear hv'
        simp at h1; subst h1
        simp only [Option.map_eq_some_iff, Prod.mk.injEq] at hv
        obtain ⟨⟨c, r⟩, hr, rfl, rfl⟩ := hv
        exact gives_int ho e1 e2 hr
    · have e1 := svr_bool hrx
      have e2 := svr_bool hry
      simp only [Option.bind_eq_some_iff] at hv
      obtain ⟨z, hz, hv⟩ := hv
      obtain ⟨h1, hv'⟩ := cond_none hv; clear hv; have hv := hv'; clear hv'
      simp at h1; subst h1
      split at hv
      · simp at hv; subst hv; exact gives_bool_eq ho (hE.types _ _ hz) e1 e2
      · simp at hv; subst hv; exact gives_bool_ne ho (hE.types _ _ hz) e1 e2
      · simp at hv
    · have e1 := RelV.str hrx
      have e2 := RelV.str hry
      split at hv
      · simp at hv; subst hv; exact gives_str_eq ho e1 e2
      · simp at hv; subst hv; exact gives_str_ne ho e1 e2
      · simp at hv
    · simp only [Option.bind_eq_some_iff] at hv
      obtain ⟨z, hz, hv⟩ := hv
      obtain ⟨h1, hv'⟩ := cond_none hv; clear hv; have hv := hv'; clear hv'
      simp only [Bool.and_eq_true, decide_eq_true_eq] at h1
      obtain ⟨⟨h1, h2⟩, h3⟩ := h1
      subst h1
      simp only [Option.bind_eq_some_iff] at hv
      obtain ⟨b, hb, hv⟩ := hv
      have := TD.as_eq hb; subst this
      have h3 := blt_lt h3
      split at hv
      · simp at hv; subst hv; exact gives_agg_eq ho (hE.types _ _ hz) h2 h3 hrx hry
      · simp at hv; subst hv; exact gives_agg_ne ho (hE.types _ _ hz) h2 h3 hrx hry
      · simp at hv
    · simp at hv
  | unOp op xt x =>
    simp only [opVal, ho, Option.bind_eq_some_iff] at hv
    obtain ⟨sx, hx, hv⟩ := hv
    simp only [OpdR, ho, Op.operands] at hρ
    have hrx := hρ x (by simp) _ hx
    refine Gives.yields hh ?_
    split at hv
    · simp at hv; subst hv; exact gives_not ho (svr_bool hrx)
    · simp at hv; subst hv; simpa using gives_neg (P := P) (w := w) (σ := σ) (bx := bx) (H := H) ho (svr_int hrx)
    · simp at hv; subst hv; exact gives_inv ho (svr_int hrx)
    · simp at hv
  | convert src dst x =>
    simp only [opVal, ho, Option.bind_eq_some_iff] at hv
    obtain ⟨sx, hx, t, ht, u, hu, hv⟩ := hv
    simp only [OpdR, ho, Op.operands] at hρ
    have hrx := hρ x (by simp) _ hx
    refine Gives.yields hh ?_
    split at hv
    · split at hv
      · simp at hv; subst hv; exact gives_convert ho (hE.types _ _ ht) (hE.types _ _ hu) (svr_int hrx)
      · simp at hv
    · simp at hv
  | fieldAddr s' x f =>
    simp only [opVal, ho, Option.bind_eq_some_iff] at hv
    obtain ⟨t, ht, hv⟩ := hv
    obtain ⟨harr, hv'⟩ := cond_none hv; clear hv; have hv := hv'; clear hv'
    have hnil : ∀ u, t ≠ .cons .nil u := by intro u hu; subst hu; simp [Ty.isArr] at harr
    simp only [Option.bind_eq_some_iff] at hv
    obtain ⟨sx, hx, hv⟩ := hv
    simp only [OpdR, ho, Op.operands] at hρ
    have hrx := hρ x (by simp) _ hx
    refine Gives.yields hh ?_
    split at hv
    · simp only [Option.bind_eq_some_iff] at hv
      obtain ⟨y, hy, d', hg, hv⟩ := hv
      obtain ⟨hz, hv'⟩ := cond_none' hv; clear hv; have hv := hv'; clear hv'
      simp at hv; subst hv
      have := TD.as_eq hy; subst this
      exact gives_fieldAddr_c ho (hE.types _ _ ht) hnil hg (nbeq hz) hrx
    · simp only [Option.bind_eq_some_iff] at hv
      obtain ⟨y, hy, d', hg, hv⟩ := hv
      obtain ⟨hz, hv'⟩ := cond_none' hv; clear hv; have hv := hv'; clear hv'
      simp at hv; obtain ⟨hq, rfl⟩ := hv
      have := TD.as_eq hy
      simp only [TD.mk.injEq] at this
      obtain ⟨rfl, this⟩ := this
      have := eq_of_heq this
      subst this
      exact gives_fieldAddr_c ho (hE.types _ _ ht) hnil hg (nbeq hz) (RelV.ptr hrx hq)
    · rename_i b ix p
      split at hv
      · rename_i d hl
        simp only [Option.bind_eq_some_iff] at hv
        obtain ⟨d', hp, y, hy, d'', hg, hv⟩ := hv
        obtain ⟨hz, hv'⟩ := cond_none' hv; clear hv; have hv := hv'; clear hv'
        simp at hv; subst hv
        have := TD.as_eq hy; subst this
        exact gives_fieldAddr_v ho (hE.types _ _ ht) hnil hg (nbeq hz) hrx (fun d0 h0 => by rw [hl] at h0; simp at h0; subst h0; exact hp)
      · rename_i e l i hl
        simp only [Option.bind_eq_some_iff] at hv
        obtain ⟨d', hp, y, hy, d'', hg, hv⟩ := hv
        obtain ⟨hz, hv'⟩ := cond_none' hv; clear hv; have hv := hv'; clear hv'
        simp at hv; subst hv
        have := TD.as_eq hy; subst this
        refine gives_fieldAddr_e ho (hE.types _ _ ht) hnil hg (nbeq hz) hrx (fun e0 l0 h0 => ?_)
        rw [hl] at h0
        simp only [Option.some.injEq, Box.vec.injEq] at h0
        obtain ⟨rfl, h0⟩ := h0
        have h0 := eq_of_heq h0
        subst h0; exact hp
      · simp at hv
    · simp at hv
  | field xt x f =>
    simp only [opVal, ho, Option.bind_eq_some_iff] at hv
    obtain ⟨t, ht, sx, hx, hv⟩ := hv
    simp only [OpdR, ho, Op.operands] at hρ
    have hrx := hρ x (by simp) _ hx
    refine Gives.yields hh ?_
    split at hv
    · obtain ⟨harr, hv'⟩ := cond_none hv; clear hv; have hv := hv'; clear hv'
      have hnil : ∀ u, t ≠ .cons .nil u := by intro u hu; subst hu; simp [Ty.isArr] at harr
      simp only [Option.bind_eq_some_iff, Option.map_eq_some_iff, Prod.mk.injEq, true_and] at hv
      obtain ⟨y, hy, d', hg, rfl⟩ := hv
      have := TD.as_eq hy; subst this
      exact gives_field ho (hE.types _ _ ht) hg hrx hnil
    · simp at hv
  | indexAddr t x ix =>
    simp only [opVal, ho, Option.bind_eq_some_iff] at hv
    obtain ⟨ty, ht, hv⟩ := hv
    simp only [OpdR, ho, Op.operands] at hρ
    refine Gives.yields hh ?_
    split at hv
    · rename_i e
      simp only [Option.bind_eq_some_iff] at hv
      obtain ⟨si, hi, ⟨k, i⟩, hki, sx, hx, hv⟩ := hv
      have hrx := hρ x (by simp) _ hx
      have hri := hρ ix (by simp) _ hi
      rw [int_inv hki] at hri
      have ei := svr_int hri
      split at hv
      · simp only [Option.map_eq_some_iff, Prod.mk.injEq] at hv
        obtain ⟨l, hl, hb, rfl⟩ := hv
        have := TD.as_eq hl; subst this
        exact gives_index_c ho (hE.types _ _ ht) ei hrx hb
      · obtain ⟨t', l', g1, g2⟩ := hrx
        simp only [g1] at hv
        obtain ⟨he, hv'⟩ := cond_none hv; clear hv; have hv := hv'; clear hv'
        simp at he; subst he
        simp at hv
        obtain ⟨hb, rfl⟩ := hv
        exact gives_index_r ho (hE.types _ _ ht) ei g1 (hB _ _ g1) g2 hb
      · have hrx' := hrx
        obtain ⟨t', l', g1, g2⟩ := hrx
        simp only [g1] at hv
        obtain ⟨he, hv'⟩ := cond_none hv; clear hv; have hv := hv'; clear hv'
        simp at he; subst he
        simp at hv
        obtain ⟨hb, rfl⟩ := hv
        exact gives_index_w ho (hE.types _ _ ht) ei g1 (hB _ _ g1) hrx' hb
      · simp at hv
    · rename_i u
      split at hv
      · rename_i k n
        simp only [Option.bind_eq_some_iff] at hv
        obtain ⟨sx, hx, hv⟩ := hv
        have hrx := hρ x (by simp) _ hx
        split at hv
        · rename_i b p
          split at hv
          · rename_i d hl
            obtain ⟨h0, hv'⟩ := cond_none hv; clear hv; have hv := hv'; clear hv'
            simp only [Option.bind_eq_some_iff, Option.map_eq_some_iff, Prod.mk.injEq] at hv
            obtain ⟨d', hp, y, hy, d'', hg, hb, rfl⟩ := hv
            have := TD.as_eq hy; subst this
            exact gives_index_a ho (hE.types _ _ ht) (by simpa using h0) hg hrx (fun d0 h0 => by rw [hl] at h0; simp at h0; subst h0; exact hp)
          · simp at hv
        · simp at hv
      · simp at hv
    · simp at hv
  | index xt x ix =>
    simp only [opVal, ho, Option.bind_eq_some_iff] at hv
    obtain ⟨ty, ht, hv⟩ := hv
    simp only [OpdR, ho, Op.operands] at hρ
    refine Gives.yields hh ?_
    split at hv
    · simp only [Option.bind_eq_some_iff] at hv
      obtain ⟨si, hi, ⟨k, i⟩, hki, sx, hx, hv⟩ := hv
      have hrx := hρ x (by simp) _ hx
      have hri := hρ ix (by simp) _ hi
      rw [int_inv hki] at hri
      split at hv
      · simp at hv
        obtain ⟨hb, rfl⟩ := hv
        exact gives_str_index ho (hE.types _ _ ht) (svr_int hri) (RelV.str hrx) hb
      · simp at hv
    · split at hv
      · simp only [Option.bind_eq_some_iff] at hv
        obtain ⟨sx, hx, hv⟩ := hv
        have hrx := hρ x (by simp) _ hx
        split at hv
        · obtain ⟨h0, hv'⟩ := cond_none hv; clear hv; have hv := hv'; clear hv'
          simp only [Option.bind_eq_some_iff] at hv
          obtain ⟨y, hy, hv⟩ := hv
          have := TD.as_eq hy; subst this
          split at hv
          · simp only [Option.map_eq_some_iff, Prod.mk.injEq, true_and] at hv
            obtain ⟨d', hg, rfl⟩ := hv
            exact gives_arr_index ho (hE.types _ _ ht) (by simpa using h0) hg hrx
          · simp at hv
        · simp at hv
      · simp at hv
    · simp at hv
  | slice t x lo hi mx =>
    cases mx with
    | some m =>
      cases lo with
      | none => simp [opVal, ho] at hv
      | some lo =>
        cases hi with
        | none => simp [opVal, ho] at hv
        | some hi =>
          simp only [opVal, ho, Option.bind_eq_some_iff] at hv
          obtain ⟨ty, ht, hv⟩ := hv
          simp only [OpdR, ho, Op.operands] at hρ
          split at hv
          · simp only [Option.bind_eq_some_iff] at hv
            obtain ⟨sx, hx, hv⟩ := hv
            have hrx := hρ x (by simp) _ hx
            split at hv
            · simp only [Option.bind_eq_some_iff, Option.map_eq_some_iff, Prod.mk.injEq, Bool.and_eq_true, decide_eq_true_eq] at hv
              obtain ⟨l, hl, slo, hlo, ⟨k1, i1⟩, hk1, shi, hhi, ⟨k2, i2⟩, hk2, sm, hm, ⟨k3, i3⟩, hk3, ⟨⟨⟨b1, b2⟩, b3⟩, b4⟩, rfl⟩ := hv
              have := TD.as_eq hl; subst this
              have r1 := hρ lo (by simp) _ hlo
              have r2 := hρ hi (by simp) _ hhi
              have r3 := hρ m (by simp) _ hm
              rw [int_inv hk1] at r1; rw [int_inv hk2] at r2; rw [int_inv hk3] at r3
              exact (gives_slice3 ho (hE.types _ _ ht) hrx (svr_int r1) (svr_int r2) (svr_int r3) b1 b2 b3 b4).yields hh
            · simp at hv
          · simp at hv
    | none =>
      simp only [opVal, ho, Option.bind_eq_some_iff] at hv
      obtain ⟨ty, ht, hv⟩ := hv
      split at hv
      · simp only [Option.bind_eq_some_iff] at hv
        obtain ⟨sx, hx, lo', hlo, hi', hhi, hv⟩ := hv
        simp only [OpdR, ho] at hρ
        exact (yields_slice hE.types hh hB ho ht (by rw [ho]; exact hρ) hx hlo hhi hv).yields hh
      · simp at hv
  | extract t i =>
    simp only [opVal, ho, Option.bind_eq_some_iff] at hv
    obtain ⟨st, hst, hv⟩ := hv
    simp only [OpdR, ho, Op.operands] at hρ
    have hr := hρ t (by simp) _ hst
    split at hv
    · rename_i l
      simp only [Option.map_eq_some_iff, Prod.mk.injEq, true_and] at hv
      obtain ⟨v, hv, rfl⟩ := hv
      obtain ⟨vs, h1, h2, h3⟩ := hr
      have hi : i < vs.size := by rw [h2]; exact (List.getElem?_eq_some_iff.1 hv).1
      refine Gives.yields hh ⟨vs[i], ?_, svr_of_svr1 (h3 i v vs[i] hv (by simp [hi]))⟩
      simp [execOp, ho, h1, Instr.extract, hi]
    · simp at hv
  | build t parts =>
    simp only [opVal, ho, Option.bind_eq_some_iff] at hv
    obtain ⟨ty, ht, hv⟩ := hv
    obtain ⟨hag, hv'⟩ := cond_none hv; clear hv; have hv := hv'; clear hv'
    simp only [Bool.and_eq_true, Bool.not_eq_true'] at hag
    obtain ⟨_, ds, x', rfl, g2, g3, g4⟩ := buildV_spec hv
    simp only [OpdR, ho, Op.operands] at hρ
    refine Gives.yields hh (gives_build ho (hE.types _ _ ht) hag.2 hag.1 g2 (fun k i y hk => ?_) g3)
    obtain ⟨d, h1, sv, h2, h3⟩ := g4 k i y hk
    refine ⟨d, h1, ?_⟩
    have := hρ y (by simp; exact ⟨i, by simpa using List.mem_of_getElem? hk⟩) sv h2
    rcases h3 with rfl | ⟨rfl, e, rfl⟩
    · exact this
    · have hv : a.eval y = .slice none 0 0 := this
      rw [hv]; exact relV_nil _ _
  | call c =>
    simp only [opVal, ho] at hv
    simp only [OpdR, ho, Op.operands] at hρ
    exact yields_callVal hE hh hB ho (fun x hx => hρ x hx) hv
  | lookup t m k ok =>
    cases ok with
    | true => simp [opVal, ho] at hv
    | false =>
      simp only [opVal, ho, Option.bind_eq_some_iff] at hv
      simp only [OpdR, ho, Op.operands] at hρ
      obtain ⟨sm, hm, hv⟩ := hv
      have hrm := hρ m (by simp) _ hm
      split at hv
      · rename_i b
        obtain ⟨t', l, h1, h2⟩ := hrm
        simp only [h1] at hv
        obtain ⟨hc, hv'⟩ := cond_none hv; clear hv; have hv := hv'; clear hv'
        simp only [Bool.and_eq_true] at hc
        have htt := Nat.eq_of_beq_eq_true hc.1
        subst htt
        obtain ⟨kt, et, k1, k2, k3⟩ := hE.maps _ hc.2
        simp only [Option.bind_eq_some_iff] at hv
        obtain ⟨sk, hsk, hv⟩ := hv
        have hrk := hρ k (by simp) _ hsk
        split at hv
        · rename_i n hn
          simp only [Option.some.injEq, Prod.mk.injEq, true_and] at hv
          subst hv
          obtain ⟨g, es, clock, b1, b2, b3, _⟩ := hB b _ h1
          have hkv := svr_int (by rw [int_inv hn] at hrk; exact hrk)
          exact Gives.yields hh ⟨.int .i64 (mget l n), by simp [execOp, ho, hkv, h2, b1, run_lookup_mp k1 k2 k3 b2 b3 n], relV_int σ _ _⟩
        · simp at hv
      · simp at hv
  | _ => simp [opVal, ho] at hv

end
end Go.Lift
set_option linter.unusedSimpArgs false
namespace Go.Lift

theorem beq_false {j k : Nat} (h : j ≠ k) : Nat.beq j k = false := by
  cases hb : Nat.beq j k with
  | false => rfl
  | true => exact (h (Nat.eq_of_beq_eq_true hb)).elim
theorem beq_self (j : Nat) : Nat.beq j j = true := by simp

theorem look_ins {α : Type} (k : Nat) (v : α) : ∀ (l : List (Nat × α)) (j : Nat), look j (ins k v l) = if j = k then some v else look j l
  | [], j => by
    by_cases h : j = k
    · subst h; simp [ins, look, beq_self]
    · simp [ins, look, h, beq_false (Ne.symm h)]
  | (i, u) :: r, j => by
    by_cases hik : i = k
    · subst hik
      simp only [ins, beq_self, cond_true, look]
      by_cases h : j = i
      · subst h; simp [beq_self]
      · simp [h, beq_false (Ne.symm h)]
    · simp only [ins, beq_false hik, cond_false]
      cases hb : Nat.blt k i with
      | true =>
        simp only [cond_true, look]
        by_cases h : j = k
        · subst h; simp [beq_self]
        · simp [h, beq_false (Ne.symm h)]
      | false =>
        simp only [cond_false, look]
        by_cases h : i = j
        · subst h; simp [beq_self, hik]
        · simp only [beq_false h, cond_false]
          exact look_ins k v r j

theorem look_del {α : Type} (k : Nat) : ∀ (l : List (Nat × α)) (j : Nat), look j (del k l) = if j = k then none else look j l
  | [], j => by simp [del, look]
  | (i, u) :: r, j => by
    simp only [del]
    by_cases hik : i = k
    · subst hik
      simp only [beq_self, cond_true, look_del i r j]
      by_cases h : j = i
      · simp [h]
      · simp [h, look, beq_false (Ne.symm h)]
    · simp only [beq_false hik, cond_false, look]
      by_cases h : i = j
      · subst h; simp [beq_self, hik]
      · simp only [beq_false h, cond_false]
        exact look_del k r j

theorem look_mapS {α β : Type} (f : α → β) : ∀ (l : List (Nat × α)) (j : Nat), look j (mapS f l) = (look j l).map f
  | [], j => rfl
  | (i, u) :: r, j => by
    simp only [mapS, look]
    cases Nat.beq i j
    · simp only [cond_false]; exact look_mapS f r j
    · rfl

theorem look_filter {α : Type} (p : Nat → Bool) : ∀ (l : List (Nat × α)) (j : Nat), look j (l.filter fun x => p x.1) = if p j then look j l else none
  | [], j => by simp [look]
  | (i, u) :: r, j => by
    simp only [List.filter_cons]
    by_cases hij : i = j
    · subst hij
      cases hp : p i with
      | true => simp [look, beq_self]
      | false => simp [look_filter p r i, hp]
    · cases hp : p i with
      | true => simp only [if_true, look, beq_false hij, cond_false]; exact look_filter p r j
      | false => simp only [Bool.false_eq_true, if_false, look, beq_false hij, cond_false]; exact look_filter p r j

structure Trans {P : Program} (n0 : Nat) (σ : Store P) (w : World) (σ' : Store P) (w' : World) : Prop where
  le : Store.le σ σ'
  holds : Holds w' σ'
  news : ∀ b o, σ' b = some o → σ b = some o ∨ w.heap.size ≤ b ∨ (n0 ≤ b ∧ ∃ o', w.heap[b]? = some o' ∧ noCells o' = false)
  size : w.heap.size ≤ w'.heap.size
  block : ∀ b, b < w.heap.size → (b < n0 ∨ ∃ o, w.heap[b]? = some o ∧ noCells o = true) → w'.heap[b]? = w.heap[b]?
  os : w'.os = w.os
  output : w'.output = w.output
  tape : w'.tape = w.tape

theorem Trans.trans {P : Program} {n0 : Nat} {σ σ' σ'' : Store P} {w w' w'' : World} (h : Trans n0 σ w σ' w') (h' : Trans n0 σ' w' σ'' w'') : Trans n0 σ w σ'' w'' := by
  refine ⟨h.le.trans h'.le, h'.holds, fun b o hb => ?_, Nat.le_trans h.size h'.size, fun b hb hc => ?_, h'.os.trans h.os, h'.output.trans h.output, h'.tape.trans h.tape⟩
  · rcases h'.news b o hb with h1 | h1 | ⟨h1, o', h2, h3⟩
    · exact h.news b o h1
    · exact .inr (.inl (Nat.le_trans h.size h1))
    · rcases Nat.lt_or_ge b w.heap.size with hlt | hge
      · have hw : w.heap[b]? = some w.heap[b] := Array.getElem?_eq_getElem hlt
        cases hn : noCells w.heap[b] with
        | false => exact .inr (.inr ⟨h1, _, hw, hn⟩)
        | true =>
          have := h.block b hlt (.inr ⟨_, hw, hn⟩)
          rw [h2, hw] at this
          simp only [Option.some.injEq] at this
          subst this
          rw [h3] at hn; cases hn
      · exact .inr (.inl hge)
  · have e := h.block b hb hc
    refine (h'.block b (Nat.lt_of_lt_of_le hb h.size) ?_).trans e
    rcases hc with hc | ⟨o, h1, h2⟩
    · exact .inl hc
    · exact .inr ⟨o, e.trans h1, h2⟩

theorem Step.trans' {P : Program} {n0 : Nat} {σ σ' : Store P} {w w' : World} (_hn : n0 ≤ w.heap.size) (h : Step σ w σ' w') : Trans n0 σ w σ' w' :=
  ⟨h.le, h.holds, fun b o hb => (h.news b o hb).imp id .inl, h.size, fun b hb _ => h.block b hb, h.os, h.output, h.tape⟩

theorem Trans.step {P : Program} {σ σ' : Store P} {w w' : World} (h : Trans w.heap.size σ w σ' w') : Step σ w σ' w' :=
  ⟨h.le, h.holds, fun b o hb => (h.news b o hb).imp id fun h1 => h1.elim id fun h2 => h2.1, h.size, fun b hb => h.block b hb (.inl hb), h.os, h.output, h.tape⟩

/-- what is no cells stays -/
theorem Trans.keepObj {P : Program} {n0 : Nat} {σ σ' : Store P} {w w' : World} (h : Trans n0 σ w σ' w') {D : Nat} {o : Obj} (ho : w.heap[D]? = some o) (hn : noCells o = true) :
    w'.heap[D]? = some o ∧ (σ D = none → σ' D = none) := by
  have hlt : D < w.heap.size := (Array.getElem?_eq_some_iff.1 ho).1
  refine ⟨(h.block D hlt (.inr ⟨o, ho, hn⟩)).trans ho, fun hs => ?_⟩
  cases hs' : σ' D with
  | none => rfl
  | some o' =>
    rcases h.news D o' hs' with h1 | h1 | ⟨_, o2, h2, h3⟩
    · rw [hs] at h1; cases h1
    · omega
    · rw [ho] at h2; simp only [Option.some.injEq] at h2; subst h2; rw [hn] at h3; cases h3

theorem DefsOK.trans {P : Program} {n0 : Nat} {σ σ' : Store P} {w w' : World} (t : Trans n0 σ w σ' w') : ∀ {ds : List Deferred}, DefsOK n0 σ w ds → DefsOK n0 σ' w' ds
  | [], _ => trivial
  | _ :: _, ⟨⟨D, h1, h2, h3, h4, h5⟩, h6⟩ => ⟨⟨D, h1, h2, (t.keepObj h3 rfl).1, (t.keepObj h3 rfl).2 h4, h5⟩, h6.trans t⟩

section
variable {P : Program} {w w' : World} {σ σ' : Store P} {bx bx' : List (Nat × Box)} {H H' : Nat → Value} {n0 N : Nat} {C : Nat → Prop}

theorem BoxR.block {b : Box} {v : Value} (h : BoxR σ w n0 b v) : ∀ g, hBlock v = some g → g < w.heap.size ∧ n0 ≤ g ∧ σ g = none ∧ ∃ o, w.heap[g]? = some o ∧ noCells o = false := by
  intro g hg
  cases b with
  | var d =>
    obtain ⟨g', cs, ty, h1, h2, _, h4, h5⟩ := h
    subst h1; simp [hBlock] at hg; subst hg
    exact ⟨(Array.getElem?_eq_some_iff.1 h2).1, h4, h5, _, h2, rfl⟩
  | vec t l =>
    obtain ⟨ety, xs, h1, _, h3, _⟩ := h
    have hs := h3 g hg
    rcases h1.2 with ⟨rfl, _⟩ | ⟨g', cap, cur, rfl, hb, hg', _⟩
    · simp [hBlock] at hg
    · simp [hBlock] at hg; subst hg
      exact ⟨(Array.getElem?_eq_some_iff.1 hg').1, hb, hs, _, hg', rfl⟩
  | mp t l =>
    obtain ⟨g', es, ck, h1, h2, _, h4, h5⟩ := h
    subst h1; simp [hBlock] at hg; subst hg
    exact ⟨(Array.getElem?_eq_some_iff.1 h2).1, h4, h5, _, h2, rfl⟩

/-- a box keeps its content where its block and its cells' meaning stay -/
theorem BoxR.keep {b : Box} {v : Value} (h : BoxR σ w n0 b v) (hle : Store.le σ σ') (hb : ∀ g, hBlock v = some g → w'.heap[g]? = w.heap[g]? ∧ σ' g = none) : BoxR σ' w' n0 b v := by
  cases b with
  | var d =>
    obtain ⟨g', cs, ty, h1, h2, h3, h4, h5⟩ := h
    obtain ⟨k1, k2⟩ := hb g' (by rw [h1]; rfl)
    exact ⟨g', cs, ty, h1, k1.trans h2, h3.mono hle, h4, k2⟩
  | vec t l =>
    obtain ⟨ety, xs, h1, h2, h3, h4⟩ := h
    refine ⟨ety, xs, ⟨h1.1, ?_⟩, EncL.mono hle _ _ h2, fun g hg => (hb g hg).2, h4⟩
    rcases h1.2 with hn | ⟨g', cap, cur, e1, e2, e3, rest⟩
    · exact .inl hn
    · exact .inr ⟨g', cap, cur, e1, e2, ((hb g' (by rw [e1]; rfl)).1).trans e3, rest⟩
  | mp t l =>
    obtain ⟨g', es, ck, h1, h2, h3, h4, h5⟩ := h
    obtain ⟨k1, k2⟩ := hb g' (by rw [h1]; rfl)
    exact ⟨g', es, ck, h1, k1.trans h2, h3, h4, k2⟩

theorem SVR1.mono {s : SV} {v : Value} (h : SVR1 σ bx H s v) (hle : Store.le σ σ') : SVR1 σ' bx H s v := by
  cases s with
  | tv d => exact RelV.mono hle h
  | cptr d => obtain ⟨a, cs, h1, h2, h3⟩ := h; exact ⟨a, cs, h1, h2.mono hle, h3.mono hle⟩
  | ptr b ix p => cases ix <;> exact h
  | _ => exact h

theorem tup_or (s : SV) : (∃ l, s = .tup l) ∨ (∀ l, s ≠ .tup l) := by cases s <;> first | exact .inl ⟨_, rfl⟩ | (right; intro l h; cases h)
theorem svr_iff {s : SV} (hs : ∀ l, s ≠ .tup l) (v : Value) : SVR σ bx H s v ↔ SVR1 σ bx H s v := by
  cases s <;> first | exact Iff.rfl | exact (hs _ rfl).elim
theorem mentions_eq {s : SV} (hs : ∀ l, s ≠ .tup l) (d : Nat) : s.mentions d = s.mentions1 d := by
  cases s <;> first | rfl | exact (hs _ rfl).elim

theorem SVR.mono {s : SV} {v : Value} (h : SVR σ bx H s v) (hle : Store.le σ σ') : SVR σ' bx H s v := by
  rcases tup_or s with ⟨l, rfl⟩ | hs
  · obtain ⟨vs, h1, h2, h3⟩ := h; exact ⟨vs, h1, h2, fun i s u hs hu => (h3 i s u hs hu).mono hle⟩
  · exact (svr_iff hs v).2 (((svr_iff hs v).1 h).mono hle)

theorem SVR1.off {s : SV} {v : Value} {d : Nat} (hd : s.mentions1 d = false) (hb : ∀ c, c ≠ d → look c bx' = look c bx ∧ H' c = H c) (h : SVR1 σ bx H s v) : SVR1 σ bx' H' s v := by
  have hne : ∀ c, Nat.beq c d = false → c ≠ d := fun c hc e => by subst e; simp at hc
  cases s with
  | tv d => exact h
  | nils => exact h
  | cptr d => exact h
  | gone => trivial
  | own t l => exact h
  | tup l => exact h
  | ref b =>
    obtain ⟨t, l, h1, h2⟩ := h
    have := hb b (hne b hd)
    exact ⟨t, l, this.1.trans h1, h2.trans this.2.symm⟩
  | mref b =>
    obtain ⟨t, l, h1, h2⟩ := h
    have := hb b (hne b hd)
    exact ⟨t, l, this.1.trans h1, h2.trans this.2.symm⟩
  | view b lo hi =>
    obtain ⟨t, l, h1, h2, h3, h4⟩ := h
    have := hb b (hne b hd)
    exact ⟨t, l, this.1.trans h1, h2, h3, by rw [this.2]; exact h4⟩
  | ptr b ix p =>
    have := hb b (hne b hd)
    cases ix with
    | none =>
      obtain ⟨d0, e, g, h1, h2, h3, h4⟩ := h
      exact ⟨d0, e, g, this.1.trans h1, h2, this.2.trans h3, h4⟩
    | some i =>
      obtain ⟨t, l, e, g, n, c, h1, h2, h3, h4, h5⟩ := h
      exact ⟨t, l, e, g, n, c, this.1.trans h1, h2, h3, this.2.trans h4, h5⟩

theorem SVR.off {s : SV} {v : Value} {d : Nat} (hd : s.mentions d = false) (hb : ∀ c, c ≠ d → look c bx' = look c bx ∧ H' c = H c) (h : SVR σ bx H s v) : SVR σ bx' H' s v := by
  rcases tup_or s with ⟨l, rfl⟩ | hs
  · obtain ⟨vs, h1, h2, h3⟩ := h
    simp only [SV.mentions, List.any_eq_false] at hd
    exact ⟨vs, h1, h2, fun i s u hs hu => (h3 i s u hs hu).off (by simpa using hd s (List.mem_of_getElem? hs)) hb⟩
  · exact (svr_iff hs v).2 (((svr_iff hs v).1 h).off (by rw [← mentions_eq hs]; exact hd) hb)

theorem SVR.dead {s : SV} {v : Value} {d : Nat} (hb : ∀ c, c ≠ d → look c bx' = look c bx ∧ H' c = H c) (h : SVR σ bx H s v) : SVR σ bx' H' (s.dead d) v := by
  unfold SV.dead
  cases hd : s.mentions d with
  | true => trivial
  | false => exact SVR.off hd hb h

/-- a change of memory below which all boxes stay -/
theorem Rel.step {st : St} {a : Act} (h : Rel C N n0 σ H st a w) (hs : Step σ w σ' w') : Rel C N n0 σ' H st a w' where
  holds := hs.holds
  size := h.size
  defers := h.defers.trans (hs.trans' h.base)
  base := Nat.le_trans h.base hs.size
  box := fun k b hk => (h.box k b hk).keep hs.le fun g hg => by
    obtain ⟨h1, h2, h3, _⟩ := (h.box k b hk).block g hg
    refine ⟨hs.block g h1, ?_⟩
    cases hn : σ' g with
    | none => rfl
    | some o => rcases hs.news g o hn with h4 | h4 <;> first | (rw [h3] at h4; simp at h4) | omega
  apart := h.apart
  slot := fun k s hk hc => (h.slot k s hk hc).mono hs.le

theorem getD_put {a : Act} {d : Nat} {v : Value} (hd : d < a.tmps.size) (k : Nat) : (a.put (some d) v).tmps.getD k undef = if k = d then v else a.tmps.getD k undef := by
  simp only [Act.put, Array.getD_eq_getD_getElem?, Array.getElem?_setIfInBounds]
  by_cases h : d = k
  · subst h; simp [hd]
  · simp [h, Ne.symm h]

theorem put_size {a : Act} {d : Option Nat} {v : Value} : (a.put d v).tmps.size = a.tmps.size := by
  cases d <;> simp [Act.put]
theorem put_defers {a : Act} {d : Option Nat} {v : Value} : (a.put d v).defers = a.defers := by
  cases d <;> rfl

def dstOK (N : Nat) (d : Option Nat) : Prop := ∀ k, d = some k → k < N

theorem Rel.put {st : St} {a : Act} {d : Option Nat} {s : SV} {v : Value} (h : Rel C N n0 σ H st a w) (hd : dstOK N d) (hs : SVR σ st.bx H s v) : Rel C N n0 σ H (st.put d s) (a.put d v) w := by
  cases d with
  | none => exact h
  | some d =>
    refine ⟨h.holds, by rw [put_size]; exact h.size, by rw [put_defers]; exact h.defers, h.base, h.box, h.apart, fun k s' hk hc => ?_⟩
    simp only [St.put, look_ins] at hk ⊢
    rw [getD_put (by rw [h.size]; exact hd d rfl)]
    split at hk
    · simp at hk; subst hk; rename_i e; rw [if_pos e]; exact hs
    · rename_i e; rw [if_neg e]; exact h.slot k s' hk hc

theorem Rel.unput {st : St} {a : Act} {d : Option Nat} {v : Value} (h : Rel C N n0 σ H st a w) (hd : dstOK N d) : Rel C N n0 σ H (st.unput d) (a.put d v) w := by
  cases d with
  | none => exact h
  | some d =>
    refine ⟨h.holds, by rw [put_size]; exact h.size, by rw [put_defers]; exact h.defers, h.base, h.box, h.apart, fun k s' hk hc => ?_⟩
    simp only [St.unput, look_del] at hk ⊢
    rw [getD_put (by rw [h.size]; exact hd d rfl)]
    split at hk
    · simp at hk
    · rename_i e; rw [if_neg e]; exact h.slot k s' hk hc

theorem Rel.kill {st : St} {a : Act} {d : Nat} (h : Rel C N n0 σ H st a w) : Rel C N n0 σ H (st.kill d) a w := by
  refine ⟨h.holds, h.size, h.defers, h.base, fun k b hk => ?_, fun k k' b b' g hk hk' => ?_, fun k s hk hc => ?_⟩
  · simp only [St.kill, look_del] at hk
    split at hk
    · simp at hk
    · exact h.box k b hk
  · simp only [St.kill, look_del] at hk hk'
    split at hk
    · simp at hk
    · split at hk'
      · simp at hk'
      · exact h.apart k k' b b' g hk hk'
  · simp only [St.kill, look_mapS, Option.map_eq_some_iff] at hk
    obtain ⟨s0, h1, rfl⟩ := hk
    exact SVR.dead (fun c hc => ⟨by simp [St.kill, look_del, hc], rfl⟩) (h.slot k s0 h1 hc)

theorem Rel.killAll {a : Act} : ∀ (bs : List Nat) {st : St}, Rel C N n0 σ H st a w → Rel C N n0 σ H (Lift.killAll bs st) a w
  | [], _, h => h
  | _ :: bs, _, h => Rel.killAll bs h.kill

theorem look_pickS {α : Type} {ks : List Nat} {k : Nat} {v : α} : ∀ {l : List (Nat × α)}, (∀ j, (∃ u, look j (pickS ks l) = some u) → ks.any (Nat.beq j) = true) ∧ (look k (pickS ks l) = some v → look k l = some v)
  | [] => ⟨fun j ⟨u, h⟩ => by simp [pickS, look] at h, fun h => by simp [pickS, look] at h⟩
  | (i, u) :: r => by
    obtain ⟨h1, h2⟩ := look_pickS (ks := ks) (k := k) (v := v) (l := r)
    cases hc : ks.any (Nat.beq i) with
    | true =>
      simp only [pickS, hc, cond_true]
      refine ⟨fun j hj => ?_, fun h => ?_⟩
      · obtain ⟨u', hj⟩ := hj
        simp only [look] at hj
        cases hb : Nat.beq i j with
        | true => have := Nat.eq_of_beq_eq_true hb; subst this; exact hc
        | false => rw [hb] at hj; exact h1 j ⟨u', hj⟩
      · simp only [look] at h ⊢
        cases hb : Nat.beq i k with
        | true => rw [hb] at h; exact h
        | false => rw [hb] at h; exact h2 h
    | false =>
      simp only [pickS, hc, cond_false]
      refine ⟨h1, fun h => ?_⟩
      have hk := h1 k
      simp only [look]
      cases hb : Nat.beq i k with
      | true =>
        have := Nat.eq_of_beq_eq_true hb; subst this
        cases hq : look i (pickS ks r) with
        | none => rw [hq] at h; simp at h
        | some q => rw [h1 i ⟨q, hq⟩] at hc; simp at hc
      | false => exact h2 h

theorem Rel.keep {st : St} {a : Act} {ks : List Nat} (h : Rel C N n0 σ H st a w) : Rel C N n0 σ H (keep ks st) a w := by
  have h' := Rel.killAll (outS ks st.bx) h
  refine ⟨h'.holds, h'.size, h'.defers, h'.base, h'.box, h'.apart, fun k s hk hc => ?_⟩
  simp only [Lift.keep] at hk
  exact h'.slot k s (look_pickS.2 hk) hc

theorem kill_not {st : St} {d k : Nat} {s : SV} (h : look k (st.kill d).sl = some s) : s.mentions d = false := by
  simp only [St.kill, look_mapS, Option.map_eq_some_iff] at h
  obtain ⟨s0, _, rfl⟩ := h
  unfold SV.dead
  cases hm : s0.mentions d with
  | true => rfl
  | false => exact hm

/-- a new block becomes a new box -/
theorem Rel.newBox {st : St} {a : Act} {d : Nat} {b : Box} {s : SV} {v u : Value} (h : Rel C N n0 σ H st a w) (hs : Step σ w σ' w') (hd : d < N)
    (hb : BoxR σ' w' n0 b u) (hnew : ∀ g, hBlock u = some g → w.heap.size ≤ g) (hv : ∀ bx' H', look d bx' = some b → H' d = u → SVR σ' bx' H' s v) :
    Rel C N n0 σ' (fun k => if k = d then u else H k) (st.newBox d b s) (a.put (some d) v) w' := by
  have h1 := (h.step hs).kill (d := d)
  refine ⟨hs.holds, by rw [put_size]; exact h.size, by rw [put_defers]; exact h1.defers, h1.base, fun k b' hk => ?_, fun k k' b1 b2 g hk hk' hne hg hg' => ?_, fun k s' hk hc => ?_⟩
  · simp only [St.newBox, look_ins] at hk
    by_cases e : k = d
    · simp [e] at hk ⊢; subst hk; exact hb
    · simp [e] at hk ⊢; exact h1.box k b' hk
  · simp only [St.newBox, look_ins] at hk hk'
    by_cases e : k = d
    · by_cases e' : k' = d
      · exact hne (e.trans e'.symm)
      · simp [e, e'] at hk hk' hg hg'
        have hold : look k' st.bx = some b2 := by simpa [St.kill, look_del, e'] using hk'
        have := ((h.box k' b2 hold).block g hg').1
        have := hnew g hg
        omega
    · by_cases e' : k' = d
      · simp [e, e'] at hk hk' hg hg'
        have hold : look k st.bx = some b1 := by simpa [St.kill, look_del, e] using hk
        have := ((h.box k b1 hold).block g hg).1
        have := hnew g hg'
        omega
      · simp [e, e'] at hk hk' hg hg'
        exact h1.apart k k' b1 b2 g hk hk' hne hg hg'
  · simp only [St.newBox, look_ins] at hk ⊢
    rw [getD_put (by rw [h.size]; exact hd)]
    by_cases e : k = d
    · rw [if_pos e]
      simp [e] at hk; subst hk
      exact hv _ _ (by simp [look_ins]) (by simp)
    · rw [if_neg e]
      simp [e] at hk
      refine SVR.off (d := d) (kill_not hk) (fun c hc' => ?_) (h1.slot k s' hk hc)
      simp [look_ins, hc']

/-- memory that is the frame's own, named as a box -/
theorem Rel.ownBox {st : St} {a : Act} {d : Nat} {b : Box} {s : SV} {v : Value} (h : Rel C N n0 σ H st a w) (hva : a.tmps.getD d undef = v) (hb : BoxR σ w n0 b v)
    (hap : ∀ k b' g, look k st.bx = some b' → hBlock v = some g → hBlock (H k) ≠ some g) (hv : ∀ bx' H', look d bx' = some b → H' d = v → SVR σ bx' H' s v) :
    Rel C N n0 σ (fun k => if k = d then v else H k) (st.newBox d b s) a w := by
  have h1 := h.kill (d := d)
  refine ⟨h.holds, h.size, h1.defers, h1.base, fun k b' hk => ?_, fun k k' b1 b2 g hk hk' hne hg hg' => ?_, fun k s' hk hc => ?_⟩
  · simp only [St.newBox, look_ins] at hk
    by_cases e : k = d
    · simp [e] at hk ⊢; subst hk; exact hb
    · simp [e] at hk ⊢; exact h1.box k b' hk
  · simp only [St.newBox, look_ins] at hk hk'
    by_cases e : k = d
    · by_cases e' : k' = d
      · exact hne (e.trans e'.symm)
      · simp [e, e'] at hk hk' hg hg'
        have hold : look k' st.bx = some b2 := by simpa [St.kill, look_del, e'] using hk'
        exact hap k' b2 g hold hg hg'
    · by_cases e' : k' = d
      · simp [e, e'] at hk hk' hg hg'
        have hold : look k st.bx = some b1 := by simpa [St.kill, look_del, e] using hk
        exact hap k b1 g hold hg' hg
      · simp [e, e'] at hk hk' hg hg'
        exact h1.apart k k' b1 b2 g hk hk' hne hg hg'
  · simp only [St.newBox, look_ins] at hk ⊢
    by_cases e : k = d
    · simp [e] at hk; subst hk
      rw [e, hva]
      exact hv _ _ (by simp [look_ins]) (by simp)
    · simp [e] at hk
      refine SVR.off (d := d) (kill_not hk) (fun c hc' => ?_) (h1.slot k s' hk hc)
      simp [look_ins, hc']

end
end Go.Lift
set_option linter.unusedSimpArgs false
namespace Go.Lift

section
variable {P : Program} {w w' : World} {σ σ' τ : Store P} {bx bx' : List (Nat × Box)} {H H' : Nat → Value} {n0 N : Nat} {C : Nat → Prop}

theorem box_slice' {e : Ty} {l : List e.D} {v : Value} (hle : Store.le σ τ) (hg : ∀ g, hBlock v = some g → τ g = w.heap[g]?) (h : BoxR σ w n0 (.vec e l) v) : RelV τ ⟨.slice e, l⟩ v := by
  obtain ⟨ety, xs, hown, henc, _⟩ := h
  rcases Nat.eq_zero_or_pos l.length with h0 | hpos
  · have hl : l = [] := List.eq_nil_of_length_eq_zero h0
    subst hl
    rcases hown.2 with ⟨rfl, _⟩ | ⟨g, cap, cur, rfl, _, hg, h1, _, h3, h4⟩
    · exact relV_nil _ _
    · exact ⟨⟨some ⟨g, 0, none⟩, cap, by simp [Value.cells], by simp, by simp, fun i hi => by simp at hi⟩, rfl⟩
  · obtain ⟨g, cap, cur, rfl, hgh, hcap, hcs, htake, _⟩ := ownsRow_inv hown hpos
    refine ⟨⟨some ⟨g, 0, none⟩, cap, by simp [Value.cells], hcap, by simp, ?_⟩, rfl⟩
    refine EncL.toSlice l xs (EncL.mono hle _ _ henc) ⟨g, 0, none⟩ ?_
    intro j v hv
    have := hown.cells (g := g) rfl j v hv
    have hgb := hg g rfl
    unfold World.cell? at this
    unfold Store.cell?
    rw [addr_add_block] at this ⊢
    simp only at this ⊢
    rw [hgb]; exact this

theorem store_cell_block {g : Nat} (hg : τ g = w.heap[g]?) (off : Nat) : τ.cell? ⟨g, off, none⟩ = w.cell? ⟨g, off, none⟩ := by
  unfold Store.cell? World.cell?
  simp only [hg]
  cases w.heap[g]? with
  | none => rfl
  | some o => cases o <;> rfl

theorem froz1_rel {t : Ty} {l : List t.D} {b : Nat} (hb : look b bx = some (.vec t l)) (hB : BoxR σ w n0 (.vec t l) (H b)) (hle : Store.le σ τ) (hg : ∀ g, hBlock (H b) = some g → τ g = w.heap[g]?)
    {s : SV} {v : Value} (h : SVR1 σ bx H s v) : SVR1 τ (del b bx) H (s.froz1 b t l) v := by
  have hoff : ∀ s' : SV, s'.mentions1 b = false → SVR1 σ bx H s' v → SVR1 τ (del b bx) H s' v := fun s' hm hs =>
    (hs.mono hle).off hm (fun c hc => ⟨by simp [look_del, hc], rfl⟩)
  have inj : ∀ (t' : Ty) (l' : List t'.D), look b bx = some (.vec t' l') → (⟨.slice t', l'⟩ : TD) = ⟨.slice t, l⟩ := by
    intro t' l' h'
    rw [hb] at h'
    simp only [Option.some.injEq, Box.vec.injEq] at h'
    obtain ⟨rfl, h'⟩ := h'
    rw [eq_of_heq h']
  cases s with
  | mref c =>
    by_cases hc : c = b
    · subst hc
      obtain ⟨t', l', h1, h2⟩ := h
      rw [hb] at h1; simp at h1
    · exact hoff _ (beq_false hc) h
  | ref c =>
    simp only [SV.froz1]
    by_cases hc : c = b
    · subst hc
      simp only [beq_self, cond_true]
      obtain ⟨t', l', h1, h2⟩ := h
      subst h2
      exact box_slice' hle hg hB
    · simp only [beq_false hc, cond_false]
      exact hoff _ (beq_false hc) h
  | view c lo hi =>
    simp only [SV.froz1]
    by_cases hc : c = b
    · subst hc
      simp only [beq_self, cond_true]
      obtain ⟨t', l', h1, h2, h3, h4⟩ := h
      rw [hb] at h1
      simp only [Option.some.injEq, Box.vec.injEq] at h1
      obtain ⟨rfl, h1⟩ := h1
      have h1 := eq_of_heq h1
      subst h1
      rw [h4]
      exact relV_view (box_slice' hle hg hB) lo hi h2 h3
    · simp only [beq_false hc, cond_false]
      exact hoff _ (beq_false hc) h
  | ptr c ix p =>
    cases ix with
    | none =>
      simp only [SV.froz1]
      by_cases hc : c = b
      · subst hc
        obtain ⟨d0, e, g, h1, _⟩ := h
        rw [hb] at h1; simp at h1
      · exact hoff _ (beq_false hc) h
    | some i =>
      simp only [SV.froz1]
      by_cases hc : c = b
      · subst hc
        simp only [beq_self, cond_true]
        obtain ⟨t', l', e, g, n, cc, h1, h2, h3, h4, h5⟩ := h
        rw [hb] at h1
        simp only [Option.some.injEq, Box.vec.injEq] at h1
        obtain ⟨rfl, h1⟩ := h1
        have h1 := eq_of_heq h1
        subst h1
        rw [h3]
        obtain ⟨ety, xs, hown, henc, _⟩ := hB
        obtain ⟨g', cap, cur, k1, k2, k3, k4, k5, _⟩ := ownsRow_inv hown (by omega)
        rw [h4] at k1; simp at k1; obtain ⟨rfl, rfl, rfl⟩ := k1
        obtain ⟨p1, c1, r1, q1, q2, q3, _⟩ := (EncL.mono hle _ _ henc).get l xs i h2
        have hgd : l[i] = l.getD i t.zero := by simp [List.getD, List.getElem?_eq_getElem h2]
        rw [hgd] at q3
        obtain ⟨p2, c2, r2, z1, z2, z3⟩ := Enc.path p _ _ c1 h3 q3
        refine ⟨_, c2, h5, fun j u hu => ?_, z3⟩
        rw [addr_lit, store_cell_block (w := w) (hg g (by rw [h4]; rfl)), ← addr_lit]
        have hcur : cur.toList = (p1 ++ p2) ++ c2 ++ (r2 ++ r1 ++ cur.toList.drop (l.length * t.size)) := by
          have h0 := List.take_append_drop (l.length * t.size) cur.toList
          rw [k5, q1, z1] at h0
          simpa using h0.symm
        exact at_row k2 hcur (by simp [q2, z2]) j u hu
      · simp only [beq_false hc, cond_false]
        exact hoff _ (beq_false hc) h
  | tv d => exact RelV.mono hle h
  | nils => exact h
  | cptr d => exact hoff _ rfl h
  | gone => trivial
  | own _ _ => exact h
  | tup _ => exact h

theorem froz_rel {t : Ty} {l : List t.D} {b : Nat} (hb : look b bx = some (.vec t l)) (hB : BoxR σ w n0 (.vec t l) (H b)) (hle : Store.le σ τ) (hg : ∀ g, hBlock (H b) = some g → τ g = w.heap[g]?)
    {s : SV} {v : Value} (h : SVR σ bx H s v) : SVR τ (del b bx) H (s.froz b t l) v := by
  rcases tup_or s with ⟨m, rfl⟩ | hs
  · obtain ⟨vs, h1, h2, h3⟩ := h
    refine ⟨vs, h1, by simp [h2], fun i s' u hs' hu => ?_⟩
    simp only [List.getElem?_map, Option.map_eq_some_iff] at hs'
    obtain ⟨s0, e1, rfl⟩ := hs'
    exact froz1_rel hb hB hle hg (h3 i s0 u e1 hu)
  · have e : s.froz b t l = s.froz1 b t l := by cases s <;> first | rfl | exact (hs _ rfl).elim
    rw [e]
    have h' := froz1_rel hb hB hle hg ((svr_iff hs v).1 h)
    exact svr_of_svr1 h'

theorem Rel.freeze {st : St} {a : Act} (h : Rel C N n0 σ H st a w) (b : Nat) : ∃ σ', Trans n0 σ w σ' w ∧ Rel C N n0 σ' H (st.freeze b) a w := by
  have hrefl : Trans n0 σ w σ w := ⟨Store.le.refl σ, h.holds, fun _ _ h => .inl h, Nat.le_refl _, fun _ _ _ => rfl, rfl, rfl, rfl⟩
  unfold St.freeze
  cases hb : look b st.bx with
  | none => exact ⟨σ, hrefl, h⟩
  | some bb =>
    cases bb with
    | var d => exact ⟨σ, hrefl, h⟩
    | mp t l => exact ⟨σ, hrefl, h⟩
    | vec t l =>
      have hB := h.box b _ hb
      have hblk := hB.block
      have hle : Store.le σ (fun k => if hBlock (H b) = some k then w.heap[k]? else σ k) := by
        intro k o hk
        show (if hBlock (H b) = some k then w.heap[k]? else σ k) = some o
        split
        · rename_i e; have := (hblk k e).2.2.1; rw [hk] at this; simp at this
        · exact hk
      have hg : ∀ g, hBlock (H b) = some g → (fun k => if hBlock (H b) = some k then w.heap[k]? else σ k) g = w.heap[g]? := fun g e => by simp [e]
      have hholds : Holds (P := P) w (fun k => if hBlock (H b) = some k then w.heap[k]? else σ k) := by
        intro k o hk
        change (if hBlock (H b) = some k then w.heap[k]? else σ k) = some o at hk
        split at hk
        · exact hk
        · exact h.holds k o hk
      have ht : Trans n0 σ w (fun k => if hBlock (H b) = some k then w.heap[k]? else σ k) w := by
        refine ⟨hle, hholds, fun k o hk => ?_, Nat.le_refl _, fun _ _ _ => rfl, rfl, rfl, rfl⟩
        change (if hBlock (H b) = some k then w.heap[k]? else σ k) = some o at hk
        split at hk
        · rename_i e
          obtain ⟨_, h2, _, o', h4, h5⟩ := hblk k e
          exact .inr (.inr ⟨h2, o', h4, h5⟩)
        · exact .inl hk
      refine ⟨_, ht, hholds, h.size, h.defers.trans ht, h.base, fun k b' hk => ?_, fun k k' b1 b2 g hk hk' => ?_, fun k s hk hc => ?_⟩
      · simp only [look_del] at hk
        split at hk
        · simp at hk
        · rename_i hne
          refine (h.box k b' hk).keep hle fun g hg' => ⟨rfl, ?_⟩
          have h1 := h.apart b k _ b' g hb hk (Ne.symm hne)
          have h2 : ¬ hBlock (H b) = some g := fun e => h1 e hg'
          simp only [h2, if_false]
          exact ((h.box k b' hk).block g hg').2.2.1
      · simp only [look_del] at hk hk'
        split at hk
        · simp at hk
        · split at hk'
          · simp at hk'
          · exact h.apart k k' b1 b2 g hk hk'
      · simp only [look_mapS, Option.map_eq_some_iff] at hk
        obtain ⟨s0, e, rfl⟩ := hk
        exact froz_rel hb hB hle hg (h.slot k s0 e hc)

theorem Trans.refl (hh : Holds w σ) : Trans n0 σ w σ w := ⟨Store.le.refl σ, hh, fun _ _ h => .inl h, Nat.le_refl _, fun _ _ _ => rfl, rfl, rfl, rfl⟩

theorem Rel.freezeOps {a : Act} : ∀ (xs : List Operand) (st : St) (σ : Store P), Rel C N n0 σ H st a w → ∃ σ', Trans n0 σ w σ' w ∧ Rel C N n0 σ' H (freezeOps st xs) a w
  | [], st, σ, h => ⟨σ, Trans.refl h.holds, h⟩
  | x :: xs, st, σ, h => by
    simp only [Lift.freezeOps]
    split
    · rename_i b _
      obtain ⟨σ1, t1, h1⟩ := h.freeze b
      obtain ⟨σ2, t2, h2⟩ := Rel.freezeOps xs _ σ1 h1
      exact ⟨σ2, t1.trans t2, h2⟩
    · rename_i b _ _ _
      obtain ⟨σ1, t1, h1⟩ := h.freeze b
      obtain ⟨σ2, t2, h2⟩ := Rel.freezeOps xs _ σ1 h1
      exact ⟨σ2, t1.trans t2, h2⟩
    · exact Rel.freezeOps xs st σ h

/-! a variable that stays -/
theorem frozV1_rel {d : TD} {b : Nat} (hb : look b bx = some (.var d)) (hB : BoxR σ w n0 (.var d) (H b)) (hle : Store.le σ τ) (hg : ∀ g, hBlock (H b) = some g → τ g = w.heap[g]?)
    {s : SV} {v : Value} (h : SVR1 σ bx H s v) : SVR1 τ (del b bx) H (s.frozV1 b d) v := by
  have hoff : ∀ s' : SV, s'.mentions1 b = false → SVR1 σ bx H s' v → SVR1 τ (del b bx) H s' v := fun s' hm hs =>
    (hs.mono hle).off hm (fun c hc => ⟨by simp [look_del, hc], rfl⟩)
  cases s with
  | mref c =>
    by_cases hc : c = b
    · subst hc
      obtain ⟨t', l', h1, h2⟩ := h
      rw [hb] at h1; simp at h1
    · exact hoff _ (beq_false hc) h
  | ref c =>
    by_cases hc : c = b
    · subst hc
      obtain ⟨t', l', h1, h2⟩ := h
      rw [hb] at h1; simp at h1
    · exact hoff _ (beq_false hc) h
  | view c lo hi =>
    by_cases hc : c = b
    · subst hc
      obtain ⟨t', l', h1, h2⟩ := h
      rw [hb] at h1; simp at h1
    · exact hoff _ (beq_false hc) h
  | ptr c ix p =>
    cases ix with
    | some i =>
      by_cases hc : c = b
      · subst hc
        obtain ⟨t', l', e, g, n, cc, h1, _⟩ := h
        rw [hb] at h1; simp at h1
      · exact hoff _ (beq_false hc) h
    | none =>
      simp only [SV.frozV1]
      by_cases hc : c = b
      · subst hc
        simp only [beq_self, cond_true]
        obtain ⟨d0, e, g, h1, h2, h3, h4⟩ := h
        rw [hb] at h1; simp only [Option.some.injEq, Box.var.injEq] at h1; subst h1
        rw [h2]
        obtain ⟨g', cs, ty, k1, k2, k3, _, _⟩ := hB
        rw [h3] at k1; simp only [Value.pointer.injEq, Option.some.injEq, Addr.mk.injEq, and_true] at k1; subst k1
        obtain ⟨pp, c2, r2, z1, z2, z3⟩ := Enc.path p d e cs.toList h2 (k3.mono hle)
        refine ⟨_, c2, h4, fun j u hu => ?_, z3⟩
        rw [addr_lit, store_cell_block (w := w) (hg g (by rw [h3]; rfl)), ← addr_lit]
        exact at_row k2 z1 z2 j u hu
      · simp only [beq_false hc, cond_false]
        exact hoff _ (beq_false hc) h
  | tv d => exact RelV.mono hle h
  | nils => exact h
  | cptr d => exact hoff _ rfl h
  | gone => trivial
  | own _ _ => exact h
  | tup _ => exact h

theorem frozV_rel {d : TD} {b : Nat} (hb : look b bx = some (.var d)) (hB : BoxR σ w n0 (.var d) (H b)) (hle : Store.le σ τ) (hg : ∀ g, hBlock (H b) = some g → τ g = w.heap[g]?)
    {s : SV} {v : Value} (h : SVR σ bx H s v) : SVR τ (del b bx) H (s.frozV b d) v := by
  rcases tup_or s with ⟨m, rfl⟩ | hs
  · obtain ⟨vs, h1, h2, h3⟩ := h
    refine ⟨vs, h1, by simp [h2], fun i s' u hs' hu => ?_⟩
    simp only [List.getElem?_map, Option.map_eq_some_iff] at hs'
    obtain ⟨s0, e1, rfl⟩ := hs'
    exact frozV1_rel hb hB hle hg (h3 i s0 u e1 hu)
  · have e : s.frozV b d = s.frozV1 b d := by cases s <;> first | rfl | exact (hs _ rfl).elim
    rw [e]
    exact svr_of_svr1 (frozV1_rel hb hB hle hg ((svr_iff hs v).1 h))

theorem Rel.freezeV {st : St} {a : Act} (h : Rel C N n0 σ H st a w) (b : Nat) : ∃ σ', Trans n0 σ w σ' w ∧ Rel C N n0 σ' H (st.freezeV b) a w := by
  unfold St.freezeV
  cases hb : look b st.bx with
  | none => exact ⟨σ, Trans.refl h.holds, h⟩
  | some bb =>
    cases bb with
    | vec t l => exact ⟨σ, Trans.refl h.holds, h⟩
    | mp t l => exact ⟨σ, Trans.refl h.holds, h⟩
    | var d =>
      have hB := h.box b _ hb
      have hblk := hB.block
      have hle : Store.le σ (fun k => if hBlock (H b) = some k then w.heap[k]? else σ k) := by
        intro k o hk
        show (if hBlock (H b) = some k then w.heap[k]? else σ k) = some o
        split
        · rename_i e; have := (hblk k e).2.2.1; rw [hk] at this; simp at this
        · exact hk
      have hg : ∀ g, hBlock (H b) = some g → (fun k => if hBlock (H b) = some k then w.heap[k]? else σ k) g = w.heap[g]? := fun g e => by simp [e]
      have hholds : Holds (P := P) w (fun k => if hBlock (H b) = some k then w.heap[k]? else σ k) := by
        intro k o hk
        change (if hBlock (H b) = some k then w.heap[k]? else σ k) = some o at hk
        split at hk
        · exact hk
        · exact h.holds k o hk
      have ht : Trans n0 σ w (fun k => if hBlock (H b) = some k then w.heap[k]? else σ k) w := by
        refine ⟨hle, hholds, fun k o hk => ?_, Nat.le_refl _, fun _ _ _ => rfl, rfl, rfl, rfl⟩
        change (if hBlock (H b) = some k then w.heap[k]? else σ k) = some o at hk
        split at hk
        · rename_i e
          obtain ⟨_, h2, _, o', h4, h5⟩ := hblk k e
          exact .inr (.inr ⟨h2, o', h4, h5⟩)
        · exact .inl hk
      refine ⟨_, ht, hholds, h.size, h.defers.trans ht, h.base, fun k b' hk => ?_, fun k k' b1 b2 g hk hk' => ?_, fun k s hk hc => ?_⟩
      · simp only [look_del] at hk
        split at hk
        · simp at hk
        · rename_i hne
          refine (h.box k b' hk).keep hle fun g hg' => ⟨rfl, ?_⟩
          have h1 := h.apart b k _ b' g hb hk (Ne.symm hne)
          have h2 : ¬ hBlock (H b) = some g := fun e => h1 e hg'
          simp only [h2, if_false]
          exact ((h.box k b' hk).block g hg').2.2.1
      · simp only [look_del] at hk hk'
        split at hk
        · simp at hk
        · split at hk'
          · simp at hk'
          · exact h.apart k k' b1 b2 g hk hk'
      · simp only [look_mapS, Option.map_eq_some_iff] at hk
        obtain ⟨s0, e, rfl⟩ := hk
        exact frozV_rel hb hB hle hg (h.slot k s0 e hc)

theorem Rel.freezeVs {a : Act} : ∀ (xs : List Operand) (st : St) (σ : Store P), Rel C N n0 σ H st a w → ∃ σ', Trans n0 σ w σ' w ∧ Rel C N n0 σ' H (freezeVs st xs) a w
  | [], st, σ, h => ⟨σ, Trans.refl h.holds, h⟩
  | x :: xs, st, σ, h => by
    simp only [Lift.freezeVs]
    split
    · rename_i b _ _
      obtain ⟨σ1, t1, h1⟩ := h.freezeV b
      obtain ⟨σ2, t2, h2⟩ := Rel.freezeVs xs _ σ1 h1
      exact ⟨σ2, t1.trans t2, h2⟩
    · exact Rel.freezeVs xs st σ h

/-! renaming -/
theorem ren1_rel {b d : Nat} (hbd : b ≠ d) {x : Box} (hx : look b bx = some x) {s : SV} {v : Value} (hm : s.mentions1 d = false) (h : SVR1 σ bx H s v) :
    SVR1 σ (ins d x (del b bx)) (fun k => if k = d then H b else H k) (s.ren1 b d) v := by
  have hne : ∀ c, Nat.beq c d = false → c ≠ d := fun c hc e => by subst e; simp at hc
  have hlk : ∀ c, c ≠ d → c ≠ b → look c (ins d x (del b bx)) = look c bx := fun c h1 h2 => by simp [look_ins, look_del, h1, h2]
  have hld : look d (ins d x (del b bx)) = some x := by simp [look_ins]
  cases s with
  | mref c =>
    obtain ⟨t, l, h1, h2⟩ := h
    simp only [SV.ren1]
    by_cases hc : c = b
    · subst hc
      rw [hx] at h1
      simp only [beq_self, cond_true]
      exact ⟨t, l, by rw [hld, h1], by simp [h2]⟩
    · have hcd := hne c hm
      simp only [beq_false hc, cond_false]
      exact ⟨t, l, (hlk c hcd hc).trans h1, by simp [hcd, h2]⟩
  | ref c =>
    obtain ⟨t, l, h1, h2⟩ := h
    simp only [SV.ren1]
    by_cases hc : c = b
    · subst hc
      rw [hx] at h1
      simp only [beq_self, cond_true]
      exact ⟨t, l, by rw [hld, h1], by simp [h2]⟩
    · have hcd := hne c hm
      simp only [beq_false hc, cond_false]
      exact ⟨t, l, (hlk c hcd hc).trans h1, by simp [hcd, h2]⟩
  | view c lo hi =>
    obtain ⟨t, l, h1, h2, h3, h4⟩ := h
    simp only [SV.ren1]
    by_cases hc : c = b
    · subst hc
      rw [hx] at h1
      simp only [beq_self, cond_true]
      exact ⟨t, l, by rw [hld, h1], h2, h3, by simp [h4]⟩
    · have hcd := hne c hm
      simp only [beq_false hc, cond_false]
      exact ⟨t, l, (hlk c hcd hc).trans h1, h2, h3, by simp [hcd, h4]⟩
  | ptr c ix p =>
    simp only [SV.ren1]
    by_cases hc : c = b
    · subst hc
      simp only [beq_self, cond_true]
      cases ix with
      | none =>
        obtain ⟨d0, e, g, h1, h2, h3, h4⟩ := h
        rw [hx] at h1
        exact ⟨d0, e, g, by rw [hld, h1], h2, by simp [h3], h4⟩
      | some i =>
        obtain ⟨t, l, e, g, n, cc, h1, h2, h3, h4, h5⟩ := h
        rw [hx] at h1
        exact ⟨t, l, e, g, n, cc, by rw [hld, h1], h2, h3, by simp [h4], h5⟩
    · have hcd := hne c hm
      simp only [beq_false hc, cond_false]
      cases ix with
      | none =>
        obtain ⟨d0, e, g, h1, h2, h3, h4⟩ := h
        exact ⟨d0, e, g, (hlk c hcd hc).trans h1, h2, by simp [hcd, h3], h4⟩
      | some i =>
        obtain ⟨t, l, e, g, n, cc, h1, h2, h3, h4, h5⟩ := h
        exact ⟨t, l, e, g, n, cc, (hlk c hcd hc).trans h1, h2, h3, by simp [hcd, h4], h5⟩
  | tv d => exact h
  | nils => exact h
  | cptr d => exact h
  | gone => trivial
  | own _ _ => exact h
  | tup _ => exact h

theorem Rel.rename {st : St} {a : Act} {b d : Nat} (h : Rel C N n0 σ H st a w) (hbd : b ≠ d) {x : Box} (hx : look b st.bx = some x) :
    Rel C N n0 σ (fun k => if k = d then H b else H k) (st.rename b d) a w := by
  have hk := h.kill (d := d)
  have hxb : look b (st.kill d).bx = some x := by simp [St.kill, look_del, hbd, hx]
  have e : st.rename b d = ⟨mapS (SV.ren b d) (st.kill d).sl, ins d x (del b (st.kill d).bx)⟩ := by
    unfold St.rename
    simp only [beq_false hbd, cond_false, hx]
  rw [e]
  refine ⟨h.holds, h.size, h.defers, h.base, fun k b' hkk => ?_, fun k k' b1 b2 g h1 h2 hne hg hg' => ?_, fun k s hs hc => ?_⟩
  · simp only [look_ins] at hkk
    by_cases ek : k = d
    · simp [ek] at hkk ⊢; subst hkk; exact hk.box b _ hxb
    · simp [ek, look_del] at hkk ⊢
      exact hk.box k b' hkk.2
  · simp only [look_ins] at h1 h2
    by_cases ek : k = d
    · by_cases ek' : k' = d
      · exact hne (ek.trans ek'.symm)
      · simp [ek, ek', look_del] at h1 h2 hg hg'
        subst h1
        exact hk.apart b k' _ b2 g hxb h2.2 (Ne.symm h2.1) hg hg'
    · by_cases ek' : k' = d
      · simp [ek, ek', look_del] at h1 h2 hg hg'
        subst h2
        exact hk.apart k b b1 _ g h1.2 hxb h1.1 hg hg'
      · simp [ek, ek', look_del] at h1 h2 hg hg'
        exact hk.apart k k' b1 b2 g h1.2 h2.2 hne hg hg'
  · simp only [look_mapS, Option.map_eq_some_iff] at hs
    obtain ⟨s0, e0, rfl⟩ := hs
    have hm := kill_not e0
    have hr := hk.slot k s0 e0 hc
    rcases tup_or s0 with ⟨m, rfl⟩ | hs
    · obtain ⟨vs, h1, h2, h3⟩ := hr
      refine ⟨vs, h1, by simp [h2], fun i s' u hs' hu => ?_⟩
      simp only [List.getElem?_map, Option.map_eq_some_iff] at hs'
      obtain ⟨s1, e1, rfl⟩ := hs'
      simp only [SV.mentions, List.any_eq_false] at hm
      exact ren1_rel hbd hxb (by simpa using hm s1 (List.mem_of_getElem? e1)) (h3 i s1 u e1 hu)
    · have e : s0.ren b d = s0.ren1 b d := by cases s0 <;> first | rfl | exact (hs _ rfl).elim
      rw [e]
      exact svr_of_svr1 (ren1_rel hbd hxb (by rw [← mentions_eq hs]; exact hm) ((svr_iff hs _).1 hr))

end
end Go.Lift
set_option linter.unusedSimpArgs false
namespace Go.Lift
theorem allocOld (w : World) (o : Obj) (b : Nat) (h : b < w.heap.size) : (w.alloc o).heap[b]? = w.heap[b]? := by
  show (w.heap.push o)[b]? = _
  rw [Array.getElem?_push, if_neg (by omega)]
theorem allocNew (w : World) (o : Obj) : (w.alloc o).heap[w.heap.size]? = some o := by
  show (w.heap.push o)[w.heap.size]? = _
  rw [Array.getElem?_push, if_pos rfl]

section
variable {P : Program} {w : World} {σ : Store P}

theorem step_alloc (hh : Holds w σ) (o : Obj) : Step σ w σ (w.alloc o) :=
  ⟨Store.le.refl σ, fun b o' hb => by
      have := hh b o' hb
      rw [allocOld w o b (Array.getElem?_eq_some_iff.1 this).1]; exact this,
    fun _ _ h => .inl h, by simp, fun b hb => allocOld w o b hb, rfl, rfl, rfl⟩

theorem step_drew (hh : Holds w σ) : Step σ w σ w.drew := ⟨Store.le.refl σ, hh, fun _ _ h => .inl h, Nat.le_refl _, fun _ _ => rfl, rfl, rfl, rfl⟩

theorem Step.tr {σ σ' σ'' : Store P} {w w' w'' : World} (h : Step σ w σ' w') (h' : Step σ' w' σ'' w'') : Step σ w σ'' w'' :=
  ⟨h.le.trans h'.le, h'.holds, fun b o hb => (h'.news b o hb).elim (fun h1 => h.news b o h1) (fun h1 => .inr (Nat.le_trans h.size h1)), Nat.le_trans h.size h'.size,
    fun b hb => (h'.block b (Nat.lt_of_lt_of_le hb h.size)).trans (h.block b hb), h'.os.trans h.os, h'.output.trans h.output, h'.tape.trans h.tape⟩

theorem holds_new (hh : Holds w σ) : σ w.heap.size = none := by
  cases hs : σ w.heap.size with
  | none => rfl
  | some o => have := hh _ _ hs; simp at this

theorem enc_zero {t : Ty} {ty : Nat} (h : chk P t ty = true) (τ : Store P) : ∃ i z, P.info? ty = some i ∧ i.size = t.size ∧ i.zero = some z ∧ Enc τ t t.zero z.cells.toList ∧ i.bytes ≤ t.wid ∧ z.cells.size = t.size := by
  obtain ⟨i, z, h1, h2, h3, h4, h5, h6⟩ := infoOK_spec (chk_info h)
  exact ⟨i, z, h1, h2, h4, h5 τ, h3, by have := (h5 τ).length; simpa using this⟩

theorem run_append_zero {tag t ty et : Nat} {i : TypeInfo} (ht : P.underlying t = some (.slice et)) (hi : P.info? et = some i) {n0 size n : Nat} {v : Value} {xs : List Value} (hown : w.ownsRow n0 tag size v n xs) (ad : Option Addr) (c : Nat) :
    (Builtin.append_ #[t, t] ty #[v, .slice ad 0 c]).run P w = .ok v w := by
  rcases hown.2 with ⟨rfl, rfl⟩ | ⟨g, cap, cur, rfl, _, _, hnc, _⟩
  · cases ad <;> simp [Builtin.append_, run_underlying ht, sizeOf, typeInfo, hi, Builtin.lenOf, Builtin.firstCells, loadCells, loadCellsFrom]
  · cases ad <;> simp [Builtin.append_, run_underlying ht, sizeOf, typeInfo, hi, Builtin.lenOf, Builtin.firstCells, hnc, storeCells, loadCells, loadCellsFrom]

theorem run_append_room2 {t ty e tag : Nat} {i : TypeInfo} (ht : P.underlying t = some (.slice e)) (hi : P.info? e = some i)
    (g sLen sCap : Nat) (cur : Array Value) (hg : w.heap[g]? = some (.cells cur tag (0, 0)))
    (a : Addr) (m c : Nat) (news : List Value) (hl : news.length = m * i.size) (hnews : At w a news) (h1 : ∀ u ∈ news, u.oneCell' = true)
    (hroom : sLen + m ≤ sCap) (hfit : sLen * i.size + news.length ≤ cur.size) :
    (Builtin.append_ #[t, t] ty #[.slice (some ⟨g, 0, none⟩) sLen sCap, .slice (some a) m c]).run P w =
      .ok (.slice (some ⟨g, 0, none⟩) (sLen + m) sCap) (w.setRow g (cur.toList.take (sLen * i.size) ++ news ++ cur.toList.drop (sLen * i.size + news.length)).toArray) := by
  have hf := run_firstCells_some (P := P) w i.size m a m c news hl hnews
  have hst := run_storeCells_at (P := P) g (sLen * i.size) tag news 0 cur w hg (by omega) h1
  rw [Nat.add_zero] at hst
  simp [Builtin.append_, run_underlying ht, sizeOf, typeInfo, hi, Builtin.lenOf, hroom, hf, addr_lit, hst]

theorem capOK_len {e : Ty} {n : Nat} (h : capOK e n = true) (hp : 0 < e.size) : n ≤ 17592186044416 ∧ n * e.wid ≤ 140737488355328 := by
  have h1 : n * e.wid ≤ 140737488355328 := of_decide_eq_true h
  have h2 := e.wid_size
  have h3 : n * 8 ≤ n * e.wid := Nat.mul_le_mul_left n (by omega)
  exact ⟨by omega, h1⟩

theorem run_append_mine {tag t ty et : Nat} {i : TypeInfo} {z : Value} {size : Nat} (ht : P.underlying t = some (.slice et)) (hi : P.info? et = some i) (hz : i.zero = some z) (hsize : i.size = size) (hzs : z.cells.size = size)
    {n0 n : Nat} {v : Value} {xs : List Value} (hown : w.ownsRow n0 tag size v n xs) {m c : Nat} {ad : Option Addr} {news : List Value} (hl : news.length = m * size) (hnews : ∀ a, ad = some a → At w a news)
    (had : 0 < m → ∃ a, ad = some a) (h1 : ∀ u ∈ news, u.oneCell' = true) (hlen : n + m ≤ 17592186044416) (hbytes : (n + m) * i.bytes ≤ 140737488355328) (hbase : n0 ≤ w.heap.size) :
    ∃ v' w' tag', (Builtin.append_ #[t, t] ty #[v, .slice ad m c]).run P w = .ok v' w' ∧ w'.ownsRow n0 tag' size v' (n + m) (xs ++ news) ∧ w.grownBy w' (hBlock v) ∧
      (∀ g, hBlock v' = some g → hBlock v = some g ∨ g = w.heap.size) := by
  subst hsize
  have hlb : n + m ≤ 17592186044416 := hlen
  rcases Nat.eq_zero_or_pos m with hm | hm
  · subst hm
    have : news = [] := List.eq_nil_of_length_eq_zero (by simpa using hl)
    subst this
    exact ⟨v, w, tag, run_append_zero ht hi hown ad c, by simpa using hown, ⟨rfl, rfl, rfl, Nat.le_refl _, fun _ _ _ => rfl⟩, fun g hg => .inl hg⟩
  · obtain ⟨a, rfl⟩ := had hm
    have hnews' := hnews a rfl
    have hmax : n + m ≤ maxLen := by simp [maxLen]; omega
    have hxl := hown.1
    have hlen' : (xs ++ news).length = (n + m) * i.size := by rw [List.length_append, hxl, hl, Nat.add_mul]
    have fresh : ∀ old, old < n + m → (w.drew.alloc (.cells (xs.toArray ++ news.toArray ++ Builtin.zeroCells z.cells (grownCap w (n + m) old et - (n + m))) et)).ownsRow n0 et i.size
        (.slice (some ⟨w.heap.size, 0, none⟩) (n + m) (grownCap w (n + m) old et)) (n + m) (xs ++ news) := by
      intro old ho
      have hge := grownCap_ge w (n + m) old et
      refine ⟨hlen', .inr ⟨w.heap.size, _, _, rfl, hbase, allocNew w.drew _, hge, grownCap_le_maxLen w (n + m) old et hmax, ?_, ?_⟩⟩
      · simp only [Array.size_append, List.size_toArray, size_zeroCells, hzs, hxl, hl, ← Nat.add_mul]
        congr 1; omega
      · simp only [Array.toList_append, List.append_assoc]
        rw [← List.append_assoc, ← hlen']
        exact List.take_left
    have grown : ∀ o row, w.grownBy (w.drew.alloc o) row := fun o row => ⟨rfl, rfl, rfl, by simp, fun k hk _ => allocOld w.drew _ k hk⟩
    rcases hown.2 with ⟨rfl, rfl⟩ | ⟨g, cap, cur, rfl, hbg, hg, hnc, hcm, hcs, htake⟩
    · have hx : xs = [] := List.eq_nil_of_length_eq_zero (by simpa using hxl)
      subst hx
      have hb0 : m * i.bytes ≤ 140737488355328 := by simpa using hbytes
      have hr := run_append_nil (P := P) w t ty et i z ht hi hz a m c news hl hnews' hm (by omega) (by omega)
      have hf := fresh 0 (by omega)
      simp only [Nat.zero_add, List.nil_append, Array.empty_append] at hf ⊢
      exact ⟨_, _, et, hr, hf, grown _ _, fun g' hg' => .inr (by simp [hBlock] at hg'; exact hg'.symm)⟩
    · by_cases hroom : n + m ≤ cap
      · have hfit : n * i.size + news.length ≤ cur.size := by rw [hl, hcs, ← Nat.add_mul]; exact Nat.mul_le_mul_right _ hroom
        have hr := run_append_room2 (P := P) (ty := ty) ht hi g n cap cur hg a m c news hl hnews' h1 hroom hfit
        refine ⟨_, _, tag, hr, ⟨hlen', .inr ⟨g, cap, _, rfl, hbg, setRow_heap w g cur _ tag _ hg, hroom, hcm, ?_, ?_⟩⟩, ⟨rfl, rfl, rfl, by simp, fun k _ hk => setRow_other w g k _ (fun e => hk (by simp [hBlock, e]))⟩, fun g' hg' => .inl hg'⟩
        · simp only [List.size_toArray, List.length_append, List.length_take, List.length_drop, Array.length_toList]
          omega
        · rw [htake, ← hlen']
          exact List.take_left
      · have holds : ∀ j u, xs[j]? = some u → w.cell? ((⟨g, 0, none⟩ : Addr).add j) = some u := hown.cells (g := g) rfl
        have hr := run_append_grow (P := P) w t ty et i z ht hi hz ⟨g, 0, none⟩ n cap xs hxl holds a m c news hl hnews' (by omega) (by omega) (growslice_fits (by omega) hbytes)
        exact ⟨_, _, et, hr, fresh cap (by omega), grown _ _, fun g' hg' => .inr (by simp [hBlock] at hg'; exact hg'.symm)⟩

end

section
variable {P : Program} {T : Nat → Option Ty} {G : Tbl} {w w' : World} {σ σ' τ : Store P} {bx bx' : List (Nat × Box)} {H H' : Nat → Value} {n0 N : Nat} {C : Nat → Prop}

theorem constSV_rel {v : Value} {s : SV} (h : constSV v = some s) : SVR σ bx H s v := by
  unfold constSV at h
  split at h <;> simp at h <;> subst h
  · exact relV_int σ _ _
  · exact relV_bool σ _
  · exact relV_str σ _
  · rfl
  · trivial
  · trivial

theorem Rel.opd {st : St} {a : Act} (h : Rel C N n0 σ H st a w) {x : Operand} (hc : ∀ k, x = .tmp k → C k) {s : SV} (hx : opd st x = some s) : SVR σ st.bx H s (a.eval x) := by
  cases x with
  | tmp t => exact h.slot t s hx (hc t rfl)
  | const v => exact constSV_rel hx
  | _ => simp [Lift.opd] at hx

theorem split3 {α : Type} {cur xs r : List α} (h : cur = xs ++ r) {lo hi : Nat} (hl : lo ≤ hi) : cur = xs.take lo ++ (xs.take hi).drop lo ++ (xs.drop hi ++ r) := by
  subst h
  have e1 : xs.take lo = (xs.take hi).take lo := by rw [List.take_take, Nat.min_eq_left hl]
  rw [e1, List.take_append_drop, ← List.append_assoc, List.take_append_drop]

/-- what the contents of data are: cells somewhere, meant by the store -/
theorem data_news {e : Ty} {ys : List e.D} {s : SV} {v : Value} (hh : Holds w σ) (hB : BoxesR σ w n0 bx H) (hd : s.data bx (.slice e) = some ys) (h : SVR σ bx H s v) :
    ∃ ad c news, v = .slice ad ys.length c ∧ EncL σ e ys news ∧ (∀ a, ad = some a → At w a news) ∧ (0 < ys.length → ∃ a, ad = some a) := by
  have hrel := (data_rel hh hB hd h).2
  obtain ⟨ad, cap, h1, h2, h3, h4⟩ := hrel.slice
  have had : 0 < ys.length → ∃ a, ad = some a := fun hp => by obtain ⟨a, c, e1, _⟩ := h4 0 hp; exact ⟨a, e1⟩
  have fromσ : RelV σ ⟨.slice e, ys⟩ v → ∃ ad c news, v = .slice ad ys.length c ∧ EncL σ e ys news ∧ (∀ a, ad = some a → At w a news) ∧ (0 < ys.length → ∃ a, ad = some a) := by
    intro hr
    obtain ⟨ad, cap, h1, h2, h3, h4⟩ := hr.slice
    obtain ⟨cs, g1, g2⟩ := EncL.ofSlice ys ad h4
    exact ⟨ad, cap, cs, h1, g1, fun a ha => (g2 a ha).at hh, fun hp => by obtain ⟨a, c, e1, _⟩ := h4 0 hp; exact ⟨a, e1⟩⟩
  have fromBox : ∀ (t : Ty) (l : List t.D) (u : Value), BoxR σ w n0 (.vec t l) u → ∀ lo hi, lo ≤ hi → hi ≤ l.length → (⟨.slice t, tail l lo hi⟩ : TD) = ⟨.slice e, ys⟩ → v = viewV u lo hi t.size →
      ∃ ad c news, v = .slice ad ys.length c ∧ EncL σ e ys news ∧ (∀ a, ad = some a → At w a news) ∧ (0 < ys.length → ∃ a, ad = some a) := by
    intro t l u hb lo hi hlo hhi heq hv
    obtain ⟨ety, xs, hown, henc, _⟩ := hb
    simp only [TD.mk.injEq, Ty.slice.injEq] at heq
    obtain ⟨rfl, heq⟩ := heq
    have heq := eq_of_heq heq
    subst heq
    have hlen : (tail l lo hi).length = hi - lo := by simp [tail]; omega
    have hE1 := (henc.take hi l xs hhi).1
    have hE2 := (hE1.take lo (l.take hi) _ (by simp; omega)).2
    refine ⟨ad, cap, _, h1, hE2, ?_, had⟩
    intro a ha
    subst ha
    rcases Nat.eq_zero_or_pos (hi - lo) with hz | hp
    · intro j x hx
      have := (List.getElem?_eq_some_iff.1 hx).1
      simp only [List.length_drop, List.length_take, hown.1] at this
      have e0 : hi = lo := by omega
      subst e0
      omega
    · obtain ⟨g, cap', cur, k1, k2, k3, k4, k5, _⟩ := ownsRow_inv hown (by omega)
      subst k1
      have hne : ¬ cap' = lo := by omega
      simp only [viewV, hne, if_false, Option.map_some, addr_lit, Nat.zero_add] at hv
      rw [h1] at hv
      simp only [Value.slice.injEq, Option.some.injEq] at hv
      rw [hv.1]
      have h0 := (List.take_append_drop (l.length * t.size) cur.toList).symm
      rw [k5] at h0
      have hle : lo * t.size ≤ hi * t.size := Nat.mul_le_mul_right _ hlo
      have hle' : hi * t.size ≤ l.length * t.size := Nat.mul_le_mul_right _ hhi
      exact at_row k2 (split3 h0 hle) (by rw [List.length_take, hown.1]; exact Nat.min_eq_left (Nat.le_trans hle hle'))
  cases s with
  | tv d =>
    have := TD.as_eq hd; subst this
    exact fromσ h
  | nils =>
    have hv : v = .slice none 0 0 := h
    simp [SV.data, nilD] at hd
    subst hd
    exact fromσ (by rw [hv]; exact relV_nil _ _)
  | ref b =>
    obtain ⟨t, l, g1, g2⟩ := h
    simp only [SV.data, g1] at hd
    have heq := TD.as_eq hd
    obtain ⟨ad', cap', q1, q2, _⟩ := RelV.slice (box_slice hh (hB b _ g1))
    refine fromBox t l (H b) (hB b _ g1) 0 l.length (Nat.zero_le _) (Nat.le_refl _) (by simpa [tail] using heq) ?_
    rw [g2, q1]
    cases ad' <;> simp [viewV, addr_add_zero]
  | view b lo hi =>
    obtain ⟨t, l, g1, g2, g3, g4⟩ := h
    simp only [SV.data, g1] at hd
    exact fromBox t l (H b) (hB b _ g1) lo hi g2 g3 (TD.as_eq hd) g4
  | _ => simp [SV.data, cptrD] at hd

end
end Go.Lift
