/- A part of the proof that the law returns true for every input: no condition. -/
import Derived.Calls
import Derived.KernelRfl
namespace Go.Lift

/-! Typed data -/
inductive Ty where
  | int (k : IntKind) | bool | str | slice (e : Ty) | nil | cons (a b : Ty)
  deriving DecidableEq

@[reducible] def Ty.D : Ty → Type
  | .int _ => Int
  | .bool => Bool
  | .str => ByteArray
  | .slice e => List e.D
  | .nil => Unit
  | .cons a b => a.D × b.D

def Ty.size : Ty → Nat
  | .nil => 0
  | .cons a b => a.size + b.size
  | _ => 1

def Ty.zero : (t : Ty) → t.D
  | .int _ => (0 : Int)
  | .bool => false
  | .str => ByteArray.empty
  | .slice _ => []
  | .nil => ()
  | .cons a b => (a.zero, b.zero)

def Ty.isAgg : Ty → Bool
  | .nil | .cons _ _ => true
  | _ => false

def Ty.isArr : Ty → Bool
  | .cons .nil _ => true
  | _ => false

/-- no slice inside -/
def Ty.flat : Ty → Bool
  | .slice _ => false
  | .cons a b => a.flat && b.flat
  | _ => true

def Ty.dep : Ty → Nat
  | .cons a b => max (a.dep + 1) b.dep
  | _ => 0

/-- comparable: no slice, no array -/
def Ty.eqable : Ty → Bool
  | .slice _ => false
  | .cons .nil _ => false
  | .cons a b => a.eqable && b.eqable
  | _ => true

structure TD where
  t : Ty
  x : t.D

def TD.as (d : TD) (t : Ty) : Option t.D :=
  if h : d.t = t then some (h ▸ d.x) else none

def getFld : (t : Ty) → t.D → Nat → Option TD
  | .cons a _, x, 0 => some ⟨a, x.1⟩
  | .cons _ b, x, n + 1 => getFld b x.2 n
  | _, _, _ => none

def setFld : (t : Ty) → t.D → Nat → TD → Option t.D
  | .cons a _, x, 0, v => (v.as a).map fun y => (y, x.2)
  | .cons _ b, x, n + 1, v => (setFld b x.2 n v).map fun y => (x.1, y)
  | _, _, _, _ => none

def getPath (d : TD) : List Nat → Option TD
  | [] => some d
  | i :: r => (getFld d.t d.x i).bind fun d' => getPath d' r

def setPath (d : TD) : List Nat → TD → Option d.t.D
  | [], v => v.as d.t
  | i :: r, v => (getFld d.t d.x i).bind fun d' => (setPath d' r v).bind fun y => setFld d.t d.x i ⟨d'.t, y⟩

inductive SV where
  | tv (d : TD)
  | nils
  | ref (b : Nat)
  | view (b lo hi : Nat)
  | ptr (b : Nat) (ix : Option Nat) (path : List Nat)
  | cptr (d : TD)
  | own (t : Ty) (l : List t.D)
  | tup (l : List SV)
  | gone

inductive Box where
  | var (d : TD)
  | vec (t : Ty) (l : List t.D)

structure St where
  sl : List (Nat × SV)
  bx : List (Nat × Box)

def look {α : Type} (k : Nat) : List (Nat × α) → Option α
  | [] => none
  | (j, v) :: r => bif Nat.beq j k then some v else look k r

def ins {α : Type} (k : Nat) (v : α) : List (Nat × α) → List (Nat × α)
  | [] => [(k, v)]
  | (j, u) :: r => bif Nat.beq j k then (k, v) :: r else bif Nat.blt k j then (k, v) :: (j, u) :: r else (j, u) :: ins k v r

def del {α : Type} (k : Nat) : List (Nat × α) → List (Nat × α)
  | [] => []
  | (j, u) :: r => bif Nat.beq j k then del k r else (j, u) :: del k r

def SV.mentions1 (b : Nat) : SV → Bool
  | .ref c | .view c _ _ | .ptr c _ _ => Nat.beq c b
  | .tup _ => true
  | _ => false

def SV.mentions (b : Nat) : SV → Bool
  | .tup l => l.any (SV.mentions1 b)
  | x => x.mentions1 b

def mapS {α β : Type} (f : α → β) : List (Nat × α) → List (Nat × β)
  | [] => []
  | (j, u) :: r => (j, f u) :: mapS f r

def SV.dead (b : Nat) (u : SV) : SV := bif u.mentions b then .gone else u

def St.kill (st : St) (b : Nat) : St := ⟨mapS (SV.dead b) st.sl, del b st.bx⟩

def SV.ren1 (b d : Nat) : SV → SV
  | .ref c => bif Nat.beq c b then .ref d else .ref c
  | .view c lo hi => bif Nat.beq c b then .view d lo hi else .view c lo hi
  | .ptr c i p => bif Nat.beq c b then .ptr d i p else .ptr c i p
  | x => x

def SV.ren (b d : Nat) : SV → SV
  | .tup l => .tup (l.map (SV.ren1 b d))
  | x => x.ren1 b d

def tail {α : Type} (l : List α) (lo hi : Nat) : List α := (l.take hi).drop lo

def SV.froz1 (b : Nat) (t : Ty) (l : List t.D) : SV → SV
  | .ref c => bif Nat.beq c b then .tv ⟨.slice t, l⟩ else .ref c
  | .view c lo hi => bif Nat.beq c b then .tv ⟨.slice t, tail l lo hi⟩ else .view c lo hi
  | .ptr c (some i) p => bif Nat.beq c b then (match getPath ⟨t, l.getD i t.zero⟩ p with | some d => .cptr d | none => .gone) else .ptr c (some i) p
  | x => x

/-- the contents of a vector box become data -/
def SV.froz (b : Nat) (t : Ty) (l : List t.D) : SV → SV
  | .tup l' => .tup (l'.map (SV.froz1 b t l))
  | x => x.froz1 b t l

def St.freeze (st : St) (b : Nat) : St :=
  match look b st.bx with
  | some (.vec t l) => ⟨mapS (SV.froz b t l) st.sl, del b st.bx⟩
  | _ => st

def constSV : Value → Option SV
  | .int k n => some (.tv ⟨.int k, n⟩)
  | .bool b => some (.tv ⟨.bool, b⟩)
  | .string s => some (.tv ⟨.str, s⟩)
  | .slice none 0 0 => some .nils
  | _ => none

def opd (st : St) : Operand → Option SV
  | .tmp t => look t st.sl
  | .const v => constSV v
  | _ => none

def nilD : (t : Ty) → Option t.D
  | .slice _ => some []
  | _ => none

/-- an operand as data of type t -/
def SV.data (bx : List (Nat × Box)) (t : Ty) : SV → Option t.D
  | .tv d => d.as t
  | .nils => nilD t
  | .ref b => (match look b bx with | some (.vec e l) => TD.as ⟨.slice e, l⟩ t | _ => none)
  | .view b lo hi => (match look b bx with | some (.vec e l) => TD.as ⟨.slice e, tail l lo hi⟩ t | _ => none)
  | _ => none

def SV.int : SV → Option (IntKind × Int)
  | .tv ⟨.int k, n⟩ => some (k, n)
  | _ => none

def SV.boolean : SV → Option Bool
  | .tv ⟨.bool, b⟩ => some b
  | _ => none

def lenBound : Nat := 68719476736
def lenOK (n : Nat) : Bool := decide (n ≤ lenBound)

inductive BitOp where
  | and | or | xor | andNot

def bitI (op : BitOp) (k : IntKind) (x y : Int) : Int :=
  let a := BitVec.ofInt k.bits x
  let b := BitVec.ofInt k.bits y
  match op with
  | .and => k.wrap (a &&& b).toNat
  | .or => k.wrap (a ||| b).toNat
  | .xor => k.wrap (a ^^^ b).toNat
  | .andNot => k.wrap (a &&& ~~~b).toNat

def shiftOp (op : BinOp) (k : IntKind) (a b : Int) : Option (Bool × TD) :=
  match op with
  | .shl => some (decide (0 ≤ b), ⟨.int k, k.wrap (a * 2 ^ (min b.toNat k.bits))⟩)
  | .shr => some (decide (0 ≤ b), ⟨.int k, a.fdiv (2 ^ (min b.toNat k.bits))⟩)
  | _ => none

def intOp (op : BinOp) (k : IntKind) (a b : Int) : Option (Bool × TD) :=
  match op with
  | .add => some (true, ⟨.int k, k.wrap (a + b)⟩)
  | .sub => some (true, ⟨.int k, k.wrap (a - b)⟩)
  | .mul => some (true, ⟨.int k, k.wrap (a * b)⟩)
  | .quo => some (!(b == 0), ⟨.int k, k.wrap (a.tdiv b)⟩)
  | .rem => some (!(b == 0), ⟨.int k, a.tmod b⟩)
  | .eql => some (true, ⟨.bool, a == b⟩)
  | .neq => some (true, ⟨.bool, a != b⟩)
  | .lss => some (true, ⟨.bool, decide (a < b)⟩)
  | .leq => some (true, ⟨.bool, decide (a ≤ b)⟩)
  | .gtr => some (true, ⟨.bool, decide (a > b)⟩)
  | .geq => some (true, ⟨.bool, decide (a ≥ b)⟩)
  | .and => some (true, ⟨.int k, bitI .and k a b⟩)
  | .or => some (true, ⟨.int k, bitI .or k a b⟩)
  | .xor => some (true, ⟨.int k, bitI .xor k a b⟩)
  | .andNot => some (true, ⟨.int k, bitI .andNot k a b⟩)
  | _ => none

end Go.Lift
namespace Go.Lift

/-- equality of data without slices, field by field -/
def eqD : (t : Ty) → t.D → t.D → Bool
  | .int _, x, y => (show Int from x) == (show Int from y)
  | .bool, x, y => (show Bool from x) == (show Bool from y)
  | .str, x, y => (show ByteArray from x) == (show ByteArray from y)
  | .slice _, _, _ => false
  | .nil, _, _ => true
  | .cons a b, x, y => eqD a x.1 y.1 && eqD b x.2 y.2

def tblGet {α : Type} (l : List (Nat × α)) (k : Nat) : Option α := look k l

abbrev RV := SV
abbrev Tbl := Nat → List TD → Option (Bool × RV)

def SV.flatR : SV → Bool
  | .tv d => d.t.flat
  | .tup l => l.all fun | .tv d => d.t.flat | _ => false
  | _ => false

def SV.plainR : SV → Bool
  | .tv _ => true
  | .tup l => l.all fun | .tv _ => true | _ => false
  | _ => false

def SV.isRef : SV → Bool
  | .ref _ | .view _ _ _ => true
  | _ => false

def argsTD (T : Nat → Option Ty) (bx : List (Nat × Box)) : List Nat → List SV → Option (List TD)
  | [], [] => some []
  | t :: ts, v :: vs => (T t).bind fun u => (v.data bx u).bind fun x => (argsTD T bx ts vs).bind fun r => some (⟨u, x⟩ :: r)
  | _, _ => none

def mapO {α β : Type} (f : α → Option β) : List α → Option (List β)
  | [] => some []
  | a :: r => (f a).bind fun b => (mapO f r).bind fun s => some (b :: s)

def maxI : List Int → Int → Int
  | [], a => a
  | b :: r, a => maxI r (if b > a then b else a)
def minI : List Int → Int → Int
  | [], a => a
  | b :: r, a => minI r (if b < a then b else a)

def ints (k : IntKind) : List SV → Option (List Int)
  | [] => some []
  | v :: r => match v.int with
    | some (k', n) => bif decide (k' = k) then (ints k r).bind fun s => some (n :: s) else none
    | none => none

def callVal (G : Tbl) (T : Nat → Option Ty) (bx : List (Nat × Box)) (ρ : Operand → Option SV) (c : Call) : Option (Bool × SV) :=
  match c.callee with
  | .value (.func f) =>
    (mapO ρ c.args.toList).bind fun svs => (argsTD T bx c.argTypes.toList svs).bind fun tds => (G f tds).bind fun r =>
      bif (if svs.any SV.isRef then r.2.flatR else r.2.plainR) then some r else none
  | .builtin .len =>
    match c.args.toList, c.argTypes.toList with
    | [x], [t] => (T t).bind fun
      | .slice _ => (ρ x).bind fun
        | .tv ⟨.slice _, l⟩ => some (true, .tv ⟨.int .i64, (l.length : Int)⟩)
        | .nils => some (true, .tv ⟨.int .i64, (0 : Int)⟩)
        | .ref b => (match look b bx with | some (.vec _ l) => some (true, .tv ⟨.int .i64, (l.length : Int)⟩) | _ => none)
        | .view _ lo hi => some (true, .tv ⟨.int .i64, ((hi - lo : Nat) : Int)⟩)
        | _ => none
      | .str => (ρ x).bind fun
        | .tv ⟨.str, s⟩ => some (true, .tv ⟨.int .i64, (s.size : Int)⟩)
        | _ => none
      | _ => none
    | _, _ => none
  | .builtin .max =>
    (mapO ρ c.args.toList).bind fun | v :: vs => (match v.int with | some (k, n) => (ints k vs).bind fun l => some (true, .tv ⟨.int k, maxI l n⟩) | none => none) | [] => none
  | .builtin .min =>
    (mapO ρ c.args.toList).bind fun | v :: vs => (match v.int with | some (k, n) => (ints k vs).bind fun l => some (true, .tv ⟨.int k, minI l n⟩) | none => none) | [] => none
  | _ => none

def inB (i : Int) (n : Nat) : Bool := decide (0 ≤ i) && decide (i < n)

def sliceOp (bx : List (Nat × Box)) (e : Ty) (x : SV) (lo hi : Option Int) : Option (Bool × SV) :=
  match x with
  | .tv d => (d.as (.slice e)).map fun l =>
    let h : Int := hi.getD (l.length : Int)
    let o : Int := lo.getD 0
    (decide (0 ≤ o) && decide (o ≤ h) && decide (h ≤ l.length), .tv ⟨.slice e, tail l o.toNat h.toNat⟩)
  | .ref b => match look b bx with
    | some (.vec t l) => bif decide (t = e) then
      let h : Int := hi.getD (l.length : Int)
      let o : Int := lo.getD 0
      some (decide (0 ≤ o) && decide (o ≤ h) && decide (h ≤ l.length), .view b o.toNat h.toNat) else none
    | _ => none
  | _ => none

def optI (ρ : Operand → Option SV) : Option Operand → Option (Option Int)
  | none => some none
  | some l => (ρ l).bind fun l => l.int.map fun (kn : IntKind × Int) => some kn.2

def opVal (G : Tbl) (T : Nat → Option Ty) (bx : List (Nat × Box)) (ρ : Operand → Option SV) (o : Oper) : Option (Bool × SV) :=
  match o.op with
  | .move x => (ρ x).map fun v => (true, v)
  | .assign x => (ρ x).bind fun
    | .tv d => some (true, .tv d)
    | .cptr d => some (true, .cptr d)
    | .ptr b ix p => some (true, .ptr b ix p)
    | _ => none
  | .pick c a b => (ρ c).bind fun c => c.boolean.bind fun cb => (ρ a).bind fun a => a.boolean.bind fun x => (ρ b).bind fun b => b.boolean.bind fun y =>
      some (true, .tv ⟨.bool, bif cb then x else y⟩)
  | .load ty a => (T ty).bind fun t => (ρ a).bind fun
    | .cptr d => (d.as t).map fun x => (true, .tv ⟨t, x⟩)
    | .ptr b ix p =>
      (match look b bx, ix with
        | some (.var d), none => (getPath d p).bind fun d' => (d'.as t).map fun x => (true, .tv ⟨t, x⟩)
        | some (.vec e l), some i => (getPath ⟨e, l.getD i e.zero⟩ p).bind fun d' => (d'.as t).map fun x => (true, .tv ⟨t, x⟩)
        | _, _ => none)
    | _ => none
  | .binOp op xt x y _ => (ρ x).bind fun x => (ρ y).bind fun y =>
    match x, y with
    | .tv ⟨.int k, a⟩, .tv ⟨.int k', b⟩ => (match shiftOp op k a b with
      | some r => some (r.1, .tv r.2)
      | none => bif decide (k = k') then (intOp op k a b).map fun r => (r.1, .tv r.2) else none)
    | .tv ⟨.bool, a⟩, .tv ⟨.bool, b⟩ => (T xt).bind fun z => bif decide (z = .bool) then
        (match op with | .eql => some (true, .tv ⟨.bool, a == b⟩) | .neq => some (true, .tv ⟨.bool, !(a == b)⟩) | _ => none) else none
    | .tv ⟨.str, a⟩, .tv ⟨.str, b⟩ => (match op with | .eql => some (true, .tv ⟨.bool, a == b⟩) | .neq => some (true, .tv ⟨.bool, !(a == b)⟩) | _ => none)
    | .tv ⟨.cons t u, a⟩, .tv d => (T xt).bind fun z => bif decide (z = .cons t u) && (Ty.cons t u).eqable && Nat.blt (Ty.cons t u).dep 1000 then (d.as (.cons t u)).bind fun b =>
        (match op with | .eql => some (true, .tv ⟨.bool, eqD (.cons t u) a b⟩) | .neq => some (true, .tv ⟨.bool, !eqD (.cons t u) a b⟩) | _ => none) else none
    | _, _ => none
  | .unOp op _ x => (ρ x).bind fun x =>
    match op, x with
    | .not, .tv ⟨.bool, b⟩ => some (true, .tv ⟨.bool, !b⟩)
    | .neg, .tv ⟨.int k, n⟩ => some (true, .tv ⟨.int k, k.wrap (0 - n)⟩)
    | .xor, .tv ⟨.int k, n⟩ => some (true, .tv ⟨.int k, bitI .xor k (if k.signed then -1 else k.max) n⟩)
    | _, _ => none
  | .convert src dst x => (ρ x).bind fun x => (T src).bind fun _ => (T dst).bind fun
    | .int k => (match x with | .tv ⟨.int _, n⟩ => some (true, .tv ⟨.int k, k.wrap n⟩) | _ => none)
    | _ => none
  | .fieldAddr s x f => (T s).bind fun t => (bif !t.isArr then (ρ x).bind fun
    | .cptr d => (d.as t).bind fun x => (getFld t x f).bind fun d' => bif Nat.beq d'.t.size 0 then none else some (true, .cptr d')
    | .ptr b ix p =>
      (match look b bx, ix with
        | some (.var d), none => (getPath d p).bind fun d' => (d'.as t).bind fun x => (getFld t x f).bind fun d'' => bif Nat.beq d''.t.size 0 then none else some (true, .ptr b none (p ++ [f]))
        | some (.vec e l), some i => (getPath ⟨e, l.getD i e.zero⟩ p).bind fun d' => (d'.as t).bind fun x => (getFld t x f).bind fun d'' => bif Nat.beq d''.t.size 0 then none else some (true, .ptr b ix (p ++ [f]))
        | _, _ => none)
    | _ => none else none)
  | .field xt x f => (T xt).bind fun t => (ρ x).bind fun
    | .tv d => bif !t.isArr then (d.as t).bind fun x => (getFld t x f).map fun d' => (true, .tv d') else none
    | _ => none
  | .indexAddr t x i => (T t).bind fun
    | .slice e => (ρ i).bind fun i => i.int.bind fun ki => let i := ki.2; (ρ x).bind fun
      | .tv d => (d.as (.slice e)).map fun l => (inB i l.length, .cptr ⟨e, l.getD i.toNat e.zero⟩)
      | .ref b => (match look b bx with | some (.vec e' l) => bif decide (e' = e) then some (inB i l.length, .ptr b (some i.toNat) []) else none | _ => none)
      | .view b lo hi => (match look b bx with | some (.vec e' _) => bif decide (e' = e) then some (inB i (hi - lo), .ptr b (some (lo + i.toNat)) []) else none | _ => none)
      | _ => none
    | _ => none
  | .index xt x i => (T xt).bind fun
    | .str => (ρ i).bind fun i => i.int.bind fun ki => let i := ki.2; (ρ x).bind fun
      | .tv ⟨.str, s⟩ => some (inB i s.size, .tv ⟨.int .u8, ((s.get! i.toNat).toNat : Int)⟩)
      | _ => none
    | .cons a b => (match i with
      | .const (.int _ n) => (ρ x).bind fun
        | .tv d => bif decide (0 ≤ n) then (d.as (.cons a b)).bind fun x => (match a with | .nil => (getFld b x.2 n.toNat).map fun d' => (true, .tv d') | _ => none) else none
        | _ => none
      | _ => none)
    | _ => none
  | .slice t x lo hi none => (T t).bind fun
    | .slice e => (ρ x).bind fun x => (optI ρ lo).bind fun lo' => (optI ρ hi).bind fun hi' => sliceOp bx e x lo' hi'
    | _ => none
  | .extract t i => (ρ t).bind fun | .tup l => (l[i]?).map fun v => (true, v) | _ => none
  | .build t parts => (T t).bind fun ty => bif ty.isAgg && !ty.isArr then buildV ty ty.zero parts.toList else none
  | .call c => callVal G T bx ρ c
  | _ => none
where
  buildV (ty : Ty) (x : ty.D) : List (Nat × Operand) → Option (Bool × SV)
    | [] => some (true, .tv ⟨ty, x⟩)
    | (i, v) :: r => (getFld ty ty.zero i).bind fun d => (ρ v).bind fun sv => (match sv with
        | .tv d' => some d'
        | .nils => (SV.nils.data bx d.t).map fun y => TD.mk d.t y
        | _ => none).bind fun d' => (setFld ty x i d').bind fun x' => buildV ty x' r

def freezeOps (st : St) : List Operand → St
  | [] => st
  | x :: r => match opd st x with
    | some (.ref b) | some (.view b _ _) => freezeOps (st.freeze b) r
    | _ => freezeOps st r

def St.put (st : St) (dst : Option Nat) (v : SV) : St :=
  match dst with
  | some d => ⟨ins d v st.sl, st.bx⟩
  | none => st

def St.unput (st : St) (dst : Option Nat) : St :=
  match dst with
  | some d => ⟨del d st.sl, st.bx⟩
  | none => st

def St.newBox (st : St) (d : Nat) (b : Box) (v : SV) : St :=
  let st' := st.kill d
  ⟨ins d v st'.sl, ins d b st'.bx⟩

def St.rename (st : St) (b d : Nat) : St :=
  bif Nat.beq b d then st else
  match look b st.bx with
  | some x => let st' := (st.kill d); ⟨mapS (SV.ren b d) st'.sl, ins d x (del b st'.bx)⟩
  | none => st

def fillV (e : Ty) (bx : List (Nat × Box)) (st : St) (l : List e.D) : List (Nat × Operand) → Option (List e.D)
  | [] => some l
  | (i, v) :: r => (opd st v).bind fun sv => (bif sv.isRef then none else sv.data bx e).bind fun y => bif Nat.blt i l.length then fillV e bx st (l.set i y) r else none

def zeros (e : Ty) (n : Nat) : List e.D := List.replicate n e.zero

def installs (d : Nat) (st : St) (done : List SV) : Nat → List SV → St × List SV
  | _, [] => (st, done)
  | i, .own t l :: r => let k := 1000 + 100 * d + i; let st' := st.kill k; installs d ⟨st'.sl, ins k (.vec t l) st'.bx⟩ (done ++ [.ref k]) (i + 1) r
  | i, v :: r => installs d st (done ++ [v]) (i + 1) r

def install (st : St) (d : Nat) : SV → St
  | .own t l => st.newBox d (.vec t l) (.ref d)
  | .tup l => let r := installs d st [] 0 l; ⟨ins d (.tup r.2) r.1.sl, r.1.bx⟩
  | v => ⟨ins d v st.sl, st.bx⟩

def opEff (G : Tbl) (T : Nat → Option Ty) (o : Oper) (st : St) : Option (Bool × St) :=
  match o.op, o.dst with
  | .assign x, some d => (opd st x).bind fun
    | .ref b => let st' := st.rename b d; some (true, ⟨ins d (.ref d) st'.sl, st'.bx⟩)
    | .nils => (T o.type).bind fun | .slice e => some (true, st.newBox d (.vec e []) (.ref d)) | _ => none
    | _ => none
  | .alloc t, some d => (T t).map fun ty => (true, st.newBox d (.var ⟨ty, ty.zero⟩) (.ptr d none []))
  | .box t x, some d => (T t).bind fun ty => let st1 := freezeOps st [x]; (opd st1 x).bind fun sv => (bif sv.isRef then none else sv.data st1.bx ty).map fun y => (true, st1.newBox d (.var ⟨ty, y⟩) (.ptr d none []))
  | .build .., some d => let st1 := freezeOps st o.op.operands.toList
      (opVal G T st1.bx (opd st1) o).map fun r => (r.1, st1.put (some d) r.2)
  | .buildSlice t len parts, some d => (T t).bind fun
    | .slice e => bif Nat.ble (len * e.size) 16777216 then let st1 := freezeOps st o.op.operands.toList
      (fillV e st1.bx st1 (zeros e len) parts.toList).map fun l => (true, st1.newBox d (.vec e l) (.ref d)) else none
    | _ => none
  | .makeSlice t n c, some d => (T t).bind fun
    | .slice e => (opd st n).bind fun n => n.int.bind fun kn => let n := kn.2; (opd st c).bind fun c => c.int.bind fun kc => let c := kc.2;
      some (decide (0 ≤ n) && decide (n ≤ c) && lenOK c.toNat, st.newBox d (.vec e (zeros e n.toNat)) (.ref d))
    | _ => none
  | .store t a v, none => (T t).bind fun ty => let st1 := freezeOps st [v]
    (opd st1 v).bind fun sv => (bif sv.isRef then none else sv.data st1.bx ty).bind fun y => (opd st1 a).bind fun
      | .ptr b none p => (match look b st1.bx with
        | some (.var d) => (setPath d p ⟨ty, y⟩).map fun x => (true, ⟨st1.sl, ins b (.var ⟨d.t, x⟩) st1.bx⟩)
        | _ => none)
      | .ptr b (some i) p => (match look b st1.bx with
        | some (.vec e l) => (setPath ⟨e, l.getD i e.zero⟩ p ⟨ty, y⟩).map fun x => (true, ⟨st1.sl, ins b (.vec e (l.set i x)) st1.bx⟩)
        | _ => none)
      | _ => none
  | .call c, some d =>
    (match c.callee with
    | .value (.func f) =>
      let st1 := freezeOps st c.args.toList
      (mapO (opd st1) c.args.toList).bind fun svs => (bif svs.any SV.isRef then none else argsTD T st1.bx c.argTypes.toList svs).bind fun tds => (G f tds).map fun r => (r.1, install st1 d r.2)
    | .builtin .append =>
      (match c.args.toList, c.argTypes.toList with
      | [x, y], [t, t'] => (bif Nat.beq t t' then T t else none).bind fun
        | .slice e => (opd st y).bind fun y => (y.data st.bx (.slice e)).bind fun ys => (opd st x).bind fun
          | .nils => some (lenOK ys.length, st.newBox d (.vec e ys) (.ref d))
          | .ref b => (match look b st.bx with
            | some (.vec e' l) => (TD.as ⟨.slice e', l⟩ (.slice e)).map fun l => (lenOK (l.length + ys.length), (st.kill b).newBox d (.vec e (l ++ ys)) (.ref d))
            | _ => none)
          | .view b lo hi => (match look b st.bx with
            | some (.vec e' l) => (TD.as ⟨.slice e', l⟩ (.slice e)).map fun l => (decide (lo = 0) && lenOK (hi + ys.length), (st.kill b).newBox d (.vec e (l.take hi ++ ys)) (.ref d))
            | _ => none)
          | _ => none
        | _ => none
      | _, _ => none)
    | _ => none)
  | _, _ => none

inductive Leaf where
  | fail
  | ret (v : SV)
  | loop (body : Code) (k : List Item) (st : St)
  | more (todo : List Item) (st : St)

def opStep (G : Tbl) (T : Nat → Option Ty) (o : Oper) (st : St) : Option (Bool × St) :=
  match opVal G T st.bx (opd st) o with
  | some (c, v) => some (c, st.put o.dst v)
  | none => opEff G T o st

def guardVal (all : List Oper) (st : St) : Nat → Nat × Bool → Option Bool
  | 0, _ => none
  | n + 1, (m, w) => (all[m]?).bind fun o => o.dst.bind fun d => (look d st.sl).bind fun v => v.boolean.bind fun b =>
      match o.guard with
      | none => some (bif w then b else !b)
      | some g => (guardVal all st n g).map fun r => r && (bif w then b else !b)

def setLit (all : List Oper) (m : Nat) (w : Bool) (st : St) : St :=
  match all[m]? with
  | some { guard := none, dst := some d, .. } => ⟨ins d (.tv ⟨.bool, w⟩) st.sl, st.bx⟩
  | _ => st

def hasEdge (o : Oper) (j : Nat) : Bool := o.after.toList.any fun e => Nat.beq e.on j && Region.binds .any e

/-- operation i waits for all that stand before it -/
def domin (all : List Oper) (i : Nat) (o : Oper) : Bool :=
  (List.range i).all fun j => hasEdge o j || (List.range i).any fun k => Nat.blt j k && (match all[k]? with | some p => hasEdge p j | none => false)

def tailGo (all : List Oper) : Nat → List Oper → Bool
  | _, [] => true
  | i, o :: r => domin all i o && tailGo all (i + 1) r

def tailOK (all : List Oper) (i : Nat) : Bool := tailGo all i (all.drop i)

def execR (G : Tbl) (T : Nat → Option Ty) (ro : Bool) (all : List Oper) : List Oper → St → (St → Leaf) → Leaf
  | [], st, k => k st
  | o :: r, st, k =>
    match o.guard with
    | none =>
      (match (bif ro then (opVal G T st.bx (opd st) o).map fun x => (x.1, st.put o.dst x.2) else opStep G T o st) with
      | some (c, st') => bif c then execR G T ro all r st' k else .fail
      | none => bif ro && tailOK all (all.length - (r.length + 1)) then (match opStep G T o st with
        | some (c, st') => bif c then execR G T false all r st' k else .fail
        | none => .fail) else .fail)
    | some (m, w) =>
      match guardVal all st all.length (m, w) with
      | none => .fail
      | some g =>
        match opVal G T st.bx (opd st) o with
        | some (c, v) => bif (c || !g) then execR G T ro all r (st.put o.dst v) k else .fail
        | none => bif !ro || tailOK all (all.length - (r.length + 1)) then
          bif g then (match opEff G T o (setLit all m w st) with
            | some (c, st') => bif c then execR G T false all r st' k else .fail
            | none => .fail)
          else execR G T false all r ((setLit all m (!w) st).unput o.dst) k else .fail

def unguard : List Oper → St → St
  | [], st => st
  | o :: r, st => match o.guard with
    | none => unguard r st
    | some _ => unguard r (st.unput o.dst)

def tmpsOf (o : Oper) : List Nat := o.op.operands.toList.filterMap fun | .tmp t => some t | _ => none

/-- the guarded operations: slot, place, guard -/
def gds : Nat → List Oper → List (Nat × Nat × Nat × Bool)
  | _, [] => []
  | i, o :: r => match o.guard, o.dst with
    | some g, some d => (d, i, g) :: gds (i + 1) r
    | _, _ => gds (i + 1) r

def implG (all : List Oper) : Nat → Option (Nat × Bool) → Nat × Bool → Bool
  | 0, _, _ => false
  | _ + 1, none, _ => false
  | n + 1, some (m, w), g => (Nat.beq m g.1 && (w == g.2)) || (match all[m]? with | some o => implG all n o.guard g | none => false)

def okRead (all : List Oper) (gs : List (Nat × Nat × Nat × Bool)) (i : Nat) (o : Oper) (t : Nat) : Bool :=
  gs.all fun x => !Nat.beq x.1 t || (Nat.blt x.2.1 i && implG all all.length o.guard x.2.2)

def okPick (all : List Oper) (gs : List (Nat × Nat × Nat × Bool)) (i : Nat) (o : Oper) (c : Nat) (w : Bool) (t : Nat) : Bool :=
  gs.all fun x => !Nat.beq x.1 t || (Nat.blt x.2.1 i && (implG all all.length o.guard x.2.2 || ((x.2.2.2 == w) && (match all[x.2.2.1]? with | some om => (match om.dst with | some d => Nat.beq d c | none => false) | none => false))))

def okOper (all : List Oper) (gs : List (Nat × Nat × Nat × Bool)) (i : Nat) (o : Oper) : Bool :=
  (match o.guard with
    | none => true
    | some (m, _) => o.dst.isSome && Nat.blt m i && (match all[m]? with | some om => om.dst.isSome | none => false)) &&
  (match o.op with
    | .pick c a b => (match c with
      | .tmp c => okRead all gs i o c && (match a with | .tmp t => okPick all gs i o c true t | _ => true) && (match b with | .tmp t => okPick all gs i o c false t | _ => true)
      | _ => (tmpsOf o).all (okRead all gs i o))
    | _ => (tmpsOf o).all (okRead all gs i o))

def okOpers (all : List Oper) (gs : List (Nat × Nat × Nat × Bool)) : Nat → List Oper → Bool
  | _, [] => true
  | i, o :: r => okOper all gs i o && okOpers all gs (i + 1) r

def distinctB : List Nat → Bool
  | [] => true
  | a :: r => !(r.any (Nat.beq a)) && distinctB r

def guardsOK (N : Nat) (all : List Oper) : Bool :=
  okOpers all (gds 0 all) 0 all && distinctB (all.filterMap (·.dst)) && all.all fun o => match o.dst with | some d => Nat.blt d N | none => true

def dsi : Nat → List Oper → List (Nat × Nat × Oper)
  | _, [] => []
  | i, o :: r => match o.dst with
    | some d => (d, i, o) :: dsi (i + 1) r
    | none => dsi (i + 1) r

def looksOf (all : List Oper) (o : Oper) : List Nat :=
  tmpsOf o ++ (match o.guard with
    | some (m, _) => (match all[m]? with | some om => om.dst.toList | none => [])
    | none => [])

def drawOper (all : List Oper) (ds : List (Nat × Nat × Oper)) (i : Nat) (o : Oper) : Bool :=
  (looksOf all o).all fun t => ds.all fun x => !Nat.beq x.1 t || Nat.beq x.2.1 i || (bif Nat.blt x.2.1 i then hasEdge o x.2.1 else hasEdge x.2.2 i)

def drawOpers (all : List Oper) (ds : List (Nat × Nat × Oper)) : Nat → List Oper → Bool
  | _, [] => true
  | i, o :: r => drawOper all ds i o && (o.after.toList.all fun e => !Region.binds .any e || Nat.blt e.on i) && drawOpers all ds (i + 1) r

def drawOK (all : List Oper) : Bool := drawOpers all (dsi 0 all) 0 all

def retOne (T : Nat → Option Ty) (st : St) : ResultVar → Option SV
  | .tmp t => (look t st.sl).bind fun
    | .ref b => (match look b st.bx with | some (.vec e l) => some (.own e l) | _ => none)
    | .tv d => some (.tv d)
    | _ => none
  | .cell a t => (T t).bind fun ty => (look a st.sl).bind fun
    | .ptr b none [] => (match look b st.bx with | some (.var d) => (d.as ty).map fun x => .tv ⟨ty, x⟩ | _ => none)
    | _ => none

def retBoxes (st : St) : List ResultVar → List Nat
  | [] => []
  | .tmp t :: r => (match look t st.sl with | some (.ref b) => b :: retBoxes st r | _ => retBoxes st r)
  | _ :: r => retBoxes st r

def retOf (T : Nat → Option Ty) (rs : List ResultVar) (st : St) : Option SV :=
  match rs with
  | [r] => retOne T st r
  | rs => bif distinctB (retBoxes st rs) then (mapO (retOne T st) rs).map .tup else none

def leave (T : Nat → Option Ty) (rs : List ResultVar) (st : St) : Leaf :=
  match retOf T rs st with
  | some v => .ret v
  | none => .fail

def killAll : List Nat → St → St
  | [], st => st
  | b :: r, st => killAll r (st.kill b)

def pickS {α : Type} (ks : List Nat) : List (Nat × α) → List (Nat × α)
  | [] => []
  | (j, u) :: r => bif ks.any (Nat.beq j) then (j, u) :: pickS ks r else pickS ks r

def outS {α : Type} (ks : List Nat) : List (Nat × α) → List Nat
  | [] => []
  | (j, _) :: r => bif ks.any (Nat.beq j) then outS ks r else j :: outS ks r

/-- forget all slots and boxes but these -/
def keep (ks : List Nat) (st : St) : St :=
  let st' := killAll (outS ks st.bx) st
  ⟨pickS ks st'.sl, st'.bx⟩

def run (G : Tbl) (T : Nat → Option Ty) (N : Nat) (rs : List ResultVar) (ks : Nat → List Nat) : Nat → List Item → St → Leaf
  | 0, todo, st => .more todo (keep (ks todo.length) st)
  | _ + 1, [], st => leave T rs st
  | n + 1, x :: k, st =>
    match x with
    | .code .ret => leave T rs st
    | .code .skip | .inBlock _ => run G T N rs ks n k st
    | .code (.seq a b) => run G T N rs ks n (.code a :: .code b :: k) st
    | .code (.cond c x y) =>
      (match opd st c with
      | some (.tv ⟨.bool, b⟩) => bif b then run G T N rs ks n (.code x :: k) st else run G T N rs ks n (.code y :: k) st
      | _ => .fail)
    | .code (.block id body) => run G T N rs ks n (.code body :: .inBlock id :: k) st
    | .code (.loop body) | .inLoop body => .loop body k (keep (ks k.length) st)
    | .code (.exit id) => (match exitTo id k with | some k' => run G T N rs ks n k' st | none => .fail)
    | .code (.region _ ops draw) =>
      bif guardsOK N ops.toList && (!draw || drawOK ops.toList) then
        execR G T draw ops.toList ops.toList st fun st' => run G T N rs ks n k (unguard ops.toList st')
      else .fail
    | _ => .fail

def entry (args : List TD) : St :=
  ⟨go 0 args, []⟩
where
  go (i : Nat) : List TD → List (Nat × SV)
    | [] => []
    | d :: r => (i, .tv d) :: go (i + 1) r

end Go.Lift
