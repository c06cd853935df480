/- A part of the proof that the law returns true for every input: no condition. -/
import Derived.Test.YtincaojcmkklbaaE2
namespace Go.Lift

/-! The table of types, held against the program -/
def zeroB : Ty → List Value → Bool
  | .int k, cs => (match cs with | [.int k' n] => decide (k' = k) && decide (n = 0) | _ => false)
  | .bool, cs => (match cs with | [.bool b] => !b | _ => false)
  | .str, cs => (match cs with | [.string s] => decide (s.size = 0) | _ => false)
  | .slice _, cs => (match cs with | [.slice none 0 0] => true | _ => false)
  | .nil, cs => cs.isEmpty
  | .cons a b, cs => zeroB a (cs.take a.size) && zeroB b (cs.drop a.size)

def isAggV : Value → Bool
  | .agg _ => true
  | _ => false

def infoOK (P : Program) (t : Ty) (ty : Nat) : Bool :=
  match P.info? ty with
  | some i => decide (i.size = t.size) && decide (i.bytes ≤ 2048) &&
    (match i.zero with | some z => zeroB t z.cells.toList && (isAggV z == t.isAgg) | none => false)
  | none => false

def eqOK (P : Program) (ty : Nat) : Bool := !P.stoodInHeld ty && !P.eqGuardType P.depth ty

mutual
def chk (P : Program) : Ty → Nat → Bool
  | .int k, ty => infoOK P (.int k) ty && (match P.underlying ty with | some (.int k') => decide (k' = k) | _ => false)
  | .bool, ty => infoOK P .bool ty && (match P.underlying ty with | some .bool => true | _ => false)
  | .str, ty => infoOK P .str ty && (match P.underlying ty with | some .string => true | _ => false)
  | .slice e, ty => infoOK P (.slice e) ty && (match P.underlying ty with | some (.slice et) => chk P e et && decide (0 < e.size) | _ => false)
  | .nil, ty => infoOK P .nil ty && eqOK P ty && (match P.underlying ty with | some (.struct fs) => fs.isEmpty | _ => false)
  | .cons a b, ty => infoOK P (.cons a b) ty && eqOK P ty && (match P.underlying ty with
    | some (.struct fs) => (match fs.toList with
      | f :: r => decide (f.offset = 0) && decide (f.name ≠ "_") && chk P a f.type && chkF P b r a.size
      | [] => false) && decide (a ≠ .nil)
    | some (.array n et) => (match a with | .nil => chkA P b et n | _ => false)
    | _ => false)
def chkF (P : Program) : Ty → List Field → Nat → Bool
  | .nil, fs, _ => fs.isEmpty
  | .cons a b, fs, off => (match fs with
    | f :: r => decide (f.offset = off) && decide (f.name ≠ "_") && chk P a f.type && chkF P b r (off + a.size)
    | [] => false)
  | _, _, _ => false
def chkA (P : Program) : Ty → Nat → Nat → Bool
  | .nil, _, n => decide (n = 0)
  | .cons a b, et, n => decide (0 < n) && chk P a et && chkA P b et (n - 1)
  | _, _, _ => false
end

theorem zeroB_enc {σ : Store} : ∀ (t : Ty) (cs : List Value), zeroB t cs = true → Enc σ t t.zero cs
  | .int k, cs, h => by
    unfold zeroB at h
    split at h
    · simp at h; obtain ⟨rfl, rfl⟩ := h; rfl
    · simp at h
  | .bool, cs, h => by
    unfold zeroB at h
    split at h
    · simp at h; subst h; rfl
    · simp at h
  | .str, cs, h => by
    unfold zeroB at h
    split at h
    · rename_i s
      simp at h
      subst h; rfl
    · simp at h
  | .slice e, cs, h => by
    unfold zeroB at h
    split at h
    · exact ⟨none, 0, rfl, by simp [Ty.zero], fun _ => rfl, fun i hi => by simp [Ty.zero] at hi⟩
    · simp at h
  | .nil, cs, h => by simpa [zeroB, Enc] using h
  | .cons a b, cs, h => by
    simp only [zeroB, Bool.and_eq_true] at h
    exact ⟨_, _, (List.take_append_drop a.size cs).symm, zeroB_enc a _ h.1, zeroB_enc b _ h.2⟩

theorem infoOK_spec {P : Program} {t : Ty} {ty : Nat} (h : infoOK P t ty = true) :
    ∃ i z, P.info? ty = some i ∧ i.size = t.size ∧ i.bytes ≤ 2048 ∧ i.zero = some z ∧ (∀ σ, Enc σ t t.zero z.cells.toList) ∧ isAggV z = t.isAgg := by
  unfold infoOK at h
  split at h
  · rename_i i hi
    simp only [Bool.and_eq_true, decide_eq_true_eq] at h
    obtain ⟨⟨h1, h2⟩, h3⟩ := h
    split at h3
    · rename_i z hz
      simp only [Bool.and_eq_true, beq_iff_eq] at h3
      exact ⟨i, z, hi, h1, h2, hz, fun σ => zeroB_enc t _ h3.1, h3.2⟩
    · simp at h3
  · simp at h

theorem chk_info {P : Program} {t : Ty} {ty : Nat} (h : chk P t ty = true) : infoOK P t ty = true := by
  cases t <;> simp only [chk, Bool.and_eq_true] at h <;> first | exact h.1 | exact h.1.1

theorem chk_int {P : Program} {k : IntKind} {ty : Nat} (h : chk P (.int k) ty = true) : P.underlying ty = some (.int k) := by
  simp only [chk, Bool.and_eq_true] at h
  split at h
  · rename_i hu; have := h.2; simp at this; rw [hu, this]
  · simp at h

theorem chk_bool {P : Program} {ty : Nat} (h : chk P .bool ty = true) : P.underlying ty = some .bool := by
  simp only [chk, Bool.and_eq_true] at h
  split at h
  · assumption
  · simp at h

theorem chk_str {P : Program} {ty : Nat} (h : chk P .str ty = true) : P.underlying ty = some .string := by
  simp only [chk, Bool.and_eq_true] at h
  split at h
  · assumption
  · simp at h

theorem chk_slice {P : Program} {e : Ty} {ty : Nat} (h : chk P (.slice e) ty = true) : ∃ et, P.underlying ty = some (.slice et) ∧ chk P e et = true ∧ 0 < e.size := by
  simp only [chk, Bool.and_eq_true] at h
  split at h
  · rename_i et hu
    simp only [Bool.and_eq_true, decide_eq_true_eq] at h
    exact ⟨et, hu, h.2.1, h.2.2⟩
  · simp at h

theorem chkF_spec {P : Program} : ∀ (t : Ty) (fs : List Field) (off : Nat), chkF P t fs off = true → ∀ (x : t.D) (i : Nat) (d : TD), getFld t x i = some d →
    ∃ f, fs[i]? = some f ∧ f.offset = off + offs t i ∧ chk P d.t f.type = true
  | .nil, fs, off, _, x, i, d, hd => by simp [getFld] at hd
  | .cons a b, fs, off, h, x, i, d, hd => by
    simp only [chkF] at h
    cases fs with
    | nil => simp at h
    | cons f r =>
      simp only [Bool.and_eq_true, decide_eq_true_eq] at h
      cases i with
      | zero =>
        simp [getFld] at hd; subst hd
        exact ⟨f, rfl, by simp [offs, h.1.1.1], h.1.2⟩
      | succ i =>
        simp only [getFld] at hd
        obtain ⟨g, h1, h2, h3⟩ := chkF_spec b r _ h.2 x.2 i d hd
        exact ⟨g, by simpa using h1, by simp [offs, h2, Nat.add_assoc], h3⟩
  | .int _, _, _, h, _, _, _, _ => by simp [chkF] at h
  | .bool, _, _, h, _, _, _, _ => by simp [chkF] at h
  | .str, _, _, h, _, _, _, _ => by simp [chkF] at h
  | .slice _, _, _, h, _, _, _, _ => by simp [chkF] at h

theorem chkA_spec {P : Program} : ∀ (t : Ty) (et n : Nat), chkA P t et n = true → ∀ (x : t.D) (i : Nat) (d : TD), getFld t x i = some d →
    i < n ∧ chk P d.t et = true ∧ offs t i = i * d.t.size
  | .nil, et, n, _, x, i, d, hd => by simp [getFld] at hd
  | .cons a b, et, n, h, x, i, d, hd => by
    simp only [chkA, Bool.and_eq_true, decide_eq_true_eq] at h
    cases i with
    | zero =>
      simp [getFld] at hd; subst hd
      exact ⟨h.1.1, h.1.2, by simp [offs]⟩
    | succ i =>
      simp only [getFld] at hd
      obtain ⟨h1, h2, h3⟩ := chkA_spec b et _ h.2 x.2 i d hd
      refine ⟨by omega, h2, ?_⟩
      obtain ⟨i1, _, q1, q2, _⟩ := infoOK_spec (chk_info h.1.2)
      obtain ⟨i2, _, r1, r2, _⟩ := infoOK_spec (chk_info h2)
      rw [q1] at r1
      simp at r1
      subst r1
      simp [offs, h3, Nat.add_mul]
      omega
  | .int _, _, _, h, _, _, _, _ => by simp [chkA] at h
  | .bool, _, _, h, _, _, _, _ => by simp [chkA] at h
  | .str, _, _, h, _, _, _, _ => by simp [chkA] at h
  | .slice _, _, _, h, _, _, _, _ => by simp [chkA] at h

theorem chk_cons {P : Program} {a b : Ty} {ty : Nat} (h : chk P (.cons a b) ty = true) :
    (∃ fs, P.underlying ty = some (.struct fs) ∧ a ≠ .nil ∧ chkF P (.cons a b) fs.toList 0 = true ∧ ∀ (x : (Ty.cons a b).D) (i : Nat) (d : TD), getFld (.cons a b) x i = some d → ∃ f, fs[i]? = some f ∧ f.offset = offs (.cons a b) i ∧ chk P d.t f.type = true) ∨
    (∃ n et, P.underlying ty = some (.array n et) ∧ a = .nil ∧ ∀ (x : b.D) (i : Nat) (d : TD), getFld b x i = some d → i < n ∧ chk P d.t et = true ∧ offs b i = i * d.t.size) := by
  simp only [chk, Bool.and_eq_true] at h
  obtain ⟨_, h⟩ := h
  split at h
  · rename_i fs hu
    left
    simp only [Bool.and_eq_true, decide_eq_true_eq] at h
    obtain ⟨h, hnn⟩ := h
    have hF : chkF P (.cons a b) fs.toList 0 = true := by
      simp only [chkF]
      split at h
      · rename_i f r hfs
        simp only [Bool.and_eq_true] at h ⊢
        exact ⟨h.1, by simpa using h.2⟩
      · simp at h
    refine ⟨fs, hu, hnn, hF, fun x i d hd => ?_⟩
    obtain ⟨f, h1, h2, h3⟩ := chkF_spec _ _ _ hF x i d hd
    exact ⟨f, by simpa using h1, by simpa using h2, h3⟩
  · rename_i n et hu
    right
    split at h
    · exact ⟨n, et, hu, rfl, fun x i d hd => chkA_spec b et n h x i d hd⟩
    · simp at h
  · simp at h

theorem chk_struct_eq {P : Program} {a b : Ty} {ty : Nat} (h : chk P (.cons a b) ty = true) : P.stoodInHeld ty = false ∧ P.eqGuardType P.depth ty = false := by
  simp only [chk, Bool.and_eq_true] at h
  have := h.1.2
  simpa [eqOK] using this

/-! Values -/
def RelV (σ : Store) (d : TD) (v : Value) : Prop := Enc σ d.t d.x v.cells.toList ∧ isAggV v = d.t.isAgg

theorem cells_of_not {v : Value} (h : isAggV v = false) : v.cells.toList = [v] := by cases v <;> simp_all [isAggV, Value.cells]
theorem cells_of_agg {v : Value} (h : isAggV v = true) : ∃ cs, v = .agg cs ∧ v.cells = cs := by cases v <;> simp_all [isAggV, Value.cells]

theorem RelV.int {σ : Store} {k : IntKind} {n : Int} {v : Value} (h : RelV σ ⟨.int k, n⟩ v) : v = .int k n := by
  have := h.1; rw [cells_of_not (by simpa [Ty.isAgg] using h.2)] at this; simpa [Enc] using this
theorem RelV.bool {σ : Store} {b : Bool} {v : Value} (h : RelV σ ⟨.bool, b⟩ v) : v = .bool b := by
  have := h.1; rw [cells_of_not (by simpa [Ty.isAgg] using h.2)] at this; simpa [Enc] using this
theorem RelV.str {σ : Store} {s : ByteArray} {v : Value} (h : RelV σ ⟨.str, s⟩ v) : v = .string s := by
  have := h.1; rw [cells_of_not (by simpa [Ty.isAgg] using h.2)] at this; simpa [Enc] using this
theorem RelV.slice {σ : Store} {t : Ty} {l : List t.D} {v : Value} (h : RelV σ ⟨.slice t, l⟩ v) :
    ∃ ad cap, v = .slice ad l.length cap ∧ l.length ≤ cap ∧ (ad = none → cap = 0) ∧
      ∀ (i : Nat) (h : i < l.length), ∃ a c, ad = some a ∧ c.length = t.size ∧ Lies σ (a.add (i * t.size)) c ∧ Enc σ t (l[i]) c := by
  have := h.1
  rw [cells_of_not (by simpa [Ty.isAgg] using h.2)] at this
  obtain ⟨ad, cap, h1, h2, h3, h4⟩ := this
  simp at h1
  exact ⟨ad, cap, h1, h2, h3, h4⟩
theorem RelV.agg {σ : Store} {d : TD} {v : Value} (h : RelV σ d v) (ha : d.t.isAgg = true) : ∃ cs : Array Value, v = .agg cs ∧ Enc σ d.t d.x cs.toList := by
  obtain ⟨cs, rfl, h2⟩ := cells_of_agg (h.2.trans ha)
  exact ⟨cs, rfl, h.1⟩

theorem relV_int (σ : Store) (k : IntKind) (n : Int) : RelV σ ⟨.int k, n⟩ (.int k n) := ⟨by simp [Enc, Value.cells], rfl⟩
theorem relV_bool (σ : Store) (b : Bool) : RelV σ ⟨.bool, b⟩ (.bool b) := ⟨by simp [Enc, Value.cells], rfl⟩
theorem relV_str (σ : Store) (s : ByteArray) : RelV σ ⟨.str, s⟩ (.string s) := ⟨by simp [Enc, Value.cells], rfl⟩

theorem RelV.mono {σ τ : Store} (h : Store.le σ τ) {d : TD} {v : Value} (hr : RelV σ d v) : RelV τ d v := ⟨hr.1.mono h, hr.2⟩

theorem Enc.flat {σ τ : Store} : ∀ (t : Ty) (x : t.D) (cs : List Value), t.flat = true → Enc σ t x cs → Enc τ t x cs
  | .int _, _, _, _, e => e
  | .bool, _, _, _, e => e
  | .str, _, _, _, e => e
  | .nil, _, _, _, e => e
  | .cons a b, _, _, hf, ⟨c, r, h1, h2, h3⟩ => by
    simp only [Ty.flat, Bool.and_eq_true] at hf
    exact ⟨c, r, h1, Enc.flat a _ _ hf.1 h2, Enc.flat b _ _ hf.2 h3⟩
  | .slice _, _, _, hf, _ => by simp [Ty.flat] at hf

theorem relV_nil (σ : Store) (e : Ty) : RelV σ ⟨.slice e, []⟩ (.slice none 0 0) :=
  ⟨⟨none, 0, by simp [Value.cells], by simp, fun _ => rfl, fun i hi => by simp at hi⟩, rfl⟩

/-- a value out of the cells of a type -/
theorem relV_part {σ : Store} {d : TD} {c : List Value} (h : Enc σ d.t d.x c) : RelV σ d (if d.t.isAgg then .agg c.toArray else c.headD undef) := by
  obtain ⟨t, x⟩ := d
  cases t <;> simp only [Ty.isAgg, if_true, Bool.false_eq_true, if_false]
  all_goals first
    | (refine ⟨?_, rfl⟩; simpa [Value.cells] using h)
    | (simp only [Enc] at h; subst h; refine ⟨?_, rfl⟩; simp [Enc, Value.cells])
    | (obtain ⟨ad, cap, h1, h2⟩ := h; subst h1; refine ⟨⟨ad, cap, ?_, h2⟩, rfl⟩; simp [Value.cells])

def hBlock : Value → Option Nat
  | .pointer (some a) => some a.block
  | .slice (some a) _ _ => some a.block
  | _ => none

def BoxR (σ : Store) (w : World) (n0 : Nat) : Box → Value → Prop
  | .var d, v => ∃ g cs ty, v = .pointer (some ⟨g, 0, none⟩) ∧ w.heap[g]? = some (.cells cs ty (0, 0)) ∧ Enc σ d.t d.x cs.toList ∧ n0 ≤ g ∧ σ g = none
  | .vec t l, v => ∃ ety xs, w.ownsRow n0 ety t.size v l.length xs ∧ EncL σ t l xs ∧ (∀ g, hBlock v = some g → σ g = none) ∧ 0 < t.size

def viewV (v : Value) (lo hi size : Nat) : Value :=
  match v with
  | .slice ad _ cap => .slice (if cap = lo then ad else ad.map (·.add (lo * size))) (hi - lo) (cap - lo)
  | v => v

def SVR1 (σ : Store) (bx : List (Nat × Box)) (H : Nat → Value) : SV → Value → Prop
  | .tv d, v => RelV σ d v
  | .nils, v => v = .slice none 0 0
  | .ref b, v => ∃ t l, look b bx = some (.vec t l) ∧ v = H b
  | .view b lo hi, v => ∃ t l, look b bx = some (.vec t l) ∧ lo ≤ hi ∧ hi ≤ l.length ∧ v = viewV (H b) lo hi t.size
  | .ptr b none p, v => ∃ d e g, look b bx = some (.var d) ∧ getPath d p = some e ∧ H b = .pointer (some ⟨g, 0, none⟩) ∧ v = .pointer (some ⟨g, offPath d p, none⟩)
  | .ptr b (some i) p, v => ∃ t l e g n c, look b bx = some (.vec t l) ∧ i < l.length ∧ getPath ⟨t, l.getD i t.zero⟩ p = some e ∧ H b = .slice (some ⟨g, 0, none⟩) n c ∧
      v = .pointer (some ⟨g, i * t.size + offPath ⟨t, l.getD i t.zero⟩ p, none⟩)
  | .cptr d, v => ∃ a cs, v = .pointer (some a) ∧ Lies σ a cs ∧ Enc σ d.t d.x cs
  | .gone, _ => True
  | .own _ _, _ => False
  | .tup _, _ => False

def SVR (σ : Store) (bx : List (Nat × Box)) (H : Nat → Value) : SV → Value → Prop
  | .tup l, v => ∃ vs : Array Value, v = .tuple vs ∧ vs.size = l.length ∧ ∀ (i : Nat) (s : SV) (u : Value), l[i]? = some s → vs[i]? = some u → SVR1 σ bx H s u
  | s, v => SVR1 σ bx H s v

structure Rel (C : Nat → Prop) (N n0 : Nat) (σ : Store) (H : Nat → Value) (st : St) (a : Act) (w : World) : Prop where
  holds : Holds w σ
  size : a.tmps.size = N
  defers : a.defers = []
  base : n0 ≤ w.heap.size
  box : ∀ k b, look k st.bx = some b → BoxR σ w n0 b (H k)
  apart : ∀ k k' b b' g, look k st.bx = some b → look k' st.bx = some b' → k ≠ k' → hBlock (H k) = some g → hBlock (H k') ≠ some g
  slot : ∀ k s, look k st.sl = some s → C k → SVR σ st.bx H s (a.tmps.getD k undef)

structure Step (σ : Store) (w : World) (σ' : Store) (w' : World) : Prop where
  le : Store.le σ σ'
  holds : Holds w' σ'
  news : ∀ b o, σ' b = some o → σ b = some o ∨ w.heap.size ≤ b
  size : w.heap.size ≤ w'.heap.size
  block : ∀ b, b < w.heap.size → w'.heap[b]? = w.heap[b]?
  os : w'.os = w.os
  output : w'.output = w.output
  tape : w'.tape = w.tape

def RetR (σ : Store) (w : World) (n0 : Nat) : SV → Value → Prop
  | .tv d, v => RelV σ d v
  | .own t l, v => BoxR σ w n0 (.vec t l) v
  | .tup l, v => ∃ vs : Array Value, v = .tuple vs ∧ vs.size = l.length ∧
      (∀ (i : Nat) (s : SV) (u : Value), l[i]? = some s → vs[i]? = some u → match s with
        | .tv d => RelV σ d u
        | .own t l => BoxR σ w n0 (.vec t l) u
        | _ => False) ∧
      ∀ (i j : Nat) (t t' : Ty) (m : List t.D) (m' : List t'.D) (u u' : Value) (g : Nat), l[i]? = some (.own t m) → l[j]? = some (.own t' m') → vs[i]? = some u → vs[j]? = some u' → i ≠ j → hBlock u = some g → hBlock u' ≠ some g
  | _, _ => False

def ArgsR (σ : Store) (tds : List TD) (vs : Array Value) : Prop := vs.size = tds.length ∧ ∀ (i : Nat) (d : TD) (v : Value), tds[i]? = some d → vs[i]? = some v → RelV σ d v

def Good (P : Program) (G : Tbl) : Prop := ∀ f tds r, G f tds = some (true, r) → ∀ (σ : Store) (w : World) (vs : Array Value), Holds w σ → ArgsR σ tds vs →
  Calls P f vs w fun e w' => ∃ v σ', e = .returned v ∧ Step σ w σ' w' ∧ RetR σ' w' w.heap.size r v

end Go.Lift
