/- A part of the proof that the law returns true for every input: no condition. -/
import Derived.Test.YtincaojcmkklbaaE1
import Derived.Laws.AppendOwn
import Derived.Laws.OwnMore
import Derived.Laws.StructEq
import Derived.Laws.Small
import Derived.Laws.Slices
import Derived.Orders
namespace Go.Lift

/-! Stable memory -/
abbrev Store := Nat → Option Obj

def Store.cell? (σ : Store) (a : Addr) : Option Value :=
  match σ a.block with
  | some (.cells c _ _) => if a.spot.isSome then none else c[a.off]?
  | _ => none

def Lies (σ : Store) (a : Addr) (cs : List Value) : Prop := ∀ j v, cs[j]? = some v → σ.cell? (a.add j) = some v

def Store.le (σ τ : Store) : Prop := ∀ b o, σ b = some o → τ b = some o
def Holds (w : World) (σ : Store) : Prop := ∀ b o, σ b = some o → w.heap[b]? = some o

theorem Store.le.refl (σ : Store) : Store.le σ σ := fun _ _ h => h
theorem Store.le.trans {a b c : Store} (h : Store.le a b) (h' : Store.le b c) : Store.le a c := fun _ _ x => h' _ _ (h _ _ x)

theorem Store.le.cell {σ τ : Store} (h : Store.le σ τ) {a : Addr} {v : Value} (hc : σ.cell? a = some v) : τ.cell? a = some v := by
  unfold Store.cell? at *
  cases hs : σ a.block with
  | none => simp [hs] at hc
  | some o => rw [h _ _ hs]; simpa [hs] using hc

theorem Holds.cell {w : World} {σ : Store} (h : Holds w σ) {a : Addr} {v : Value} (hc : σ.cell? a = some v) : w.cell? a = some v := by
  unfold Store.cell? at hc
  unfold World.cell?
  cases hs : σ a.block with
  | none => simp [hs] at hc
  | some o => rw [h _ _ hs]; rw [hs] at hc; exact hc

theorem Lies.mono {σ τ : Store} (h : Store.le σ τ) {a : Addr} {cs : List Value} (hl : Lies σ a cs) : Lies τ a cs := fun j v hv => h.cell (hl j v hv)

theorem addr_add_add (a : Addr) (i j : Nat) : (a.add i).add j = a.add (i + j) := by
  unfold Addr.add
  by_cases hi : i = 0
  · subst hi; simp
  · by_cases hj : j = 0
    · subst hj; simp [hi]
    · simp [hi, hj, Nat.add_assoc]

theorem addr_add_zero (a : Addr) : a.add 0 = a := by simp [Addr.add]

theorem addr_add_block (a : Addr) (n : Nat) : (a.add n).block = a.block := by unfold Addr.add; split <;> rfl

theorem addr_lit (g o n : Nat) : (⟨g, o, none⟩ : Addr).add n = ⟨g, o + n, none⟩ := by
  unfold Addr.add; split <;> simp_all

theorem Lies.app {σ : Store} {a : Addr} {c r : List Value} (h : Lies σ a (c ++ r)) : Lies σ a c ∧ Lies σ (a.add c.length) r := by
  constructor
  · intro j v hv
    exact h j v (by rw [List.getElem?_append_left (List.getElem?_eq_some_iff.1 hv).1]; exact hv)
  · intro j v hv
    rw [addr_add_add]
    exact h (c.length + j) v (by rw [List.getElem?_append_right (by omega)]; simpa using hv)

/-! Data in cells -/
def Enc (σ : Store) : (t : Ty) → t.D → List Value → Prop
  | .int k, n, cs => cs = [.int k n]
  | .bool, b, cs => cs = [.bool b]
  | .str, s, cs => cs = [.string s]
  | .slice e, l, cs => ∃ ad cap, cs = [.slice ad (List.length l) cap] ∧ List.length l ≤ cap ∧ (ad = none → cap = 0) ∧
      ∀ (i : Nat) (h : i < List.length l), ∃ a c, ad = some a ∧ List.length c = e.size ∧ Lies σ (a.add (i * e.size)) c ∧ Enc σ e (l[i]) c
  | .nil, _, cs => cs = []
  | .cons a b, x, cs => ∃ c r, cs = c ++ r ∧ Enc σ a x.1 c ∧ Enc σ b x.2 r

theorem Enc.mono {σ τ : Store} (h : Store.le σ τ) : ∀ (t : Ty) (x : t.D) (cs : List Value), Enc σ t x cs → Enc τ t x cs
  | .int _, _, _, e => e
  | .bool, _, _, e => e
  | .str, _, _, e => e
  | .nil, _, _, e => e
  | .cons a b, _, _, ⟨c, r, h1, h2, h3⟩ => ⟨c, r, h1, Enc.mono h a _ _ h2, Enc.mono h b _ _ h3⟩
  | .slice e, _, _, ⟨ad, cap, h1, h2, h3, h4⟩ => ⟨ad, cap, h1, h2, h3, fun i hi => let ⟨a, c, g1, g2, g3, g4⟩ := h4 i hi; ⟨a, c, g1, g2, g3.mono h, Enc.mono h e _ _ g4⟩⟩

theorem Enc.length {σ : Store} : ∀ (t : Ty) (x : t.D) (cs : List Value), Enc σ t x cs → cs.length = t.size
  | .int _, _, _, e => by simp [Enc] at e; simp [e, Ty.size]
  | .bool, _, _, e => by simp [Enc] at e; simp [e, Ty.size]
  | .str, _, _, e => by simp [Enc] at e; simp [e, Ty.size]
  | .nil, _, _, e => by simp [Enc] at e; simp [e, Ty.size]
  | .cons a b, _, _, ⟨c, r, h1, h2, h3⟩ => by simp [h1, Ty.size, Enc.length a _ _ h2, Enc.length b _ _ h3]
  | .slice _, _, _, ⟨_, _, h1, _⟩ => by simp [h1, Ty.size]

theorem Enc.one {σ : Store} : ∀ (t : Ty) (x : t.D) (cs : List Value), Enc σ t x cs → ∀ v ∈ cs, v.oneCell' = true
  | .int _, _, _, e => by simp [Enc] at e; simp [e, Value.oneCell']
  | .bool, _, _, e => by simp [Enc] at e; simp [e, Value.oneCell']
  | .str, _, _, e => by simp [Enc] at e; simp [e, Value.oneCell']
  | .nil, _, _, e => by simp [Enc] at e; simp [e]
  | .cons a b, _, _, ⟨c, r, h1, h2, h3⟩ => by
    intro v hv
    rw [h1, List.mem_append] at hv
    exact hv.elim (Enc.one a _ _ h2 v) (Enc.one b _ _ h3 v)
  | .slice _, _, _, ⟨_, _, h1, _⟩ => by simp [h1, Value.oneCell']

def offs : Ty → Nat → Nat
  | .cons _ _, 0 => 0
  | .cons a b, n + 1 => a.size + offs b n
  | _, _ => 0

theorem Enc.fld {σ : Store} : ∀ (t : Ty) (x : t.D) (i : Nat) (d : TD) (cs : List Value), getFld t x i = some d → Enc σ t x cs →
    ∃ p c r, cs = p ++ c ++ r ∧ p.length = offs t i ∧ Enc σ d.t d.x c
  | .cons a b, x, 0, d, cs, h, ⟨c, r, h1, h2, _⟩ => by
    simp [getFld] at h; subst h
    exact ⟨[], c, r, by simp [h1], rfl, h2⟩
  | .cons a b, x, n + 1, d, cs, h, ⟨c, r, h1, h2, h3⟩ => by
    simp only [getFld] at h
    obtain ⟨p, c', r', g1, g2, g3⟩ := Enc.fld b x.2 n d r h h3
    exact ⟨c ++ p, c', r', by simp [h1, g1], by simp [offs, Enc.length a _ _ h2, g2], g3⟩
  | .int _, _, _, _, _, h, _ => by simp [getFld] at h
  | .bool, _, _, _, _, h, _ => by simp [getFld] at h
  | .str, _, _, _, _, h, _ => by simp [getFld] at h
  | .nil, _, _, _, _, h, _ => by simp [getFld] at h
  | .slice _, _, _, _, _, h, _ => by simp [getFld] at h

theorem TD.as_eq {d : TD} {t : Ty} {x : t.D} (h : d.as t = some x) : d = ⟨t, x⟩ := by
  obtain ⟨u, y⟩ := d
  unfold TD.as at h
  split at h
  · rename_i e
    simp only at e
    subst e
    simp at h
    subst h
    rfl
  · simp at h

theorem TD.as_self (t : Ty) (x : t.D) : TD.as ⟨t, x⟩ t = some x := by simp [TD.as]

theorem Enc.set {σ : Store} : ∀ (t : Ty) (x x' : t.D) (i : Nat) (d0 d : TD) (cs : List Value), getFld t x i = some d0 → setFld t x i d = some x' → Enc σ t x cs →
    ∃ p c r, cs = p ++ c ++ r ∧ p.length = offs t i ∧ Enc σ d0.t d0.x c ∧ d.t = d0.t ∧ ∀ c', Enc σ d.t d.x c' → Enc σ t x' (p ++ c' ++ r)
  | .cons a b, x, x', 0, d0, d, cs, h, hs, ⟨c, r, h1, h2, h3⟩ => by
    simp [getFld] at h; subst h
    simp only [setFld, Option.map_eq_some_iff] at hs
    obtain ⟨y, hy, rfl⟩ := hs
    have := TD.as_eq hy
    subst this
    exact ⟨[], c, r, by simp [h1], rfl, h2, rfl, fun c' hc' => ⟨c', r, by simp, hc', h3⟩⟩
  | .cons a b, x, x', n + 1, d0, d, cs, h, hs, ⟨c, r, h1, h2, h3⟩ => by
    simp only [getFld] at h
    simp only [setFld, Option.map_eq_some_iff] at hs
    obtain ⟨y, hy, rfl⟩ := hs
    obtain ⟨p, c1, r', g1, g2, g3, g4, g5⟩ := Enc.set b x.2 y n d0 d r h hy h3
    exact ⟨c ++ p, c1, r', by simp [h1, g1], by simp [offs, Enc.length a _ _ h2, g2], g3, g4, fun c' hc' => ⟨c, p ++ c' ++ r', by simp, h2, g5 c' hc'⟩⟩
  | .int _, _, _, _, _, _, _, h, _, _ => by simp [getFld] at h
  | .bool, _, _, _, _, _, _, h, _, _ => by simp [getFld] at h
  | .str, _, _, _, _, _, _, h, _, _ => by simp [getFld] at h
  | .nil, _, _, _, _, _, _, h, _, _ => by simp [getFld] at h
  | .slice _, _, _, _, _, _, _, h, _, _ => by simp [getFld] at h

/-! paths -/
theorem getPath_cons {d : TD} {i : Nat} {r : List Nat} {e : TD} (h : getPath d (i :: r) = some e) : ∃ d', getFld d.t d.x i = some d' ∧ getPath d' r = some e := by
  simpa [getPath, Option.bind_eq_some_iff] using h

def offPath : TD → List Nat → Nat
  | _, [] => 0
  | d, i :: r => offs d.t i + (match getFld d.t d.x i with | some d' => offPath d' r | none => 0)

theorem Enc.path {σ : Store} : ∀ (p : List Nat) (d e : TD) (cs : List Value), getPath d p = some e → Enc σ d.t d.x cs →
    ∃ a c r, cs = a ++ c ++ r ∧ a.length = offPath d p ∧ Enc σ e.t e.x c
  | [], d, e, cs, h, he => by
    simp [getPath] at h; subst h
    exact ⟨[], cs, [], by simp, rfl, he⟩
  | i :: p, d, e, cs, h, he => by
    obtain ⟨d', h1, h2⟩ := getPath_cons h
    obtain ⟨a, c, r, g1, g2, g3⟩ := Enc.fld d.t d.x i d' cs h1 he
    obtain ⟨a', c', r', k1, k2, k3⟩ := Enc.path p d' e c h2 g3
    exact ⟨a ++ a', c', r' ++ r, by simp [g1, k1], by simp [offPath, h1, g2, k2], k3⟩

theorem getPath_snoc : ∀ (p : List Nat) (d e f : TD) (i : Nat), getPath d p = some e → getFld e.t e.x i = some f → getPath d (p ++ [i]) = some f
  | [], d, e, f, i, h, hf => by simp [getPath] at h; subst h; simp [getPath, hf]
  | j :: p, d, e, f, i, h, hf => by
    obtain ⟨d', h1, h2⟩ := getPath_cons h
    simp [getPath, h1, getPath_snoc p d' e f i h2 hf]

theorem offPath_snoc : ∀ (p : List Nat) (d e : TD) (i : Nat), getPath d p = some e → offPath d (p ++ [i]) = offPath d p + offs e.t i
  | [], d, e, i, h => by
    simp only [getPath, Option.some.injEq] at h; subst h
    simp only [List.nil_append, offPath]
    split <;> simp
  | j :: p, d, e, i, h => by
    obtain ⟨d', h1, h2⟩ := getPath_cons h
    simp [offPath, h1, offPath_snoc p d' e i h2, Nat.add_assoc]

theorem Enc.setPath {σ : Store} : ∀ (p : List Nat) (d v : TD) (x' : d.t.D) (cs : List Value), setPath d p v = some x' → Enc σ d.t d.x cs →
    ∃ e, getPath d p = some e ∧ v.t = e.t ∧ ∃ a c r, cs = a ++ c ++ r ∧ a.length = offPath d p ∧ Enc σ e.t e.x c ∧ ∀ c', Enc σ v.t v.x c' → Enc σ d.t x' (a ++ c' ++ r)
  | [], d, v, x', cs, h, he => by
    simp only [Lift.setPath] at h
    have := TD.as_eq h
    subst this
    exact ⟨d, rfl, rfl, [], cs, [], by simp, rfl, he, fun c' hc' => by simpa using hc'⟩
  | i :: p, d, v, x', cs, h, he => by
    simp only [Lift.setPath, Option.bind_eq_some_iff] at h
    obtain ⟨d', h1, y, h2, h3⟩ := h
    obtain ⟨a, c, r, g1, g2, g3, g4, g5⟩ := Enc.set d.t d.x x' i d' ⟨d'.t, y⟩ cs h1 h3 he
    obtain ⟨e, k0, k1, a', c', r', k2, k3, k4, k5⟩ := Enc.setPath p d' v y c h2 g3
    exact ⟨e, by simp [getPath, h1, k0], k1, a ++ a', c', r' ++ r, by simp [g1, k2], by simp [offPath, h1, g2, k3], k4,
      fun c2 hc2 => by have := g5 _ (k5 c2 hc2); simpa using this⟩

/-! lists of elements -/
def EncL (σ : Store) (t : Ty) : List t.D → List Value → Prop
  | [], cs => cs = []
  | x :: l, cs => ∃ c r, cs = c ++ r ∧ Enc σ t x c ∧ EncL σ t l r

theorem EncL.mono {σ τ : Store} (h : Store.le σ τ) {t : Ty} : ∀ (l : List t.D) (cs : List Value), EncL σ t l cs → EncL τ t l cs
  | [], _, e => e
  | _ :: l, _, ⟨c, r, h1, h2, h3⟩ => ⟨c, r, h1, h2.mono h, EncL.mono h l r h3⟩

theorem EncL.length {σ : Store} {t : Ty} : ∀ (l : List t.D) (cs : List Value), EncL σ t l cs → cs.length = l.length * t.size
  | [], _, e => by simp [EncL] at e; simp [e]
  | _ :: l, _, ⟨c, r, h1, h2, h3⟩ => by
    simp [h1, h2.length, EncL.length l r h3, Nat.add_mul, Nat.add_comm]

theorem EncL.one {σ : Store} {t : Ty} : ∀ (l : List t.D) (cs : List Value), EncL σ t l cs → ∀ v ∈ cs, v.oneCell' = true
  | [], _, e => by simp [EncL] at e; simp [e]
  | _ :: l, _, ⟨c, r, h1, h2, h3⟩ => by
    intro v hv
    rw [h1, List.mem_append] at hv
    exact hv.elim (h2.one _ _ _ v) (EncL.one l r h3 v)

theorem EncL.app {σ : Store} {t : Ty} : ∀ (l m : List t.D) (cs ds : List Value), EncL σ t l cs → EncL σ t m ds → EncL σ t (l ++ m) (cs ++ ds)
  | [], m, cs, ds, h, h' => by simp [EncL] at h; subst h; simpa using h'
  | _ :: l, m, _, ds, ⟨c, r, h1, h2, h3⟩, h' => ⟨c, r ++ ds, by simp [h1], h2, EncL.app l m r ds h3 h'⟩

theorem EncL.take {σ : Store} {t : Ty} : ∀ (n : Nat) (l : List t.D) (cs : List Value), EncL σ t l cs → n ≤ l.length → EncL σ t (l.take n) (cs.take (n * t.size)) ∧ EncL σ t (l.drop n) (cs.drop (n * t.size))
  | 0, l, cs, h, _ => by simp [EncL]; exact h
  | n + 1, [], _, _, hn => by simp at hn
  | n + 1, x :: l, cs, ⟨c, r, h1, h2, h3⟩, hn => by
    have hc : c.length = t.size := h2.length
    obtain ⟨k1, k2⟩ := EncL.take n l r h3 (by simpa using hn)
    have e : (n + 1) * t.size = c.length + n * t.size := by rw [Nat.add_mul, hc]; omega
    constructor
    · refine ⟨c, r.take (n * t.size), ?_, h2, k1⟩
      rw [h1, e, List.take_length_add_append]
    · show EncL σ t (l.drop n) _
      rw [h1, e, List.drop_length_add_append]
      exact k2

theorem EncL.get {σ : Store} {t : Ty} (l : List t.D) (cs : List Value) (h : EncL σ t l cs) (i : Nat) (hi : i < l.length) :
    ∃ p c r, cs = p ++ c ++ r ∧ p.length = i * t.size ∧ Enc σ t l[i] c ∧ ∀ (x : t.D) (c' : List Value), Enc σ t x c' → EncL σ t (l.set i x) (p ++ c' ++ r) := by
  induction l generalizing cs i with
  | nil => simp at hi
  | cons y l ih =>
    obtain ⟨c, r, h1, h2, h3⟩ := h
    cases i with
    | zero => exact ⟨[], c, r, by simp [h1], by simp, h2, fun x c' hx => ⟨c', r, by simp, hx, h3⟩⟩
    | succ i =>
      obtain ⟨p, c2, r2, g1, g2, g3, g4⟩ := ih r h3 i (by simpa using hi)
      refine ⟨c ++ p, c2, r2, by simp [h1, g1], ?_, by simpa using g3, fun x c' hx => ⟨c, p ++ c' ++ r2, by simp, h2, g4 x c' hx⟩⟩
      simp [h2.length, g2, Nat.add_mul, Nat.add_comm]

theorem EncL.ofSlice {σ : Store} {t : Ty} (l : List t.D) (ad : Option Addr) (h : ∀ (i : Nat) (h : i < l.length), ∃ a c, ad = some a ∧ c.length = t.size ∧ Lies σ (a.add (i * t.size)) c ∧ Enc σ t (l[i]) c) :
    ∃ cs, EncL σ t l cs ∧ (∀ a, ad = some a → Lies σ a cs) := by
  induction l generalizing ad with
  | nil => exact ⟨[], rfl, fun a _ j v hv => by simp at hv⟩
  | cons x l ih =>
    obtain ⟨a, c, h1, h2, h3, h4⟩ := h 0 (by simp)
    subst h1
    obtain ⟨cs, g1, g2⟩ := ih (some (a.add t.size)) (fun i hi => by
      obtain ⟨a', c', k1, k2, k3, k4⟩ := h (i + 1) (by simpa using hi)
      simp at k1; subst k1
      refine ⟨_, c', rfl, k2, ?_, by simpa using k4⟩
      rw [addr_add_add, show t.size + i * t.size = (i + 1) * t.size by rw [Nat.add_mul]; omega]
      exact k3)
    refine ⟨c ++ cs, ⟨c, cs, rfl, by simpa using h4, g1⟩, fun a' ha' => ?_⟩
    simp at ha'; subst ha'
    intro j v hv
    by_cases hj : j < c.length
    · rw [List.getElem?_append_left hj] at hv
      have := h3 j v hv
      simpa [addr_add_zero] using this
    · rw [List.getElem?_append_right (by omega)] at hv
      have := g2 _ rfl _ _ hv
      rw [addr_add_add] at this
      rw [show j = t.size + (j - c.length) by omega]
      exact this

theorem EncL.toSlice {σ : Store} {t : Ty} (l : List t.D) (cs : List Value) (h : EncL σ t l cs) (a : Addr) (hl : Lies σ a cs) :
    ∀ (i : Nat) (h : i < l.length), ∃ a' c, some a = some a' ∧ c.length = t.size ∧ Lies σ (a'.add (i * t.size)) c ∧ Enc σ t (l[i]) c := by
  intro i hi
  obtain ⟨p, c, r, h1, h2, h3, _⟩ := h.get l cs i hi
  subst h1
  refine ⟨a, c, rfl, h3.length, ?_, h3⟩
  have := (hl.app).1.app.2
  rwa [h2] at this

end Go.Lift
