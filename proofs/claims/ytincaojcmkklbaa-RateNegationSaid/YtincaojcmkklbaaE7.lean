/- A part of the proof that the law returns true for every input: no condition. -/
import Derived.Test.YtincaojcmkklbaaE6
import Derived.Laws.Tables
namespace Go.Lift

section
variable {P : Program} {w : World} {σ : Store} {bx : List (Nat × Box)} {H : Nat → Value} {n0 : Nat}

/-! index -/
theorem gives_str_index {o : Oper} {a : Act} {xt : Nat} {x ix : Operand} (ho : o.op = .index xt x ix) (ht : chk P .str xt = true) {k : IntKind} {i : Int} (hi : a.eval ix = .int k i) {s : ByteArray}
    (hx : a.eval x = .string s) (hb : inB i s.size = true) : Gives P o a w σ bx H (.tv ⟨.int .u8, ((s.get! i.toNat).toNat : Int)⟩) := by
  obtain ⟨h0, h1⟩ := inB_spec hb
  have hlt : i.toNat < s.size := by omega
  have hs : s[i.toNat]? = some (s.get! i.toNat) := by
    rw [getElem?_pos s i.toNat hlt]
    congr 1
    obtain ⟨bs⟩ := s
    have : i.toNat < bs.size := hlt
    show bs[i.toNat] = bs[i.toNat]!
    rw [getElem!_pos bs i.toNat this]
  exact ⟨.int .u8 _, by simp [execOp, ho, hx, hi, Instr.index, asIntOf, run_underlying (chk_str ht), h0, hs], relV_int σ _ _⟩

theorem gives_arr_index {o : Oper} {a : Act} {xt : Nat} {x : Operand} {k : IntKind} {n : Int} (ho : o.op = .index xt x (.const (.int k n))) {u : Ty} (ht : chk P (.cons .nil u) xt = true) (h0 : 0 ≤ n)
    {y : (Ty.cons .nil u).D} {d : TD} (hg : getFld u y.2 n.toNat = some d) (hx : RelV σ ⟨.cons .nil u, y⟩ (a.eval x)) : Gives P o a w σ bx H (.tv d) := by
  rcases chk_cons ht with ⟨fs, hu, hnn, _⟩ | ⟨m, et, hu, _, hF⟩
  · exact (hnn rfl).elim
  · obtain ⟨h1, h2, h3⟩ := hF y.2 n.toNat d hg
    obtain ⟨cs, hcs, c0, r0, e1, e2, e3⟩ := hx.agg rfl
    simp only [Enc] at e2
    subst e2
    obtain ⟨pp, c, r, g1, g2, g3⟩ := Enc.fld _ y.2 n.toNat d _ hg e3
    obtain ⟨v, k1, k2⟩ := run_part (P := P) (w := w) (σ := σ) (off := n.toNat * d.t.size) h2 (cs := cs) (p := pp) (c := c) (r := r) (by rw [e1, g1]; simp) (by rw [g2, h3]) g3
    have : n < (m : Int) := by omega
    exact ⟨v, by simp [execOp, ho, hcs, show a.eval (.const (.int k n)) = .int k n from rfl, Instr.index, asIntOf, run_underlying hu, h0, this, run_sizeOf h2, k1], k2⟩

/-! slices of slices -/
def optV (k : Option (IntKind × Int)) : Option Value := k.map fun x => .int x.1 x.2

theorem run_sliceAt' {ty et : Nat} {e : Ty} (hu : P.underlying ty = some (.slice et)) (he : chk P e et = true) (ad : Option Addr) (len cap : Nat) (lo hi : Option (IntKind × Int)) (l h : Nat)
    (hl : lo.map (·.2) = some (l : Int) ∨ (lo = none ∧ l = 0)) (hh : hi.map (·.2) = some (h : Int) ∨ (hi = none ∧ h = len)) (h1 : l ≤ h) (h2 : h ≤ cap) :
    (Instr.sliceAt ty (.slice ad len cap) (optV lo) (optV hi) none).run P w = .ok (viewV (.slice ad len cap) l h e.size) w := by
  have hs : P.elem ty = et := by simp [Program.elem, hu]
  have hbound : ∀ (k : IntKind) (i : Nat) (y : Nat) (c : BoundsCode), i ≤ y → (Instr.sliceBound (.int k (i : Int)) y c).run P w = .ok i w := by
    intro k i y c hi
    have := run_sliceBound (P := P) w k (i : Int) y c (by omega) (by omega)
    simpa using this
  have hlo : ∀ (v : Value), optV lo = some v → ∃ k, v = .int k (l : Int) := by
    intro v hv
    cases lo with
    | none => simp [optV] at hv
    | some x => simp [optV] at hv; subst hv; simp at hl; exact ⟨x.1, by rw [hl]⟩
  have hhi : ∀ (v : Value), optV hi = some v → ∃ k, v = .int k (h : Int) := by
    intro v hv
    cases hi with
    | none => simp [optV] at hv
    | some x => simp [optV] at hv; subst hv; simp at hh; exact ⟨x.1, by rw [hh]⟩
  have e1 : optV lo = none → l = 0 := by
    intro h; cases lo with
    | none => simpa using hl
    | some x => simp [optV] at h
  have e2 : optV hi = none → h = len := by
    intro h; cases hi with
    | none => simpa using hh
    | some x => simp [optV] at h
  have e2' : optV hi = none → len ≤ cap := by intro h; have := e2 h; omega
  generalize optV lo = vl at *
  generalize optV hi = vh at *
  cases vl with
  | none =>
    have := e1 rfl
    subst this
    cases vh with
    | none =>
      have := e2 rfl
      subst this
      simp [Instr.sliceAt, run_underlying hu, Instr.slice, Instr.sliceBounds, run_sizeOf he, viewV]
    | some v =>
      obtain ⟨k, rfl⟩ := hhi v rfl
      simp [Instr.sliceAt, run_underlying hu, Instr.slice, Instr.sliceBounds, run_sizeOf he, viewV, hbound k h cap _ h2]
  | some u =>
    obtain ⟨k', rfl⟩ := hlo u rfl
    cases vh with
    | none =>
      have := e2 rfl
      subst this
      simp [Instr.sliceAt, run_underlying hu, Instr.slice, Instr.sliceBounds, run_sizeOf he, viewV, hbound k' l h _ h1]
    | some v =>
      obtain ⟨k, rfl⟩ := hhi v rfl
      simp [Instr.sliceAt, run_underlying hu, Instr.slice, Instr.sliceBounds, run_sizeOf he, viewV, hbound k h cap _ h2, hbound k' l h _ h1]

theorem relV_view {e : Ty} {l : List e.D} {v : Value} (h : RelV σ ⟨.slice e, l⟩ v) (lo hi : Nat) (h1 : lo ≤ hi) (h2 : hi ≤ l.length) : RelV σ ⟨.slice e, tail l lo hi⟩ (viewV v lo hi e.size) := by
  obtain ⟨ad, cap, rfl, g1, g2, g3⟩ := h.slice
  have hlen : (tail l lo hi).length = hi - lo := by simp [tail]; omega
  refine ⟨⟨if cap = lo then ad else ad.map (·.add (lo * e.size)), cap - lo, ?_, ?_, ?_, ?_⟩, rfl⟩
  · simp only [viewV]; rw [cells_of_not rfl]; simp [hlen]
  · simp only [hlen]; omega
  · intro hn
    by_cases hc : cap = lo
    · omega
    · simp [hc] at hn; have := g2 hn; omega
  · intro i hi'
    simp only at hi'
    have hi2 : i < hi - lo := by rw [hlen] at hi'; exact hi'
    obtain ⟨a, c, k1, k2, k3, k4⟩ := g3 (lo + i) (by omega)
    subst k1
    have hc : ¬ cap = lo := by omega
    refine ⟨a.add (lo * e.size), c, by simp [hc], k2, ?_, ?_⟩
    · rw [addr_add_add, ← Nat.add_mul]; exact k3
    · have : (tail l lo hi)[i]'hi' = l[lo + i]'(by omega) := by simp [tail]
      rw [this]; exact k4

/-! build -/
theorem chkF_places : ∀ (t : Ty) (fs : List Field) (off : Nat), chkF P t fs off = true →
    ∃ places, fs.mapM (fun f => (P.info? f.type).map fun i => (f.offset, i.size)) = some places ∧ ∀ (x : t.D) (i : Nat) (d : TD), getFld t x i = some d → places[i]? = some (off + offs t i, d.t.size)
  | .nil, fs, off, h => by
    simp [chkF] at h; subst h
    exact ⟨[], by simp, fun x i d hd => by simp [getFld] at hd⟩
  | .cons a b, fs, off, h => by
    simp only [chkF] at h
    cases fs with
    | nil => simp at h
    | cons f r =>
      simp only [Bool.and_eq_true, decide_eq_true_eq] at h
      obtain ⟨places, h1, h2⟩ := chkF_places b r _ h.2
      obtain ⟨i, z, k1, k2, _⟩ := infoOK_spec (chk_info h.1.2)
      refine ⟨(f.offset, i.size) :: places, by simp [List.mapM_cons, k1, h1], fun x j d hd => ?_⟩
      cases j with
      | zero => simp [getFld] at hd; subst hd; simp [offs, k2, h.1.1.1]
      | succ j => simp only [getFld] at hd; simp [h2 x.2 j d hd, offs, Nat.add_assoc]
  | .int _, _, _, h => by simp [chkF] at h
  | .bool, _, _, h => by simp [chkF] at h
  | .str, _, _, h => by simp [chkF] at h
  | .slice _, _, _, h => by simp [chkF] at h

theorem foldl_set : ∀ (v : List Value) (k : Nat) (cells : Array Value) (p c r : List Value), cells.toList = p ++ c ++ r → c.length = v.length → ∀ off, p.length = off + k →
    ((v.zipIdx k).foldl (fun (cs : Array Value) x => cs.setIfInBounds (off + x.2) x.1) cells).toList = p ++ v ++ r
  | [], k, cells, p, c, r, h, hc, off, hp => by
    have : c = [] := List.eq_nil_of_length_eq_zero hc
    subst this; simpa using h
  | u :: v, k, cells, p, c, r, h, hc, off, hp => by
    match c, hc with
    | x :: c, hc =>
      simp only [List.zipIdx_cons, List.foldl_cons]
      rw [foldl_set v (k + 1) _ (p ++ [u]) c r ?_ (by simpa using hc) off (by simp; omega)]
      · simp
      · rw [Array.toList_setIfInBounds, h, ← hp]
        simp

theorem fill_cells (place : Nat → Option (Nat × Nat)) (cells : Array Value) (i off : Nat) (v : Value) (rest : List (Nat × Value)) (p c r : List Value) (hpl : place i = some (off, c.length))
    (hc : cells.toList = p ++ c ++ r) (hp : p.length = off) (hv : v.cells.toList.length = c.length) :
    Instr.fill place cells ((i, v) :: rest) = Instr.fill place (p ++ v.cells.toList ++ r).toArray rest := by
  have hsz : v.cells.size = c.length := by simpa using hv
  have hcs : cells.size = off + c.length + r.length := by
    have : cells.toList.length = off + c.length + r.length := by rw [hc]; simp [hp]; omega
    simpa using this
  simp only [Instr.fill, hpl, hsz]
  rw [if_neg (by simp; omega)]
  congr 1
  apply Array.ext'
  have := foldl_set v.cells.toList 0 cells p c r hc (by omega) off (by omega)
  show _ = p ++ v.cells.toList ++ r
  rw [← this, ← Array.foldl_toList]
  congr 1
  simp [Array.toList_zipIdx]

theorem setFld_get : ∀ (t : Ty) (x x' : t.D) (i : Nat) (d : TD), setFld t x i d = some x' → ∃ d0, getFld t x i = some d0
  | .cons _ _, _, _, 0, _, _ => ⟨_, rfl⟩
  | .cons _ b, x, _, n + 1, d, h => by
    simp only [setFld, Option.map_eq_some_iff] at h
    obtain ⟨y, hy, _⟩ := h
    simpa [getFld] using setFld_get b x.2 y n d hy
  | .int _, _, _, _, _, h => by simp [setFld] at h
  | .bool, _, _, _, _, h => by simp [setFld] at h
  | .str, _, _, _, _, h => by simp [setFld] at h
  | .nil, _, _, _, _, h => by simp [setFld] at h
  | .slice _, _, _, _, _, h => by simp [setFld] at h

theorem fill_build {t : Ty} {places : List (Nat × Nat)} (hpl : ∀ (x : t.D) (i : Nat) (d : TD), getFld t x i = some d → places[i]? = some (offs t i, d.t.size)) :
    ∀ (parts : List (Nat × Value)) (ds : List (Nat × TD)) (x x' : t.D) (cells : Array Value), Enc σ t x cells.toList → parts.length = ds.length →
      (∀ (k i : Nat) (v : Value), parts[k]? = some (i, v) → ∃ d : TD, ds[k]? = some (i, d) ∧ RelV σ d v) →
      ds.foldlM (fun x (id : Nat × TD) => setFld t x id.1 id.2) x = some x' → ∃ cs, Instr.fill (fun i => places[i]?) cells parts = some cs ∧ Enc σ t x' cs.toList
  | [], ds, x, x', cells, he, hl, _, hf => by
    have : ds = [] := List.eq_nil_of_length_eq_zero (by simpa using hl.symm)
    subst this
    simp at hf; subst hf
    exact ⟨cells, rfl, he⟩
  | (i, v) :: parts, ds, x, x', cells, he, hl, hp, hf => by
    match ds, hl with
    | (j, d) :: ds, hl =>
      obtain ⟨d', h1, h2⟩ := hp 0 i v rfl
      simp at h1
      obtain ⟨rfl, rfl⟩ := h1
      simp only [List.foldlM_cons, Option.bind_eq_bind, Option.bind_eq_some_iff] at hf
      obtain ⟨x1, hs, hf⟩ := hf
      have hget := setFld_get t x x1 j d hs
      obtain ⟨d0, hg⟩ := hget
      obtain ⟨p, c, r, g1, g2, g3, g4, g5⟩ := Enc.set t x x1 j d0 d cells.toList hg hs he
      have hlen : v.cells.toList.length = c.length := by rw [h2.1.length, g3.length, g4]
      rw [fill_cells _ cells j (offs t j) v parts p c r (by rw [hpl x j d0 hg, g3.length]) g1 g2 hlen]
      exact fill_build hpl parts ds x1 x' _ (by simpa using g5 _ h2.1) (by simpa using hl) (fun k i' v' hk => hp (k + 1) i' v' (by simpa using hk)) hf

theorem gives_build {o : Oper} {a : Act} {ty : Nat} {parts : Array (Nat × Operand)} (ho : o.op = .build ty parts) {t : Ty} (ht : chk P t ty = true) (harr : t.isArr = false) (hag : t.isAgg = true) {ds : List (Nat × TD)} {x' : t.D}
    (hl : parts.toList.length = ds.length) (hp : ∀ (k i : Nat) (x : Operand), parts.toList[k]? = some (i, x) → ∃ d, ds[k]? = some (i, d) ∧ RelV σ d (a.eval x))
    (hf : ds.foldlM (fun x (id : Nat × TD) => setFld t x id.1 id.2) t.zero = some x') : Gives P o a w σ bx H (.tv ⟨t, x'⟩) := by
  obtain ⟨it, z, k1, k2, _, k4, k5, k6⟩ := infoOK_spec (chk_info ht)
  have hst : ∃ fs, P.underlying ty = some (.struct fs) ∧ chkF P t fs.toList 0 = true := by
    cases t with
    | cons p q =>
      rcases chk_cons ht with ⟨fs, hu, _, hF, _⟩ | ⟨n, et, hu, ha, _⟩
      · exact ⟨fs, hu, hF⟩
      · subst ha; simp [Ty.isArr] at harr
    | nil =>
      simp only [chk, Bool.and_eq_true] at ht
      obtain ⟨_, h⟩ := ht
      split at h
      · rename_i fs hu; exact ⟨fs, hu, by simp [chkF]; simpa using h⟩
      · simp at h
    | _ => simp [Ty.isAgg] at hag
  obtain ⟨fs, hu, hF⟩ := hst
  obtain ⟨places, q1, q2⟩ := chkF_places t fs.toList 0 hF
  obtain ⟨cs, f1, f2⟩ := fill_build (σ := σ) (places := places) (fun x i d hd => by simpa using q2 x i d hd) ((parts.map fun (i, x) => (i, a.eval x)).toList) ds t.zero x' z.cells (k5 σ)
    (by simpa using hl) (fun k i v hk => by
      simp only [Array.toList_map, List.getElem?_map, Option.map_eq_some_iff, Prod.mk.injEq] at hk
      obtain ⟨⟨i', x⟩, hk1, rfl, rfl⟩ := hk
      exact hp k _ x hk1) hf
  have hb : P.built ty (parts.map fun (i, x) => (i, a.eval x)).toList = some cs := by
    simp only [Program.built, k1, hu, k4, q1]
    simpa using f1
  refine ⟨.agg cs, ?_, by simpa [Value.cells] using f2, by simp [isAggV, hag]⟩
  have hr := run_build w ty (parts.map fun (i, x) => (i, a.eval x)) cs hb
  simp [execOp, ho, hr]

end
end Go.Lift
