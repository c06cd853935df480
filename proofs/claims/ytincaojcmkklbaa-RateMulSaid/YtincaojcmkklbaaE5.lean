/- A part of the proof that the law returns true for every input: no condition. -/
import Derived.Test.YtincaojcmkklbaaE4
namespace Go.Lift

section
variable {P : Program} {T : Nat → Option Ty} {w : World} {σ : Store} {bx : List (Nat × Box)} {H : Nat → Value} {n0 : Nat}

def Gives (P : Program) (o : Oper) (a : Act) (w : World) (σ : Store) (bx : List (Nat × Box)) (H : Nat → Value) (s : SV) : Prop :=
  ∃ v, (execOp a.eval o).run P w = .ok (.value v) w ∧ SVR σ bx H s v

def BoxesR (σ : Store) (w : World) (n0 : Nat) (bx : List (Nat × Box)) (H : Nat → Value) : Prop := ∀ k b, look k bx = some b → BoxR σ w n0 b (H k)

theorem int_inv {s : SV} {k : IntKind} {n : Int} (h : s.int = some (k, n)) : s = .tv ⟨.int k, n⟩ := by
  unfold SV.int at h
  split at h
  · simp at h; obtain ⟨rfl, rfl⟩ := h; rfl
  · simp at h

theorem boolean_inv {s : SV} {b : Bool} (h : s.boolean = some b) : s = .tv ⟨.bool, b⟩ := by
  unfold SV.boolean at h
  split at h
  · simp at h; subst h; rfl
  · simp at h

theorem svr_int {k : IntKind} {n : Int} {v : Value} (h : SVR σ bx H (.tv ⟨.int k, n⟩) v) : v = .int k n := RelV.int h
theorem svr_bool {b : Bool} {v : Value} (h : SVR σ bx H (.tv ⟨.bool, b⟩) v) : v = .bool b := RelV.bool h

theorem gives_pick {o : Oper} {a : Act} {c x y : Operand} (ho : o.op = .pick c x y) {cb xb yb : Bool} (hc : a.eval c = .bool cb)
    (hx : cb = true → a.eval x = .bool xb) (hy : cb = false → a.eval y = .bool yb) : Gives P o a w σ bx H (.tv ⟨.bool, bif cb then xb else yb⟩) := by
  cases cb
  · exact ⟨.bool yb, by simp [execOp, ho, hc, asBool, hy rfl], relV_bool σ yb⟩
  · exact ⟨.bool xb, by simp [execOp, ho, hc, asBool, hx rfl], relV_bool σ xb⟩

theorem gives_load {o : Oper} {a : Act} {ty : Nat} {x : Operand} (ho : o.op = .load ty x) {t : Ty} (ht : chk P t ty = true) {ad : Addr} {cs : List Value} {y : t.D}
    (hx : a.eval x = .pointer (some ad)) (hat : At w ad cs) (he : Enc σ t y cs) : Gives P o a w σ bx H (.tv ⟨t, y⟩) := by
  obtain ⟨v, h1, h2⟩ := run_loadAt (P := P) (σ := σ) ht hat he
  exact ⟨v, by simp [execOp, ho, hx, h1], h2⟩

theorem run_intOp {op : BinOp} {k : IntKind} {x y : Int} {r : TD} (xt : Nat) (h : intOp op k x y = some (true, r)) :
    ∃ v, (binOp op xt (.int k x) (.int k y)).run P w = .ok v w ∧ RelV σ r v := by
  cases op <;> simp only [intOp, Option.some.injEq, Prod.mk.injEq, reduceCtorEq] at h
  all_goals obtain ⟨h0, rfl⟩ := h
  case quo => exact ⟨_, by have h1 : y ≠ 0 := by simpa using h0
                           simp [binOp, Op.intDiv, h1], relV_int σ k _⟩
  case rem => exact ⟨_, by have h1 : y ≠ 0 := by simpa using h0
                           simp [binOp, Op.intDiv, h1], relV_int σ k _⟩
  case and => exact ⟨.int k (bitI .and k x y), by simp [binOp, Op.intBits, bitI], relV_int σ k _⟩
  case or => exact ⟨.int k (bitI .or k x y), by simp [binOp, Op.intBits, bitI], relV_int σ k _⟩
  case xor => exact ⟨.int k (bitI .xor k x y), by simp [binOp, Op.intBits, bitI], relV_int σ k _⟩
  case andNot => exact ⟨.int k (bitI .andNot k x y), by simp [binOp, Op.intBits, bitI], relV_int σ k _⟩
  case add => exact ⟨_, by simp [binOp, Op.intArith], relV_int σ k _⟩
  case sub => exact ⟨_, by simp [binOp, Op.intArith], relV_int σ k _⟩
  case mul => exact ⟨_, by simp [binOp, Op.intArith], relV_int σ k _⟩
  all_goals exact ⟨.bool _, by simp [binOp, Op.intCmp], relV_bool σ _⟩

theorem run_shiftOp {op : BinOp} {k k' : IntKind} {x y : Int} {r : TD} (xt : Nat) (h : shiftOp op k x y = some (true, r)) :
    ∃ v, (binOp op xt (.int k x) (.int k' y)).run P w = .ok v w ∧ RelV σ r v := by
  cases op <;> simp only [shiftOp, Option.some.injEq, Prod.mk.injEq, reduceCtorEq] at h
  all_goals obtain ⟨h0, rfl⟩ := h
  all_goals simp at h0
  all_goals exact ⟨_, by simp [binOp, Op.shift, show ¬ y < 0 by omega], relV_int σ k _⟩

theorem run_eqGuard_int (op : BinOp) (xt : Nat) (x y : Operand) (k k' : IntKind) (m n : Int) : (eqGuard op xt x y (.int k m) (.int k' n)).run P w = .ok () w := by
  cases op <;> simp [eqGuard]
theorem run_eqGuard_bool (op : BinOp) (xt : Nat) (x y : Operand) (m n : Bool) : (eqGuard op xt x y (.bool m) (.bool n)).run P w = .ok () w := by
  cases op <;> simp [eqGuard]
theorem run_eqGuard_str (op : BinOp) (xt : Nat) (x y : Operand) (m n : ByteArray) : (eqGuard op xt x y (.string m) (.string n)).run P w = .ok () w := by
  cases op <;> simp [eqGuard]

theorem gives_int {o : Oper} {a : Act} {op : BinOp} {xt yt : Nat} {x y : Operand} (ho : o.op = .binOp op xt x y yt) {k : IntKind} {m n : Int} {r : TD}
    (hx : a.eval x = .int k m) (hy : a.eval y = .int k n) (h : intOp op k m n = some (true, r)) : Gives P o a w σ bx H (.tv r) := by
  obtain ⟨v, h1, h2⟩ := run_intOp (P := P) (w := w) (σ := σ) xt h
  exact ⟨v, by simp [execOp, ho, hx, hy, run_eqGuard_int, h1], h2⟩

theorem gives_shift {o : Oper} {a : Act} {op : BinOp} {xt yt : Nat} {x y : Operand} (ho : o.op = .binOp op xt x y yt) {k k' : IntKind} {m n : Int} {r : TD}
    (hx : a.eval x = .int k m) (hy : a.eval y = .int k' n) (h : shiftOp op k m n = some (true, r)) : Gives P o a w σ bx H (.tv r) := by
  obtain ⟨v, h1, h2⟩ := run_shiftOp (P := P) (w := w) (σ := σ) (k' := k') xt h
  exact ⟨v, by simp [execOp, ho, hx, hy, run_eqGuard_int, h1], h2⟩

theorem gives_bool_eq {o : Oper} {a : Act} {xt yt : Nat} {x y : Operand} (ho : o.op = .binOp .eql xt x y yt) (ht : chk P .bool xt = true) {m n : Bool}
    (hx : a.eval x = .bool m) (hy : a.eval y = .bool n) : Gives P o a w σ bx H (.tv ⟨.bool, m == n⟩) :=
  ⟨.bool (m == n), by simp [execOp, ho, hx, hy, run_eqGuard_bool, run_eql_bool w xt m n (chk_bool ht)], relV_bool σ _⟩
theorem gives_bool_ne {o : Oper} {a : Act} {xt yt : Nat} {x y : Operand} (ho : o.op = .binOp .neq xt x y yt) (ht : chk P .bool xt = true) {m n : Bool}
    (hx : a.eval x = .bool m) (hy : a.eval y = .bool n) : Gives P o a w σ bx H (.tv ⟨.bool, !(m == n)⟩) :=
  ⟨.bool (!(m == n)), by simp [execOp, ho, hx, hy, run_eqGuard_bool, run_neq_bool w xt m n (chk_bool ht)], relV_bool σ _⟩
theorem gives_str_eq {o : Oper} {a : Act} {xt yt : Nat} {x y : Operand} (ho : o.op = .binOp .eql xt x y yt) {m n : ByteArray}
    (hx : a.eval x = .string m) (hy : a.eval y = .string n) : Gives P o a w σ bx H (.tv ⟨.bool, m == n⟩) :=
  ⟨.bool (m == n), by simp [execOp, ho, hx, hy, run_eqGuard_str, binOp, Op.stringOp, beq_toListBytes], relV_bool σ _⟩
theorem gives_str_ne {o : Oper} {a : Act} {xt yt : Nat} {x y : Operand} (ho : o.op = .binOp .neq xt x y yt) {m n : ByteArray}
    (hx : a.eval x = .string m) (hy : a.eval y = .string n) : Gives P o a w σ bx H (.tv ⟨.bool, !(m == n)⟩) :=
  ⟨.bool (!(m == n)), by simp [execOp, ho, hx, hy, run_eqGuard_str, binOp, Op.stringOp, beq_toListBytes], relV_bool σ _⟩

/-! equality of structs -/
theorem run_part {t : Ty} {ty off : Nat} (h : chk P t ty = true) {x : t.D} {cs : Array Value} {p c r : List Value} (hc : cs.toList = p ++ c ++ r) (hp : p.length = off) (he : Enc σ t x c) :
    ∃ v, (part ty cs off).run P w = .ok v w ∧ RelV σ ⟨t, x⟩ v := by
  refine ⟨_, ?_, relV_part (σ := σ) (d := ⟨t, x⟩) he⟩
  unfold part
  simp only [Sem.run_bind, run_isAgg h, Result.andThen_ok]
  cases hag : t.isAgg with
  | true =>
    simp [run_sizeOf h]
    have hl := he.length
    apply Array.ext'
    simp only [Array.toList_extract, List.extract_eq_take_drop, hc]
    rw [← hp, ← hl]
    simp
  | false =>
    have hlen : c.length = 1 := by rw [he.length]; cases t <;> simp_all [Ty.isAgg, Ty.size]
    match c, hlen with
    | [u], _ =>
      have : cs[off]? = some u := by
        have : cs.toList[off]? = some u := by rw [hc, List.append_assoc, List.getElem?_append_right (by omega)]; simp [hp]
        simpa using this
      simp [this]

mutual
theorem run_eqT {τ : Store} : ∀ (t : Ty) (d ty : Nat), t.eqable = true → t.dep ≤ d → chk P t ty = true → t ≠ .nil → ∀ (x y : t.D) (u v : Value), RelV σ ⟨t, x⟩ u → RelV τ ⟨t, y⟩ v →
    (Op.equalIn (d + 1) ty u v).run P w = .ok (eqD t x y) w
  | .int k, d, ty, _, _, hc, _, x, y, u, v, hu, hv => by
    rw [RelV.int hu, RelV.int hv, run_equalIn_int w d ty k k x y (chk_int hc)]; rfl
  | .bool, d, ty, _, _, hc, _, x, y, u, v, hu, hv => by
    rw [RelV.bool hu, RelV.bool hv, run_equalIn_bool' w d ty x y (chk_bool hc)]; rfl
  | .str, d, ty, _, _, hc, _, x, y, u, v, hu, hv => by
    rw [RelV.str hu, RelV.str hv, run_equalIn_string w d ty x y (chk_str hc), ← beq_toListBytes]; rfl
  | .slice _, _, _, h, _, _, _, _, _, _, _, _, _ => by simp [Ty.eqable] at h
  | .nil, _, _, _, _, _, h, _, _, _, _, _, _ => (h rfl).elim
  | .cons a b, d, ty, he, hd, hc, _, x, y, u, v, hu, hv => by
    rcases chk_cons hc with ⟨fs, hun, _, hF, _⟩ | ⟨n, et, hun, ha, _⟩
    · obtain ⟨cs, rfl, hcs⟩ := hu.agg rfl
      obtain ⟨ds, rfl, hds⟩ := hv.agg rfl
      have hfo : P.fieldsOf ty = fs := by simp [Program.fieldsOf, hun]
      rw [run_equalIn_struct w d ty cs ds (by rw [hfo]; exact hun) (chk_struct_eq hc).1, hfo]
      exact run_eqF (.cons a b) d fs.toList 0 he hd hF x y cs ds [] [] cs.toList ds.toList [] [] (by simp) (by simp) rfl rfl hcs hds
    · subst ha; simp [Ty.eqable] at he
theorem run_eqF {τ : Store} : ∀ (t : Ty) (d : Nat) (fs : List Field) (off : Nat), t.eqable = true → t.dep ≤ d → chkF P t fs off = true → ∀ (x y : t.D) (xs ys : Array Value) (p q c e r s : List Value),
    xs.toList = p ++ c ++ r → ys.toList = q ++ e ++ s → p.length = off → q.length = off → Enc σ t x c → Enc τ t y e → (Op.eqFields d xs ys fs).run P w = .ok (eqD t x y) w
  | .nil, d, fs, off, _, _, hF, x, y, xs, ys, p, q, c, e, r, s, _, _, _, _, _, _ => by
    simp [chkF] at hF; subst hF; simp [Op.eqFields, eqD]
  | .cons a b, d, fs, off, he, hd, hF, x, y, xs, ys, p, q, c, e, r, s, hx, hy, hp, hq, hc, hy' => by
    simp only [chkF] at hF
    cases fs with
    | nil => simp at hF
    | cons f fs =>
      simp only [Bool.and_eq_true, decide_eq_true_eq] at hF
      obtain ⟨⟨⟨h1, h2⟩, h3⟩, h4⟩ := hF
      obtain ⟨c1, r1, k1, k2, k3⟩ := hc
      obtain ⟨e1, s1, g1, g2, g3⟩ := hy'
      subst k1; subst g1
      have ha : a ≠ .nil := by intro h; subst h; simp [Ty.eqable] at he
      have hea : a.eqable = true ∧ b.eqable = true := by
        cases a <;> simp_all [Ty.eqable]
      simp only [Ty.dep] at hd
      obtain ⟨u, hu1, hu2⟩ := run_part (P := P) (w := w) (σ := σ) (off := off) h3 (cs := xs) (p := p) (c := c1) (r := r1 ++ r) (by simp [hx]) hp k2
      obtain ⟨v, hv1, hv2⟩ := run_part (P := P) (w := w) (σ := τ) (off := off) h3 (cs := ys) (p := q) (c := e1) (r := s1 ++ s) (by simp [hy]) hq g2
      obtain ⟨d, rfl⟩ : ∃ d', d = d' + 1 := ⟨d - 1, by omega⟩
      have hE := run_eqT a d f.type hea.1 (by omega) h3 ha x.1 y.1 u v hu2 hv2
      have hR := run_eqF b (d + 1) fs (off + a.size) hea.2 (by omega) h4 x.2 y.2 xs ys (p ++ c1) (q ++ e1) r1 s1 r s (by simp [hx]) (by simp [hy]) (by simp [hp, k2.length]) (by simp [hq, g2.length]) k3 g3
      simp only [Op.eqFields, if_pos h2, h1, Sem.run_bind, hu1, hv1, hE, Result.andThen_ok, eqD]
      cases eqD a x.1 y.1
      · simp
      · simpa using hR
  | .int _, _, _, _, _, _, h, _, _, _, _, _, _, _, _, _, _, _, _, _, _, _, _ => by simp [chkF] at h
  | .bool, _, _, _, _, _, h, _, _, _, _, _, _, _, _, _, _, _, _, _, _, _, _ => by simp [chkF] at h
  | .str, _, _, _, _, _, h, _, _, _, _, _, _, _, _, _, _, _, _, _, _, _, _ => by simp [chkF] at h
  | .slice _, _, _, _, _, _, h, _, _, _, _, _, _, _, _, _, _, _, _, _, _, _, _ => by simp [chkF] at h
end

theorem gives_agg_eq {o : Oper} {a : Act} {xt yt : Nat} {x y : Operand} (ho : o.op = .binOp .eql xt x y yt) {t u : Ty} (ht : chk P (.cons t u) xt = true) (he : (Ty.cons t u).eqable = true)
    (hd : (Ty.cons t u).dep < 1000) {m n : (Ty.cons t u).D} (hx : RelV σ ⟨.cons t u, m⟩ (a.eval x)) (hy : RelV σ ⟨.cons t u, n⟩ (a.eval y)) :
    Gives P o a w σ bx H (.tv ⟨.bool, eqD (.cons t u) m n⟩) := by
  have hr := run_eqT (P := P) (w := w) (.cons t u) 9999 xt he (by omega) ht (by simp) m n _ _ hx hy
  obtain ⟨cs, h1, _⟩ := hx.agg rfl
  obtain ⟨ds, h2, _⟩ := hy.agg rfl
  rw [h1, h2] at hr
  refine ⟨.bool _, ?_, relV_bool σ _⟩
  simp [execOp, ho, h1, h2, run_eqGuard_agg w .eql xt x y cs ds (chk_struct_eq ht).2, run_eql_struct, hr]

theorem gives_agg_ne {o : Oper} {a : Act} {xt yt : Nat} {x y : Operand} (ho : o.op = .binOp .neq xt x y yt) {t u : Ty} (ht : chk P (.cons t u) xt = true) (he : (Ty.cons t u).eqable = true)
    (hd : (Ty.cons t u).dep < 1000) {m n : (Ty.cons t u).D} (hx : RelV σ ⟨.cons t u, m⟩ (a.eval x)) (hy : RelV σ ⟨.cons t u, n⟩ (a.eval y)) :
    Gives P o a w σ bx H (.tv ⟨.bool, !eqD (.cons t u) m n⟩) := by
  have hr := run_eqT (P := P) (w := w) (.cons t u) 9999 xt he (by omega) ht (by simp) m n _ _ hx hy
  obtain ⟨cs, h1, _⟩ := hx.agg rfl
  obtain ⟨ds, h2, _⟩ := hy.agg rfl
  rw [h1, h2] at hr
  refine ⟨.bool _, ?_, relV_bool σ _⟩
  simp [execOp, ho, h1, h2, run_eqGuard_agg w .neq xt x y cs ds (chk_struct_eq ht).2, run_neq_struct, hr]

end
end Go.Lift
