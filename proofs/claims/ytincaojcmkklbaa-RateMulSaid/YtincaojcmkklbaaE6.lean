/- A part of the proof that the law returns true for every input: no condition. -/
import Derived.Test.YtincaojcmkklbaaE5
namespace Go.Lift

section
variable {P : Program} {w : World} {σ : Store} {bx : List (Nat × Box)} {H : Nat → Value} {n0 : Nat}

theorem gives_not {o : Oper} {a : Act} {xt : Nat} {x : Operand} (ho : o.op = .unOp .not xt x) {b : Bool} (hx : a.eval x = .bool b) : Gives P o a w σ bx H (.tv ⟨.bool, !b⟩) :=
  ⟨.bool (!b), by simp [execOp, ho, hx, Op.unary], relV_bool σ _⟩
theorem gives_neg {o : Oper} {a : Act} {xt : Nat} {x : Operand} (ho : o.op = .unOp .neg xt x) {k : IntKind} {n : Int} (hx : a.eval x = .int k n) : Gives P o a w σ bx H (.tv ⟨.int k, k.wrap (0 - n)⟩) :=
  ⟨.int k (k.wrap (0 - n)), by simp [execOp, ho, hx, Op.unary, Op.intArith], relV_int σ _ _⟩
theorem gives_inv {o : Oper} {a : Act} {xt : Nat} {x : Operand} (ho : o.op = .unOp .xor xt x) {k : IntKind} {n : Int} (hx : a.eval x = .int k n) :
    Gives P o a w σ bx H (.tv ⟨.int k, bitI .xor k (if k.signed then -1 else k.max) n⟩) :=
  ⟨.int k (bitI .xor k (if k.signed then -1 else k.max) n), by simp [execOp, ho, hx, Op.unary, Op.intBits, bitI], relV_int σ _ _⟩

theorem chk_some {t : Ty} {ty : Nat} (h : chk P t ty = true) : ∃ d, P.underlying ty = some d := by
  cases t with
  | int k => exact ⟨_, chk_int h⟩
  | bool => exact ⟨_, chk_bool h⟩
  | str => exact ⟨_, chk_str h⟩
  | slice e => obtain ⟨et, hu, _⟩ := chk_slice h; exact ⟨_, hu⟩
  | nil =>
    simp only [chk, Bool.and_eq_true] at h
    obtain ⟨_, h⟩ := h
    split at h
    · rename_i fs hu; exact ⟨_, hu⟩
    · simp at h
  | cons a b => rcases chk_cons h with ⟨fs, hu, _, _, _⟩ | ⟨n, et, hu, _⟩ <;> exact ⟨_, hu⟩

theorem gives_convert {o : Oper} {a : Act} {src dst : Nat} {x : Operand} (ho : o.op = .convert src dst x) {t : Ty} (hs : chk P t src = true) {k k' : IntKind} (hd : chk P (.int k) dst = true) {n : Int}
    (hx : a.eval x = .int k' n) : Gives P o a w σ bx H (.tv ⟨.int k, k.wrap n⟩) := by
  obtain ⟨d, hu⟩ := chk_some hs
  have hr : (convert src dst (.int k' n)).run P w = .ok (.int k (k.wrap n)) w := by
    simp [convert, run_underlying hu, run_underlying (chk_int hd), Conv.intToInt]
  exact ⟨_, by simp [execOp, ho, hx, hr], relV_int σ _ _⟩

theorem gives_field {o : Oper} {a : Act} {xt f : Nat} {x : Operand} (ho : o.op = .field xt x f) {t : Ty} (ht : chk P t xt = true) {y : t.D} {d : TD} (hg : getFld t y f = some d)
    (hx : RelV σ ⟨t, y⟩ (a.eval x)) (hnil : ∀ u, t ≠ .cons .nil u) : Gives P o a w σ bx H (.tv d) := by
  cases t with
  | cons p q =>
    rcases chk_cons ht with ⟨fs, hu, _, _, hF⟩ | ⟨n, et, hu, ha, _⟩
    · obtain ⟨fd, h1, h2, h3⟩ := hF y f d hg
      obtain ⟨cs, hcs, he⟩ := hx.agg rfl
      obtain ⟨pp, c, r, g1, g2, g3⟩ := Enc.fld _ y f d _ hg he
      obtain ⟨v, k1, k2⟩ := run_part (P := P) (w := w) (σ := σ) (off := fd.offset) h3 g1 (by rw [g2, h2]) g3
      exact ⟨v, by simp [execOp, ho, hcs, Instr.field, run_underlying hu, h1, asAgg, k1], k2⟩
    · exact (hnil q (by rw [ha])).elim
  | _ => simp [getFld] at hg

theorem run_fieldAt {s f : Nat} {t : Ty} (ht : chk P t s = true) (hnil : ∀ u, t ≠ .cons .nil u) {y : t.D} {d : TD} (hg : getFld t y f = some d) (hd : d.t.size ≠ 0) (ad : Addr) :
    (Instr.fieldAt s (.pointer (some ad)) f).run P w = .ok (.pointer (some (ad.add (offs t f)))) w := by
  cases t with
  | cons p q =>
    rcases chk_cons ht with ⟨fs, hu, _, _, hF⟩ | ⟨n, et, hu, ha, _⟩
    · obtain ⟨fd, h1, h2, h3⟩ := hF y f d hg
      simp [Instr.fieldAt, run_underlying hu, h1, Instr.sureAddr, fieldPlace, run_sizeOf h3, hd, h2]
    · exact (hnil q (by rw [ha])).elim
  | _ => simp [getFld] at hg

theorem gives_fieldAddr_c {o : Oper} {a : Act} {s f : Nat} {x : Operand} (ho : o.op = .fieldAddr s x f) {t : Ty} (ht : chk P t s = true) (hnil : ∀ u, t ≠ .cons .nil u) {y : t.D} {d : TD} (hg : getFld t y f = some d) (hd : d.t.size ≠ 0)
    (hx : SVR σ bx H (.cptr ⟨t, y⟩) (a.eval x)) : Gives P o a w σ bx H (.cptr d) := by
  obtain ⟨ad, cs, h1, h2, h3⟩ := hx
  obtain ⟨pp, c, r, g1, g2, g3⟩ := Enc.fld _ y f d _ hg h3
  refine ⟨_, by simp [execOp, ho, h1, run_fieldAt ht hnil hg hd], ad.add (offs t f), c, rfl, ?_, g3⟩
  subst g1
  have := (h2.app.1).app.2
  rwa [g2] at this

theorem gives_fieldAddr_v {o : Oper} {a : Act} {s f b : Nat} {p : List Nat} {x : Operand} (ho : o.op = .fieldAddr s x f) {t : Ty} (ht : chk P t s = true) (hnil : ∀ u, t ≠ .cons .nil u) {y : t.D} {d : TD} (hg : getFld t y f = some d) (hd : d.t.size ≠ 0)
    (hx : SVR σ bx H (.ptr b none p) (a.eval x)) (hp : ∀ d0, look b bx = some (.var d0) → getPath d0 p = some ⟨t, y⟩) : Gives P o a w σ bx H (.ptr b none (p ++ [f])) := by
  obtain ⟨d0, e, g, h1, h2, h3, h4⟩ := hx
  have hpe := hp d0 h1
  refine ⟨.pointer (some ⟨g, offPath d0 (p ++ [f]), none⟩), ?_, d0, d, g, h1, getPath_snoc p d0 _ d f hpe hg, h3, rfl⟩
  rw [offPath_snoc p d0 _ f hpe]
  simp [execOp, ho, h4, run_fieldAt ht hnil hg hd, addr_lit]

theorem gives_fieldAddr_e {o : Oper} {a : Act} {s f b i : Nat} {p : List Nat} {x : Operand} (ho : o.op = .fieldAddr s x f) {t : Ty} (ht : chk P t s = true) (hnil : ∀ u, t ≠ .cons .nil u) {y : t.D} {d : TD} (hg : getFld t y f = some d) (hd : d.t.size ≠ 0)
    (hx : SVR σ bx H (.ptr b (some i) p) (a.eval x)) (hp : ∀ e l, look b bx = some (.vec e l) → getPath ⟨e, l.getD i e.zero⟩ p = some ⟨t, y⟩) : Gives P o a w σ bx H (.ptr b (some i) (p ++ [f])) := by
  obtain ⟨e, l, d1, g, n, c, h1, h2, h3, h4, h5⟩ := hx
  have hpe := hp e l h1
  refine ⟨.pointer (some ⟨g, i * e.size + offPath ⟨e, l.getD i e.zero⟩ (p ++ [f]), none⟩), ?_, e, l, d, g, n, c, h1, h2, getPath_snoc p _ _ d f hpe hg, h4, rfl⟩
  rw [offPath_snoc p _ _ f hpe]
  simp [execOp, ho, h5, run_fieldAt ht hnil hg hd, addr_lit, Nat.add_assoc]

/-! indexAddr -/
theorem inB_spec {i : Int} {n : Nat} (h : inB i n = true) : 0 ≤ i ∧ i < n := by simpa [inB] using h

theorem run_indexAt {ty et : Nat} {e : Ty} (hu : P.underlying ty = some (.slice et)) (he : chk P e et = true) (ad : Addr) (len cap : Nat) (k : IntKind) (i : Int) (h0 : 0 ≤ i) (h1 : i < len) :
    (Instr.indexAt ty (.slice (some ad) len cap) (.int k i)).run P w = .ok (.pointer (some (ad.add (i.toNat * e.size)))) w := by
  simp [Instr.indexAt, run_underlying hu, asIntOf, h0, h1, run_sizeOf he]

theorem gives_index_c {o : Oper} {a : Act} {ty : Nat} {x ix : Operand} (ho : o.op = .indexAddr ty x ix) {e : Ty} (ht : chk P (.slice e) ty = true) {k : IntKind} {i : Int} (hi : a.eval ix = .int k i)
    {l : List e.D} (hx : RelV σ ⟨.slice e, l⟩ (a.eval x)) (hb : inB i l.length = true) : Gives P o a w σ bx H (.cptr ⟨e, l.getD i.toNat e.zero⟩) := by
  obtain ⟨et, hu, he, _⟩ := chk_slice ht
  obtain ⟨h0, h1⟩ := inB_spec hb
  obtain ⟨ad, cap, hv, hcap, _, hel⟩ := hx.slice
  have hlt : i.toNat < l.length := by omega
  obtain ⟨a', c, g1, g2, g3, g4⟩ := hel i.toNat hlt
  subst g1
  refine ⟨_, by simp [execOp, ho, hv, hi, run_indexAt hu he a' l.length cap k i h0 h1], _, c, rfl, g3, ?_⟩
  simpa [List.getD, List.getElem?_eq_getElem hlt] using g4

theorem ownsRow_inv {et : Nat} {v : Value} {n size : Nat} {xs : List Value} (h : w.ownsRow n0 et size v n xs) (hn : 0 < n) :
    ∃ g cap cur, v = .slice (some ⟨g, 0, none⟩) n cap ∧ w.heap[g]? = some (.cells cur et (0, 0)) ∧ n ≤ cap ∧ cur.size = cap * size ∧ cur.toList.take (n * size) = xs ∧ n0 ≤ g := by
  rcases h.2 with ⟨_, rfl⟩ | ⟨g, cap, cur, h1, h2, h3, h4, _, h5, h6⟩
  · omega
  · exact ⟨g, cap, cur, h1, h3, h4, h5, h6, h2⟩

theorem gives_index_r {o : Oper} {a : Act} {ty b : Nat} {x ix : Operand} (ho : o.op = .indexAddr ty x ix) {e : Ty} (ht : chk P (.slice e) ty = true) {k : IntKind} {i : Int} (hi : a.eval ix = .int k i)
    {l : List e.D} (hbx : look b bx = some (.vec e l)) (hB : BoxR σ w n0 (.vec e l) (H b)) (hx : a.eval x = H b) (hb : inB i l.length = true) : Gives P o a w σ bx H (.ptr b (some i.toNat) []) := by
  obtain ⟨et, hu, he, _⟩ := chk_slice ht
  obtain ⟨h0, h1⟩ := inB_spec hb
  obtain ⟨ety, xs, hown, _⟩ := hB
  obtain ⟨g, cap, cur, hv, _⟩ := ownsRow_inv hown (by omega)
  refine ⟨.pointer (some ⟨g, i.toNat * e.size, none⟩), by simp [execOp, ho, hx, hv, hi, run_indexAt hu he _ l.length cap k i h0 h1, addr_lit], e, l, ⟨e, l.getD i.toNat e.zero⟩, g, _, cap, hbx, by omega, rfl, hv, ?_⟩
  simp [offPath]

theorem gives_index_w {o : Oper} {a : Act} {ty b lo hi : Nat} {x ix : Operand} (ho : o.op = .indexAddr ty x ix) {e : Ty} (ht : chk P (.slice e) ty = true) {k : IntKind} {i : Int} (hix : a.eval ix = .int k i)
    {l : List e.D} (hbx : look b bx = some (.vec e l)) (hB : BoxR σ w n0 (.vec e l) (H b)) (hx : SVR σ bx H (.view b lo hi) (a.eval x)) (hb : inB i (hi - lo) = true) : Gives P o a w σ bx H (.ptr b (some (lo + i.toNat)) []) := by
  obtain ⟨et, hu, he, _⟩ := chk_slice ht
  obtain ⟨h0, h1⟩ := inB_spec hb
  obtain ⟨e', l', q1, q2, q3, q4⟩ := hx
  rw [hbx] at q1
  simp only [Option.some.injEq, Box.vec.injEq] at q1
  obtain ⟨rfl, q1⟩ := q1
  have q1 := eq_of_heq q1
  subst q1
  obtain ⟨ety, xs, hown, _⟩ := hB
  obtain ⟨g, cap, cur, hv, _, hcap, _⟩ := ownsRow_inv hown (by omega)
  have hne : ¬ cap = lo := by omega
  rw [hv] at q4
  simp only [viewV, if_neg hne, Option.map_some, addr_lit, Nat.zero_add] at q4
  refine ⟨.pointer (some ⟨g, lo * e.size + i.toNat * e.size, none⟩), by simp [execOp, ho, q4, hix, run_indexAt hu he _ (hi - lo) (cap - lo) k i h0 (by omega), addr_lit], e, l, ⟨e, l.getD (lo + i.toNat) e.zero⟩, g, _, cap, hbx, by omega, rfl, hv, ?_⟩
  simp [offPath, Nat.add_mul]

end
end Go.Lift
