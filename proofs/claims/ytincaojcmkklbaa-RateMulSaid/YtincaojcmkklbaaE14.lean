/- A part of the proof that the law returns true for every input: no condition. -/
import Derived.Test.YtincaojcmkklbaaE13
set_option linter.unusedSimpArgs false
namespace Go.Lift

section
variable {P : Program} {T : Nat → Option Ty} {G : Tbl} {w w' : World} {σ σ' τ : Store} {bx bx' : List (Nat × Box)} {H H' : Nat → Value} {n0 N : Nat} {C : Nat → Prop}

def EffOK (P : Program) (C : Nat → Prop) (N n0 : Nat) (o : Oper) (a : Act) (w : World) (σ : Store) (st' : St) : Prop :=
  ∀ (next : Act → World → Prop) (Q : Exit → Act → World → Prop), (∀ v σ' w', Trans n0 σ w σ' w' → (∃ H', Rel C N n0 σ' H' st' (a.put o.dst v) w') → next (a.put o.dst v) w') → o.wp P a w next Q

theorem EffOK.before {o : Oper} {a : Act} {st' : St} (ht : Trans n0 σ w σ' w) (h : EffOK P C N n0 o a w σ' st') : EffOK P C N n0 o a w σ st' :=
  fun next Q hn => h next Q fun v σ2 w2 t r => hn v σ2 w2 (ht.trans t) r

theorem eff_alloc {o : Oper} {a : Act} {st : St} (h : Rel C N n0 σ H st a w) {t d : Nat} (ho : o.op = .alloc t) (hd : o.dst = some d) (hN : d < N) {ty : Ty} (ht : chk P ty t = true) :
    EffOK P C N n0 o a w σ (st.newBox d (.var ⟨ty, ty.zero⟩) (.ptr d none [])) := by
  intro next Q hn
  obtain ⟨z, hz, hzr⟩ := run_zeroValue (P := P) (w := w) ht
  have hs := step_alloc h.holds (.cells z.cells t)
  have hr : (execOp a.eval o).run P w = .ok (.value (.pointer (some ⟨w.heap.size, 0, none⟩))) (w.alloc (.cells z.cells t)) := by
    simp [execOp, ho, Instr.alloc, hz, newVar, newRow]
  refine wp_val hr (hn _ σ _ (hs.trans' h.base) ⟨?_, ?_⟩)
  rotate_left
  rw [hd]
  refine h.newBox hs hN (b := .var ⟨ty, ty.zero⟩) ⟨w.heap.size, z.cells, t, rfl, heap_alloc_new w _, (hzr σ).1, h.base, holds_new h.holds⟩ (fun g hg => by simp [hBlock] at hg; omega) fun bx' H' h1 h2 => ?_
  exact ⟨_, _, w.heap.size, h1, rfl, h2, rfl⟩

theorem eff_box {o : Oper} {a : Act} {st : St} (h : Rel C N n0 σ H st a w) {t d : Nat} {x : Operand} (ho : o.op = .box t x) (hd : o.dst = some d) (hN : d < N) {ty : Ty} {y : ty.D}
    (hx : RelV σ ⟨ty, y⟩ (a.eval x)) : EffOK P C N n0 o a w σ (st.newBox d (.var ⟨ty, y⟩) (.ptr d none [])) := by
  intro next Q hn
  have hs := step_alloc h.holds (.cells (a.eval x).cells t)
  have hr : (execOp a.eval o).run P w = .ok (.value (.pointer (some ⟨w.heap.size, 0, none⟩))) (w.alloc (.cells (a.eval x).cells t)) := by
    simp [execOp, ho, Instr.box, newVar, newRow]
  refine wp_val hr (hn _ σ _ (hs.trans' h.base) ⟨?_, ?_⟩)
  rotate_left
  rw [hd]
  refine h.newBox hs hN (b := .var ⟨ty, y⟩) ⟨w.heap.size, _, t, rfl, heap_alloc_new w _, hx.1, h.base, holds_new h.holds⟩ (fun g hg => by simp [hBlock] at hg; omega) fun bx' H' h1 h2 => ?_
  exact ⟨_, _, w.heap.size, h1, rfl, h2, rfl⟩

theorem range_add_map {α : Type} (f : Nat → α) (n m : Nat) : (List.range (n + m)).map f = (List.range n).map f ++ (List.range m).map fun j => f (n + j) := by
  rw [List.range_add, List.map_append, List.map_map]; rfl

theorem encL_zeros {t : Ty} {z : Array Value} (hz : Enc σ t t.zero z.toList) (hp : 0 < t.size) : ∀ m : Nat, EncL σ t (zeros t m) ((List.range (m * t.size)).map fun k => z[k % z.size]!)
  | 0 => by simp [zeros, EncL]
  | m + 1 => by
    have hzs : z.size = t.size := by have := hz.length; simpa using this
    have ih := encL_zeros hz hp m
    have e : zeros t (m + 1) = zeros t m ++ [t.zero] := by simp [zeros, List.replicate_succ']
    rw [e, Nat.add_mul, Nat.one_mul, range_add_map]
    refine EncL.app _ _ _ _ ih ⟨_, [], (List.append_nil _).symm, ?_, rfl⟩
    have : ((List.range t.size).map fun j => z[(m * t.size + j) % z.size]!) = z.toList := by
      apply List.ext_getElem
      · simp [hzs]
      · intro i h1 h2
        simp only [List.length_map, List.length_range] at h1
        simp only [List.getElem_map, List.getElem_range, hzs]
        rw [Nat.mul_comm, Nat.mul_add_mod, Nat.mod_eq_of_lt h1, getElem!_pos z i (by omega)]
        simp
    rw [this]; exact hz

theorem madeCells_list (z : Array Value) (n : Nat) : (madeCells z n).toList = (List.range n).map fun k => z[k % z.size]! := by
  simp [madeCells]

theorem eff_make {o : Oper} {a : Act} {st : St} (h : Rel C N n0 σ H st a w) {t d : Nat} {x y : Operand} (ho : o.op = .makeSlice t x y) (hd : o.dst = some d) (hN : d < N) {e : Ty} (ht : chk P (.slice e) t = true)
    {k k' : IntKind} {n c : Int} (hx : a.eval x = .int k n) (hy : a.eval y = .int k' c) (h0 : 0 ≤ n) (h1 : n ≤ c) (h2 : lenOK c.toNat = true) :
    EffOK P C N n0 o a w σ (st.newBox d (.vec e (zeros e n.toNat)) (.ref d)) := by
  intro next Q hn
  obtain ⟨et, hu, hce, hpos⟩ := chk_slice ht
  obtain ⟨i, z, k1, k2, k3, k4, k5, k6⟩ := enc_zero hce σ
  have hc : c.toNat ≤ 68719476736 := by simpa [lenOK, lenBound] using h2
  have hb : (i.bytes : Int) * c ≤ 281474976710656 := by
    have h1 : (i.bytes : Int) ≤ 2048 := by omega
    have h3 : c ≤ 68719476736 := by omega
    have : (i.bytes : Int) * c ≤ 2048 * 68719476736 := Int.mul_le_mul h1 h3 (by omega) (by omega)
    omega
  have hr := run_make (P := P) w t et i z hu k1 k3 k k' n c h0 h1 hb (by omega)
  have hs := step_alloc h.holds (.cells (madeCells z.cells (c.toNat * i.size)) et)
  have hr' : (execOp a.eval o).run P w = .ok (.value (.slice (some ⟨w.heap.size, 0, none⟩) n.toNat c.toNat)) (w.alloc (.cells (madeCells z.cells (c.toNat * i.size)) et)) := by
    simp [execOp, ho, hx, hy, hr]
  have hnc : n.toNat ≤ c.toNat := by omega
  refine wp_val hr' (hn _ σ _ (hs.trans' h.base) ⟨?_, ?_⟩)
  rotate_left
  rw [hd]
  refine h.newBox hs hN (b := .vec e (zeros e n.toNat)) (u := .slice (some ⟨w.heap.size, 0, none⟩) n.toNat c.toNat) ⟨et, (List.range (n.toNat * e.size)).map fun k => z.cells[k % z.cells.size]!, ⟨by simp [zeros], .inr ⟨w.heap.size, c.toNat, _, by simp [zeros], h.base, heap_alloc_new w _, by simpa [zeros] using hnc, by simp [maxLen]; omega, ?_, ?_⟩⟩, ?_, ?_, hpos⟩ ?_ ?_
  · rw [k2]; exact size_madeCells _ _
  · have : n.toNat * e.size ≤ c.toNat * e.size := Nat.mul_le_mul_right _ hnc
    rw [madeCells_list, k2, ← List.map_take, List.take_range]
    simp [zeros, Nat.min_eq_left this]
  · exact encL_zeros k4 hpos _
  · intro g hg; simp [hBlock] at hg; subst hg; exact holds_new h.holds
  · intro g hg; simp [hBlock] at hg; omega
  · intro bx' H' h1 h2; exact ⟨_, _, h1, h2.symm⟩

theorem eff_nil {o : Oper} {a : Act} {st : St} (h : Rel C N n0 σ H st a w) {d : Nat} {x : Operand} (ho : o.op = .assign x) (hd : o.dst = some d) (hN : d < N) {e : Ty} (hp : 0 < e.size)
    (hx : a.eval x = .slice none 0 0) : EffOK P C N n0 o a w σ (st.newBox d (.vec e []) (.ref d)) := by
  intro next Q hn
  have hr : (execOp a.eval o).run P w = .ok (.value (.slice none 0 0)) w := by simp [execOp, ho, hx]
  have hR := h.newBox (a := a) (v := .slice none 0 0) (s := .ref d) (Step.refl h.holds) hN (b := .vec e []) (u := .slice none 0 0) ⟨0, [], World.ownsRow_nil w n0 0 e.size, rfl, fun g hg => by simp [hBlock] at hg, hp⟩ (fun g hg => by simp [hBlock] at hg)
    fun bx' H' h1 h2 => ⟨_, _, h1, h2.symm⟩
  exact wp_val hr (hn _ σ _ (Trans.refl h.holds) ⟨_, by rw [hd]; exact hR⟩)

theorem eff_assign {o : Oper} {a : Act} {st : St} (h : Rel C N n0 σ H st a w) {d b : Nat} {x : Operand} (ho : o.op = .assign x) (hd : o.dst = some d) (hN : d < N) (hx : SVR σ st.bx H (.ref b) (a.eval x)) :
    EffOK P C N n0 o a w σ ⟨ins d (.ref d) (st.rename b d).sl, (st.rename b d).bx⟩ := by
  intro next Q hn
  have hr : (execOp a.eval o).run P w = .ok (.value (a.eval x)) w := by simp [execOp, ho]
  obtain ⟨t, l, h1, h2⟩ := hx
  refine wp_val hr ?_
  by_cases hbd : b = d
  · subst hbd
    refine hn _ σ _ (Trans.refl h.holds) ⟨H, ?_⟩
    rw [hd]
    have e : st.rename b b = st := by simp [St.rename, beq_self]
    rw [e]
    exact h.put (d := some b) (fun k hk => by simp at hk; omega) (s := .ref b) ⟨t, l, h1, h2⟩
  · have h' := h.rename hbd h1
    have hR := h'.put (d := some d) (v := a.eval x) (fun k hk => by simp at hk; omega) (s := .ref d) ⟨t, l, by
      unfold St.rename
      simp [beq_false hbd, h1, look_ins], by simp [h2]⟩
    exact hn _ σ _ (Trans.refl h.holds) ⟨_, by rw [hd]; exact hR⟩

/-! store -/
theorem getFld_shape : ∀ (t : Ty) (x x' : t.D) (i : Nat) (d : TD), getFld t x i = some d → ∃ d', getFld t x' i = some d' ∧ d'.t = d.t
  | .cons _ _, _, _, 0, d, h => by simp [getFld] at h; subst h; exact ⟨_, rfl, rfl⟩
  | .cons _ b, x, x', n + 1, d, h => getFld_shape b x.2 x'.2 n d h
  | .int _, _, _, _, _, h => by simp [getFld] at h
  | .bool, _, _, _, _, h => by simp [getFld] at h
  | .str, _, _, _, _, h => by simp [getFld] at h
  | .nil, _, _, _, _, h => by simp [getFld] at h
  | .slice _, _, _, _, _, h => by simp [getFld] at h

theorem getPath_shape : ∀ (p : List Nat) (d d' e : TD), d.t = d'.t → getPath d p = some e → ∃ e', getPath d' p = some e' ∧ e'.t = e.t ∧ offPath d' p = offPath d p
  | [], d, d', e, h, hp => by simp [getPath] at hp; subst hp; exact ⟨d', rfl, h.symm, rfl⟩
  | i :: p, ⟨t, x⟩, ⟨t', x'⟩, e, h, hp => by
    simp only at h; subst h
    obtain ⟨d1, h1, h2⟩ := getPath_cons hp
    obtain ⟨d2, h3, h4⟩ := getFld_shape t x x' i d1 h1
    obtain ⟨e', g1, g2, g3⟩ := getPath_shape p d1 d2 e h4.symm h2
    refine ⟨e', by simp [getPath, h3, g1], g2, ?_⟩
    simp only at h1
    simp [offPath, h1, h3, g3]

def SameBox (x y : Option Box) : Prop := y = x ∨ (∃ d d' : TD, x = some (.var d) ∧ y = some (.var d') ∧ d.t = d'.t) ∨ (∃ (t : Ty) (l l' : List t.D), x = some (.vec t l) ∧ y = some (.vec t l') ∧ l.length = l'.length)

theorem SVR1.shape (hb : ∀ c, SameBox (look c bx) (look c bx')) {s : SV} {v : Value} (h : SVR1 σ bx H s v) : SVR1 σ bx' H s v := by
  cases s with
  | ref b =>
    obtain ⟨t, l, h1, h2⟩ := h
    rcases hb b with e | ⟨d, d', e1, e2, e3⟩ | ⟨t', l1, l2, e1, e2, e3⟩
    · exact ⟨t, l, e.trans h1, h2⟩
    · rw [h1] at e1; simp at e1
    · exact ⟨t', l2, e2, h2⟩
  | view b lo hi =>
    obtain ⟨t, l, h1, h2, h3, h4⟩ := h
    rcases hb b with e | ⟨d, d', e1, e2, e3⟩ | ⟨t', l1, l2, e1, e2, e3⟩
    · exact ⟨t, l, e.trans h1, h2, h3, h4⟩
    · rw [h1] at e1; simp at e1
    · rw [h1] at e1
      simp only [Option.some.injEq, Box.vec.injEq] at e1
      obtain ⟨rfl, e1⟩ := e1
      have e1 := eq_of_heq e1
      subst e1
      exact ⟨t, l2, e2, h2, by omega, h4⟩
  | ptr b ix p =>
    cases ix with
    | none =>
      obtain ⟨d0, e0, g, h1, h2, h3, h4⟩ := h
      rcases hb b with e | ⟨d, d', e1, e2, e3⟩ | ⟨t', l1, l2, e1, e2, e3⟩
      · exact ⟨d0, e0, g, e.trans h1, h2, h3, h4⟩
      · rw [h1] at e1; simp at e1; subst e1
        obtain ⟨e', g1, g2, g3⟩ := getPath_shape p _ d' _ e3 h2
        exact ⟨d', e', g, e2, g1, h3, by rw [g3]; exact h4⟩
      · rw [h1] at e1; simp at e1
    | some i =>
      obtain ⟨t, l, e0, g, n, cc, h1, h2, h3, h4, h5⟩ := h
      rcases hb b with e | ⟨d, d', e1, e2, e3⟩ | ⟨t', l1, l2, e1, e2, e3⟩
      · exact ⟨t, l, e0, g, n, cc, e.trans h1, h2, h3, h4, h5⟩
      · rw [h1] at e1; simp at e1
      · rw [h1] at e1
        simp only [Option.some.injEq, Box.vec.injEq] at e1
        obtain ⟨rfl, e1⟩ := e1
        have e1 := eq_of_heq e1
        subst e1
        obtain ⟨e', g1, g2, g3⟩ := getPath_shape p ⟨t, l.getD i t.zero⟩ ⟨t, l2.getD i t.zero⟩ _ rfl h3
        exact ⟨t, l2, e', g, n, cc, e2, by omega, g1, h4, by rw [g3]; exact h5⟩
  | tv d => exact h
  | nils => exact h
  | cptr d => exact h
  | gone => trivial
  | own _ _ => exact h
  | tup _ => exact h

theorem SVR.shape (hb : ∀ c, SameBox (look c bx) (look c bx')) {s : SV} {v : Value} (h : SVR σ bx H s v) : SVR σ bx' H s v := by
  rcases tup_or s with ⟨l, rfl⟩ | hs
  · obtain ⟨vs, h1, h2, h3⟩ := h; exact ⟨vs, h1, h2, fun i s u hs hu => (h3 i s u hs hu).shape hb⟩
  · exact (svr_iff hs v).2 (((svr_iff hs v).1 h).shape hb)

theorem step_setRow {n0 : Nat} (hh : Holds w σ) {g : Nat} (hg : n0 ≤ g) (hn : σ g = none) (cs : Array Value) : Trans n0 σ w σ (w.setRow g cs) :=
  ⟨Store.le.refl σ, fun b o hb => by rw [setRow_other w g b cs (fun e => by subst e; rw [hn] at hb; simp at hb)]; exact hh b o hb, fun _ _ h => .inl h, by simp [World.setRow],
    fun b hb => setRow_other w g b cs (by omega), rfl, rfl, rfl⟩

theorem run_storeAt {t : Nat} {ty : Ty} (ht : chk P ty t = true) {y : ty.D} {v : Value} (hv : RelV σ ⟨ty, y⟩ v) {g off : Nat} {cur : Array Value} {et : Nat} (hg : w.heap[g]? = some (.cells cur et (0, 0)))
    {p c r : List Value} (hcur : cur.toList = p ++ c ++ r) (hp : p.length = off) (hc : c.length = ty.size) :
    (Instr.storeAt t (.pointer (some ⟨g, off, none⟩)) v).run P w = .ok () (w.setRow g (p ++ v.cells.toList ++ r).toArray) := by
  have hlen : v.cells.toList.length = ty.size := hv.1.length
  have hcs : cur.size = p.length + c.length + r.length := by
    have : cur.toList.length = p.length + c.length + r.length := by rw [hcur]; simp; omega
    simpa using this
  have hst := run_storeCells_at (P := P) g off et v.cells.toList 0 cur w hg (by rw [hlen]; omega) (hv.1.one _ _ _)
  have e1 : cur.toList.take (off + 0) = p := by rw [hcur, Nat.add_zero, ← hp, List.append_assoc]; simp
  have e2 : cur.toList.drop (off + 0 + v.cells.toList.length) = r := by
    rw [hcur, hlen, ← hc, ← hp, Nat.add_zero]; simp
  rw [e1, e2] at hst
  have hsz : v.cells.size = ty.size := by simpa using hlen
  unfold Instr.storeAt Instr.sureAddr storeVar
  simp only [Sem.run_bind, Sem.run_pure, Result.andThen_ok, run_sizeOf ht, hsz, ne_eq, not_true_eq_false, if_false, hst]

theorem eff_store_v {o : Oper} {a : Act} {st : St} (h : Rel C N n0 σ H st a w) {t b : Nat} {ad x : Operand} (ho : o.op = .store t ad x) (hd : o.dst = none) {ty : Ty} (ht : chk P ty t = true) {y : ty.D}
    (hx : RelV σ ⟨ty, y⟩ (a.eval x)) {p : List Nat} {d : TD} (hb : look b st.bx = some (.var d)) (hp : SVR σ st.bx H (.ptr b none p) (a.eval ad)) {x' : d.t.D} (hs : setPath d p ⟨ty, y⟩ = some x') :
    EffOK P C N n0 o a w σ ⟨st.sl, ins b (.var ⟨d.t, x'⟩) st.bx⟩ := by
  intro next Q hn
  obtain ⟨d0, e, g, h1, h2, h3, h4⟩ := hp
  rw [hb] at h1; simp at h1; subst h1
  obtain ⟨g', cs, cty, k1, k2, k3, k4, k5⟩ := h.box b _ hb
  rw [h3] at k1; simp at k1; subst k1
  obtain ⟨e', q0, q1, pa, c, r, q2, q3, q4, q5⟩ := Enc.setPath p d ⟨ty, y⟩ x' cs.toList hs k3
  have hst := run_storeAt (P := P) ht hx (off := offPath d p) k2 q2 q3 (by rw [q4.length, ← q1])
  have hr : (execOp a.eval o).run P w = .ok .skip (w.setRow g (pa ++ (a.eval x).cells.toList ++ r).toArray) := by simp [execOp, ho, h4, hst]
  unfold Oper.wp
  rw [hr, Oper.upon_skip]
  have ht := step_setRow (n0 := n0) h.holds k4 k5 (pa ++ (a.eval x).cells.toList ++ r).toArray
  refine hn _ σ _ ht ⟨H, ?_⟩
  rw [hd]
  have hother : ∀ k g', hBlock (H k) = some g' → k ≠ b → (∃ b', look k st.bx = some b') → (w.setRow g (pa ++ (a.eval x).cells.toList ++ r).toArray).heap[g']? = w.heap[g']? := by
    intro k g' hg' hk ⟨b', hb'⟩
    refine setRow_other w g g' _ fun eq => ?_
    subst eq
    exact h.apart b k _ b' g' hb hb' (Ne.symm hk) (by rw [h3]; rfl) hg'
  refine ⟨ht.holds, h.size, h.defers, Nat.le_trans h.base ht.size, fun k b' hk => ?_, fun k k' b1 b2 g1 hk hk' => ?_, fun k s hk hc => ?_⟩
  · simp only [look_ins] at hk
    split at hk
    · rename_i ek; subst ek
      simp at hk; subst hk
      exact ⟨g, _, cty, h3, setRow_heap w g cs _ cty _ k2, q5 _ hx.1, k4, k5⟩
    · rename_i ek
      exact (h.box k b' hk).keep (Store.le.refl σ) fun g' hg' => ⟨hother k g' hg' ek ⟨b', hk⟩, ((h.box k b' hk).block g' hg').2.2.1⟩
  · simp only [look_ins] at hk hk'
    have f : ∀ k b1, (if k = b then some (Box.var ⟨d.t, x'⟩) else look k st.bx) = some b1 → ∃ b0, look k st.bx = some b0 := by
      intro k b1 hk; split at hk
      · rename_i ek; subst ek; exact ⟨_, hb⟩
      · exact ⟨_, hk⟩
    obtain ⟨_, e1⟩ := f k b1 hk
    obtain ⟨_, e2⟩ := f k' b2 hk'
    exact h.apart k k' _ _ g1 e1 e2
  · refine SVR.shape (fun c => ?_) (h.slot k s hk hc)
    simp only [look_ins]
    split
    · rename_i ek; subst ek; right; left; exact ⟨d, ⟨d.t, x'⟩, hb, rfl, rfl⟩
    · exact .inl rfl

end
end Go.Lift
