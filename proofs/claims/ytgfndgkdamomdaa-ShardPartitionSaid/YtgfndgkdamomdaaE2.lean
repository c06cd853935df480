/- A part of the proof that the law returns true for every input: no condition. -/
import Derived.Test.YtgfndgkdamomdaaE1
import Derived.RangeFuncRecord
import Derived.RangeFuncLeaves
import Derived.OrdersIn
import Derived.Carry
import Derived.Deep.Slices
import Derived.WalkKit
import Derived.ProofKit
import Derived.OpenShut
set_option linter.unusedSimpArgs false
namespace Go.Lift

section
variable {P : Program} {T : Nat → Option Ty} {G : Tbl} {w w' : World} {σ σ' τ : Store P} {bx bx' : List (Nat × Box)} {H H' : Nat → Value} {n0 N : Nat} {C : Nat → Prop}

def EffOK (P : Program) (C : Nat → Prop) (N n0 : Nat) (o : Oper) (a : Act) (w : World) (σ : Store P) (st' : St) : Prop :=
  ∀ (next : Act → World → Prop) (Q : Exit → Act → World → Prop), (∀ v σ' w', Trans n0 σ w σ' w' → (∃ H', Rel C N n0 σ' H' st' (a.put o.dst v) w') → next (a.put o.dst v) w') → o.wp P a w next Q

theorem EffOK.before {o : Oper} {a : Act} {st' : St} (ht : Trans n0 σ w σ' w) (h : EffOK P C N n0 o a w σ' st') : EffOK P C N n0 o a w σ st' :=
  fun next Q hn => h next Q fun v σ2 w2 t r => hn v σ2 w2 (ht.trans t) r

theorem eff_alloc {o : Oper} {a : Act} {st : St} (h : Rel C N n0 σ H st a w) {t d : Nat} (ho : o.op = .alloc t) (hd : o.dst = some d) (hN : d < N) {ty : Ty} (ht : chk P ty t = true) :
    EffOK P C N n0 o a w σ (st.newBox d (.var ⟨ty, ty.zero⟩) (.ptr d none [])) := by
  intro next Q hn
  obtain ⟨z, hz, hzr⟩ := run_zeroValue (P := P) (w := w) ht
  have hs := step_alloc h.holds (.cells z.cells t)
  have hr : (execOp a.eval o).run P w = .ok (.value (.pointer (some ⟨w.heap.size, 0, none⟩))) (w.alloc (.cells z.cells t)) := by
    simp [execOp, ho, Instr.alloc, hz, newVar, newRow]
  refine wp_val hr (hn _ σ _ (hs.trans' h.base) ⟨?_, ?_⟩)
  rotate_left
  rw [hd]
  refine h.newBox hs hN (b := .var ⟨ty, ty.zero⟩) ⟨w.heap.size, z.cells, t, rfl, allocNew w _, (hzr σ).1, h.base, holds_new h.holds⟩ (fun g hg => by simp [hBlock] at hg; omega) fun bx' H' h1 h2 => ?_
  exact ⟨_, _, w.heap.size, h1, rfl, h2, rfl⟩

theorem eff_box {o : Oper} {a : Act} {st : St} (h : Rel C N n0 σ H st a w) {t d : Nat} {x : Operand} (ho : o.op = .box t x) (hd : o.dst = some d) (hN : d < N) {ty : Ty} {y : ty.D}
    (hx : RelV σ ⟨ty, y⟩ (a.eval x)) : EffOK P C N n0 o a w σ (st.newBox d (.var ⟨ty, y⟩) (.ptr d none [])) := by
  intro next Q hn
  have hs := step_alloc h.holds (.cells (a.eval x).cells t)
  have hr : (execOp a.eval o).run P w = .ok (.value (.pointer (some ⟨w.heap.size, 0, none⟩))) (w.alloc (.cells (a.eval x).cells t)) := by
    simp [execOp, ho, Instr.box, newVar, newRow]
  refine wp_val hr (hn _ σ _ (hs.trans' h.base) ⟨?_, ?_⟩)
  rotate_left
  rw [hd]
  refine h.newBox hs hN (b := .var ⟨ty, y⟩) ⟨w.heap.size, _, t, rfl, allocNew w _, hx.1, h.base, holds_new h.holds⟩ (fun g hg => by simp [hBlock] at hg; omega) fun bx' H' h1 h2 => ?_
  exact ⟨_, _, w.heap.size, h1, rfl, h2, rfl⟩

theorem range_add_map {α : Type} (f : Nat → α) (n m : Nat) : (List.range (n + m)).map f = (List.range n).map f ++ (List.range m).map fun j => f (n + j) := by
  rw [List.range_add, List.map_append, List.map_map]; rfl

theorem encL_zeros {t : Ty} {z : Array Value} (hz : Enc σ t t.zero z.toList) (hp : 0 < t.size) : ∀ m : Nat, EncL σ t (zeros t m) ((List.range (m * t.size)).map fun k => z[k % z.size]!)
  | 0 => by simp [zeros, EncL]
  | m + 1 => by
    have hzs : z.size = t.size := by have := hz.length; simpa using this
    have ih := encL_zeros hz hp m
    have e : zeros t (m + 1) = zeros t m ++ [t.zero] := by simp [zeros, List.replicate_succ']
    rw [e, Nat.add_mul, Nat.one_mul, range_add_map]
    refine EncL.app _ _ _ _ ih ⟨_, [], (List.append_nil _).symm, ?_, rfl⟩
    have : ((List.range t.size).map fun j => z[(m * t.size + j) % z.size]!) = z.toList := by
      apply List.ext_getElem
      · simp [hzs]
      · intro i h1 h2
        simp only [List.length_map, List.length_range] at h1
        simp only [List.getElem_map, List.getElem_range, hzs]
        rw [Nat.mul_comm, Nat.mul_add_mod, Nat.mod_eq_of_lt h1, getElem!_pos z i (by omega)]
        simp
    rw [this]; exact hz

theorem madeCells_list (z : Array Value) (n : Nat) : (madeCells z n).toList = (List.range n).map fun k => z[k % z.size]! := by
  simp [madeCells]

theorem eff_make {o : Oper} {a : Act} {st : St} (h : Rel C N n0 σ H st a w) {t d : Nat} {x y : Operand} (ho : o.op = .makeSlice t x y) (hd : o.dst = some d) (hN : d < N) {e : Ty} (ht : chk P (.slice e) t = true)
    {k k' : IntKind} {n c : Int} (hx : a.eval x = .int k n) (hy : a.eval y = .int k' c) (h0 : 0 ≤ n) (h1 : n ≤ c) (h2 : capOK e c.toNat = true) :
    EffOK P C N n0 o a w σ (st.newBox d (.vec e (zeros e n.toNat)) (.ref d)) := by
  intro next Q hn
  obtain ⟨et, hu, hce, hpos⟩ := chk_slice ht
  obtain ⟨i, z, k1, k2, k3, k4, k5, k6⟩ := enc_zero hce σ
  obtain ⟨hc, hcb⟩ := capOK_len h2 hpos
  have hb : (i.bytes : Int) * c ≤ 281474976710656 := by
    have h4 : c.toNat * i.bytes ≤ c.toNat * e.wid := Nat.mul_le_mul_left _ k5
    obtain ⟨cn, rfl⟩ : ∃ cn : Nat, c = (cn : Int) := ⟨c.toNat, by omega⟩
    rw [Int.toNat_natCast] at h4 hcb
    have h5 : cn * i.bytes ≤ 140737488355328 := by omega
    rw [Int.mul_comm]
    have : ((cn * i.bytes : Nat) : Int) ≤ 140737488355328 := by omega
    rw [Int.natCast_mul] at this
    omega
  have hr := run_make (P := P) w t et i z hu k1 k3 k k' n c h0 h1 hb (by omega)
  have hs := step_alloc h.holds (.cells (madeCells z.cells (c.toNat * i.size)) et)
  have hr' : (execOp a.eval o).run P w = .ok (.value (.slice (some ⟨w.heap.size, 0, none⟩) n.toNat c.toNat)) (w.alloc (.cells (madeCells z.cells (c.toNat * i.size)) et)) := by
    simp [execOp, ho, hx, hy, hr]
  have hnc : n.toNat ≤ c.toNat := by omega
  refine wp_val hr' (hn _ σ _ (hs.trans' h.base) ⟨?_, ?_⟩)
  rotate_left
  rw [hd]
  refine h.newBox hs hN (b := .vec e (zeros e n.toNat)) (u := .slice (some ⟨w.heap.size, 0, none⟩) n.toNat c.toNat) ⟨et, (List.range (n.toNat * e.size)).map fun k => z.cells[k % z.cells.size]!, ⟨by simp [zeros], .inr ⟨w.heap.size, c.toNat, _, by simp [zeros], h.base, allocNew w _, by simpa [zeros] using hnc, by simp [maxLen]; omega, ?_, ?_⟩⟩, ?_, ?_, hpos⟩ ?_ ?_
  · rw [k2]; exact size_madeCells _ _
  · have : n.toNat * e.size ≤ c.toNat * e.size := Nat.mul_le_mul_right _ hnc
    rw [madeCells_list, k2, ← List.map_take, List.take_range]
    simp [zeros, Nat.min_eq_left this]
  · exact encL_zeros k4 hpos _
  · intro g hg; simp [hBlock] at hg; subst hg; exact holds_new h.holds
  · intro g hg; simp [hBlock] at hg; omega
  · intro bx' H' h1 h2; exact ⟨_, _, h1, h2.symm⟩

theorem eff_nil {o : Oper} {a : Act} {st : St} (h : Rel C N n0 σ H st a w) {d : Nat} {x : Operand} (ho : o.op = .assign x) (hd : o.dst = some d) (hN : d < N) {e : Ty} (hp : 0 < e.size)
    (hx : a.eval x = .slice none 0 0) : EffOK P C N n0 o a w σ (st.newBox d (.vec e []) (.ref d)) := by
  intro next Q hn
  have hr : (execOp a.eval o).run P w = .ok (.value (.slice none 0 0)) w := by simp [execOp, ho, hx]
  have hR := h.newBox (a := a) (v := .slice none 0 0) (s := .ref d) (Step.refl h.holds) hN (b := .vec e []) (u := .slice none 0 0) ⟨0, [], World.ownsRow_nil w n0 0 e.size, rfl, fun g hg => by simp [hBlock] at hg, hp⟩ (fun g hg => by simp [hBlock] at hg)
    fun bx' H' h1 h2 => ⟨_, _, h1, h2.symm⟩
  exact wp_val hr (hn _ σ _ (Trans.refl h.holds) ⟨_, by rw [hd]; exact hR⟩)

theorem eff_assign {o : Oper} {a : Act} {st : St} (h : Rel C N n0 σ H st a w) {d b : Nat} {x : Operand} (ho : o.op = .assign x) (hd : o.dst = some d) (hN : d < N) (hx : SVR σ st.bx H (.ref b) (a.eval x)) :
    EffOK P C N n0 o a w σ ⟨ins d (.ref d) (st.rename b d).sl, (st.rename b d).bx⟩ := by
  intro next Q hn
  have hr : (execOp a.eval o).run P w = .ok (.value (a.eval x)) w := by simp [execOp, ho]
  obtain ⟨t, l, h1, h2⟩ := hx
  refine wp_val hr ?_
  by_cases hbd : b = d
  · subst hbd
    refine hn _ σ _ (Trans.refl h.holds) ⟨H, ?_⟩
    rw [hd]
    have e : st.rename b b = st := by simp [St.rename, beq_self]
    rw [e]
    exact h.put (d := some b) (fun k hk => by simp at hk; omega) (s := .ref b) ⟨t, l, h1, h2⟩
  · have h' := h.rename hbd h1
    have hR := h'.put (d := some d) (v := a.eval x) (fun k hk => by simp at hk; omega) (s := .ref d) ⟨t, l, by
      unfold St.rename
      simp [beq_false hbd, h1, look_ins], by simp [h2]⟩
    exact hn _ σ _ (Trans.refl h.holds) ⟨_, by rw [hd]; exact hR⟩

theorem eff_assignM {o : Oper} {a : Act} {st : St} (h : Rel C N n0 σ H st a w) {d b : Nat} {x : Operand} (ho : o.op = .assign x) (hd : o.dst = some d) (hN : d < N) (hx : SVR σ st.bx H (.mref b) (a.eval x)) :
    EffOK P C N n0 o a w σ ⟨ins d (.mref d) (st.rename b d).sl, (st.rename b d).bx⟩ := by
  intro next Q hn
  have hr : (execOp a.eval o).run P w = .ok (.value (a.eval x)) w := by simp [execOp, ho]
  obtain ⟨t, l, h1, h2⟩ := hx
  refine wp_val hr ?_
  by_cases hbd : b = d
  · subst hbd
    refine hn _ σ _ (Trans.refl h.holds) ⟨H, ?_⟩
    rw [hd]
    have e : st.rename b b = st := by simp [St.rename, beq_self]
    rw [e]
    exact h.put (d := some b) (fun k hk => by simp at hk; omega) (s := .mref b) ⟨t, l, h1, h2⟩
  · have h' := h.rename hbd h1
    have hR := h'.put (d := some d) (v := a.eval x) (fun k hk => by simp at hk; omega) (s := .mref d) ⟨t, l, by
      unfold St.rename
      simp [beq_false hbd, h1, look_ins], by simp [h2]⟩
    exact hn _ σ _ (Trans.refl h.holds) ⟨_, by rw [hd]; exact hR⟩

/-! store -/
theorem getFld_shape : ∀ (t : Ty) (x x' : t.D) (i : Nat) (d : TD), getFld t x i = some d → ∃ d', getFld t x' i = some d' ∧ d'.t = d.t
  | .cons _ _, _, _, 0, d, h => by simp [getFld] at h; subst h; exact ⟨_, rfl, rfl⟩
  | .cons _ b, x, x', n + 1, d, h => getFld_shape b x.2 x'.2 n d h
  | .int _, _, _, _, _, h => by simp [getFld] at h
  | .bool, _, _, _, _, h => by simp [getFld] at h
  | .str, _, _, _, _, h => by simp [getFld] at h
  | .nil, _, _, _, _, h => by simp [getFld] at h
  | .slice _, _, _, _, _, h => by simp [getFld] at h
  | .ptr _, _, _, _, _, h => by simp [getFld] at h
  | .fn _ _, _, _, _, _, h => by simp [getFld] at h
  | .seq _, _, _, _, _, h => by simp [getFld] at h

theorem getPath_shape : ∀ (p : List Nat) (d d' e : TD), d.t = d'.t → getPath d p = some e → ∃ e', getPath d' p = some e' ∧ e'.t = e.t ∧ offPath d' p = offPath d p
  | [], d, d', e, h, hp => by simp [getPath] at hp; subst hp; exact ⟨d', rfl, h.symm, rfl⟩
  | i :: p, ⟨t, x⟩, ⟨t', x'⟩, e, h, hp => by
    simp only at h; subst h
    obtain ⟨d1, h1, h2⟩ := getPath_cons hp
    obtain ⟨d2, h3, h4⟩ := getFld_shape t x x' i d1 h1
    obtain ⟨e', g1, g2, g3⟩ := getPath_shape p d1 d2 e h4.symm h2
    refine ⟨e', by simp [getPath, h3, g1], g2, ?_⟩
    simp only at h1
    simp [offPath, h1, h3, g3]

def SameBox (x y : Option Box) : Prop := y = x ∨ (∃ d d' : TD, x = some (.var d) ∧ y = some (.var d') ∧ d.t = d'.t) ∨ (∃ (t : Ty) (l l' : List t.D), x = some (.vec t l) ∧ y = some (.vec t l') ∧ l.length = l'.length) ∨ (∃ (t : Nat) (l l' : List (Int × Int)), x = some (.mp t l) ∧ y = some (.mp t l'))

theorem SVR1.shape (hb : ∀ c, SameBox (look c bx) (look c bx')) {s : SV} {v : Value} (h : SVR1 σ bx H s v) : SVR1 σ bx' H s v := by
  cases s with
  | mref b =>
    obtain ⟨t, l, h1, h2⟩ := h
    rcases hb b with e | ⟨d, d', e1, e2, e3⟩ | ⟨t', l1, l2, e1, e2, e3⟩ | ⟨t', l1, l2, e1, e2⟩
    · exact ⟨t, l, e.trans h1, h2⟩
    · rw [h1] at e1; simp at e1
    · rw [h1] at e1; simp at e1
    · exact ⟨t', l2, e2, h2⟩
  | ref b =>
    obtain ⟨t, l, h1, h2⟩ := h
    rcases hb b with e | ⟨d, d', e1, e2, e3⟩ | ⟨t', l1, l2, e1, e2, e3⟩ | ⟨t', l1, l2, e1, e2⟩
    · exact ⟨t, l, e.trans h1, h2⟩
    · rw [h1] at e1; simp at e1
    · exact ⟨t', l2, e2, h2⟩
    · rw [h1] at e1; simp at e1
  | view b lo hi =>
    obtain ⟨t, l, h1, h2, h3, h4⟩ := h
    rcases hb b with e | ⟨d, d', e1, e2, e3⟩ | ⟨t', l1, l2, e1, e2, e3⟩ | ⟨t', l1, l2, e1, e2⟩
    · exact ⟨t, l, e.trans h1, h2, h3, h4⟩
    · rw [h1] at e1; simp at e1
    · rw [h1] at e1
      simp only [Option.some.injEq, Box.vec.injEq] at e1
      obtain ⟨rfl, e1⟩ := e1
      have e1 := eq_of_heq e1
      subst e1
      exact ⟨t, l2, e2, h2, by omega, h4⟩
    · rw [h1] at e1; simp at e1
  | ptr b ix p =>
    cases ix with
    | none =>
      obtain ⟨d0, e0, g, h1, h2, h3, h4⟩ := h
      rcases hb b with e | ⟨d, d', e1, e2, e3⟩ | ⟨t', l1, l2, e1, e2, e3⟩ | ⟨t', l1, l2, e1, e2⟩
      · exact ⟨d0, e0, g, e.trans h1, h2, h3, h4⟩
      · rw [h1] at e1; simp at e1; subst e1
        obtain ⟨e', g1, g2, g3⟩ := getPath_shape p _ d' _ e3 h2
        exact ⟨d', e', g, e2, g1, h3, by rw [g3]; exact h4⟩
      · rw [h1] at e1; simp at e1
      · rw [h1] at e1; simp at e1
    | some i =>
      obtain ⟨t, l, e0, g, n, cc, h1, h2, h3, h4, h5⟩ := h
      rcases hb b with e | ⟨d, d', e1, e2, e3⟩ | ⟨t', l1, l2, e1, e2, e3⟩ | ⟨t', l1, l2, e1, e2⟩
      · exact ⟨t, l, e0, g, n, cc, e.trans h1, h2, h3, h4, h5⟩
      · rw [h1] at e1; simp at e1
      · rw [h1] at e1
        simp only [Option.some.injEq, Box.vec.injEq] at e1
        obtain ⟨rfl, e1⟩ := e1
        have e1 := eq_of_heq e1
        subst e1
        obtain ⟨e', g1, g2, g3⟩ := getPath_shape p ⟨t, l.getD i t.zero⟩ ⟨t, l2.getD i t.zero⟩ _ rfl h3
        exact ⟨t, l2, e', g, n, cc, e2, by omega, g1, h4, by rw [g3]; exact h5⟩
      · rw [h1] at e1; simp at e1
  | tv d => exact h
  | nils => exact h
  | cptr d => exact h
  | gone => trivial
  | own _ _ => exact h
  | tup _ => exact h

theorem SVR.shape (hb : ∀ c, SameBox (look c bx) (look c bx')) {s : SV} {v : Value} (h : SVR σ bx H s v) : SVR σ bx' H s v := by
  rcases tup_or s with ⟨l, rfl⟩ | hs
  · obtain ⟨vs, h1, h2, h3⟩ := h; exact ⟨vs, h1, h2, fun i s u hs hu => (h3 i s u hs hu).shape hb⟩
  · exact (svr_iff hs v).2 (((svr_iff hs v).1 h).shape hb)

theorem step_setRow {n0 : Nat} (hh : Holds w σ) {g : Nat} (hg : n0 ≤ g) (hn : σ g = none) {cur : Array Value} {et : Nat} {fr : Nat × Nat} (hcur : w.heap[g]? = some (.cells cur et fr)) (cs : Array Value) : Trans n0 σ w σ (w.setRow g cs) :=
  ⟨Store.le.refl σ, fun b o hb => by rw [setRow_other w g b cs (fun e => by subst e; rw [hn] at hb; simp at hb)]; exact hh b o hb, fun _ _ h => .inl h, by simp [World.setRow],
    fun b hb hc => setRow_other w g b cs (fun e => by
      subst e
      rcases hc with hc | ⟨o, h1, h2⟩
      · omega
      · rw [hcur] at h1; simp only [Option.some.injEq] at h1; subst h1; cases h2), rfl, rfl, rfl⟩

theorem run_storeAt {t : Nat} {ty : Ty} (ht : chk P ty t = true) {y : ty.D} {v : Value} (hv : RelV σ ⟨ty, y⟩ v) {g off : Nat} {cur : Array Value} {et : Nat} (hg : w.heap[g]? = some (.cells cur et (0, 0)))
    {p c r : List Value} (hcur : cur.toList = p ++ c ++ r) (hp : p.length = off) (hc : c.length = ty.size) :
    (Instr.storeAt t (.pointer (some ⟨g, off, none⟩)) v).run P w = .ok () (w.setRow g (p ++ v.cells.toList ++ r).toArray) := by
  have hlen : v.cells.toList.length = ty.size := hv.1.length
  have hcs : cur.size = p.length + c.length + r.length := by
    have : cur.toList.length = p.length + c.length + r.length := by rw [hcur]; simp; omega
    simpa using this
  have hst := run_storeCells_at (P := P) g off et v.cells.toList 0 cur w hg (by rw [hlen]; omega) (hv.1.one _ _ _)
  have e1 : cur.toList.take (off + 0) = p := by rw [hcur, Nat.add_zero, ← hp, List.append_assoc]; simp
  have e2 : cur.toList.drop (off + 0 + v.cells.toList.length) = r := by
    rw [hcur, hlen, ← hc, ← hp, Nat.add_zero]; simp
  rw [e1, e2] at hst
  have hsz : v.cells.size = ty.size := by simpa using hlen
  unfold Instr.storeAt Instr.sureAddr storeVar
  simp only [Sem.run_bind, Sem.run_pure, Result.andThen_ok, run_sizeOf ht, hsz, ne_eq, not_true_eq_false, if_false, hst]

theorem eff_store_v {o : Oper} {a : Act} {st : St} (h : Rel C N n0 σ H st a w) {t b : Nat} {ad x : Operand} (ho : o.op = .store t ad x) (hd : o.dst = none) {ty : Ty} (ht : chk P ty t = true) {y : ty.D}
    (hx : RelV σ ⟨ty, y⟩ (a.eval x)) {p : List Nat} {d : TD} (hb : look b st.bx = some (.var d)) (hp : SVR σ st.bx H (.ptr b none p) (a.eval ad)) {x' : d.t.D} (hs : setPath d p ⟨ty, y⟩ = some x') :
    EffOK P C N n0 o a w σ ⟨st.sl, ins b (.var ⟨d.t, x'⟩) st.bx⟩ := by
  intro next Q hn
  obtain ⟨d0, e, g, h1, h2, h3, h4⟩ := hp
  rw [hb] at h1; simp at h1; subst h1
  obtain ⟨g', cs, cty, k1, k2, k3, k4, k5⟩ := h.box b _ hb
  rw [h3] at k1; simp at k1; subst k1
  obtain ⟨e', q0, q1, pa, c, r, q2, q3, q4, q5⟩ := Enc.setPath p d ⟨ty, y⟩ x' cs.toList hs k3
  have hst := run_storeAt (P := P) ht hx (off := offPath d p) k2 q2 q3 (by rw [q4.length, ← q1])
  have hr : (execOp a.eval o).run P w = .ok .skip (w.setRow g (pa ++ (a.eval x).cells.toList ++ r).toArray) := by simp [execOp, ho, h4, hst]
  unfold Oper.wp
  rw [hr, Oper.upon_skip]
  have ht := step_setRow (n0 := n0) h.holds k4 k5 k2 (pa ++ (a.eval x).cells.toList ++ r).toArray
  refine hn _ σ _ ht ⟨H, ?_⟩
  rw [hd]
  have hother : ∀ k g', hBlock (H k) = some g' → k ≠ b → (∃ b', look k st.bx = some b') → (w.setRow g (pa ++ (a.eval x).cells.toList ++ r).toArray).heap[g']? = w.heap[g']? := by
    intro k g' hg' hk ⟨b', hb'⟩
    refine setRow_other w g g' _ fun eq => ?_
    subst eq
    exact h.apart b k _ b' g' hb hb' (Ne.symm hk) (by rw [h3]; rfl) hg'
  refine ⟨ht.holds, h.size, h.defers.trans ht, Nat.le_trans h.base ht.size, fun k b' hk => ?_, fun k k' b1 b2 g1 hk hk' => ?_, fun k s hk hc => ?_⟩
  · simp only [look_ins] at hk
    split at hk
    · rename_i ek; subst ek
      simp at hk; subst hk
      exact ⟨g, _, cty, h3, setRow_heap w g cs _ cty _ k2, q5 _ hx.1, k4, k5⟩
    · rename_i ek
      exact (h.box k b' hk).keep (Store.le.refl σ) fun g' hg' => ⟨hother k g' hg' ek ⟨b', hk⟩, ((h.box k b' hk).block g' hg').2.2.1⟩
  · simp only [look_ins] at hk hk'
    have f : ∀ k b1, (if k = b then some (Box.var ⟨d.t, x'⟩) else look k st.bx) = some b1 → ∃ b0, look k st.bx = some b0 := by
      intro k b1 hk; split at hk
      · rename_i ek; subst ek; exact ⟨_, hb⟩
      · exact ⟨_, hk⟩
    obtain ⟨_, e1⟩ := f k b1 hk
    obtain ⟨_, e2⟩ := f k' b2 hk'
    exact h.apart k k' _ _ g1 e1 e2
  · refine SVR.shape (fun c => ?_) (h.slot k s hk hc)
    simp only [look_ins]
    split
    · rename_i ek; subst ek; right; left; exact ⟨d, ⟨d.t, x'⟩, hb, rfl, rfl⟩
    · exact .inl rfl

/-! maps -/
theorem mfind_put (n u : Int) : ∀ (l : List (Int × Int)) (i : Nat), (mfind l n i = none → mput l n u = l ++ [(n, u)]) ∧
    ∀ j v, mfind l n i = some (j, v) → i ≤ j ∧ j - i < l.length ∧ (l[j - i]?).map (·.1) = some n ∧ mput l n u = l.set (j - i) (n, u)
  | [], i => ⟨fun _ => rfl, fun j v h => by simp [mfind] at h⟩
  | (q, z) :: l, i => by
    by_cases hk : n = q
    · subst hk
      refine ⟨fun h => by simp [mfind] at h, fun j v h => ?_⟩
      simp only [mfind, decide_true, cond_true, Option.some.injEq, Prod.mk.injEq] at h
      obtain ⟨rfl, _⟩ := h
      simp [mput]
    · obtain ⟨ih1, ih2⟩ := mfind_put n u l (i + 1)
      simp only [mfind, mput, decide_eq_false hk, cond_false]
      refine ⟨fun h => by rw [ih1 h]; rfl, fun j v h => ?_⟩
      obtain ⟨a1, a2, a3, a4⟩ := ih2 j v h
      obtain ⟨d, hd⟩ : ∃ d, j - i = d + 1 := ⟨j - i - 1, by omega⟩
      have hd' : j - (i + 1) = d := by omega
      rw [hd'] at a2 a3 a4
      rw [hd]
      exact ⟨by omega, by simp; omega, by simpa using a3, by rw [a4]; rfl⟩

theorem step_putMap {n0 : Nat} (hh : Holds w σ) {g : Nat} (hg : n0 ≤ g) (hn : σ g = none) {es : Array MapEntry} {clock : Nat} (hcur : w.heap[g]? = some (.map es clock)) (o : Obj) : Trans n0 σ w σ (w.putObj g o) :=
  ⟨Store.le.refl σ, fun b x hb => by rw [World.putObj_heap_other (fun e => by subst e; rw [hn] at hb; simp at hb)]; exact hh b x hb, fun _ _ h => .inl h, by simp,
    fun b hb hc => World.putObj_heap_other (fun e => by
      subst e
      rcases hc with hc | ⟨o, h1, h2⟩
      · omega
      · rw [hcur] at h1; simp only [Option.some.injEq] at h1; subst h1; cases h2), rfl, rfl, rfl⟩

theorem run_mapUpdate_mp {t k e g : Nat} (ht : P.underlying t = some (.map k e)) (hk : P.underlying k = some (.int .i64)) {es : Array MapEntry} {clock : Nat} {l : List (Int × Int)}
    (hg : w.heap[g]? = some (.map es clock)) (hes : ents es = entV l) (n u : Int) :
    ∃ es' clock', (Instr.mapUpdate t (.map (some g)) (.int .i64 n) (.int .i64 u)).run P w = .ok () (w.putObj g (.map es' clock')) ∧ ents es' = entV (mput l n u) := by
  have hget : (getObj g).run P w = .ok (.map es clock) w := by simp [getObj, Sem.run, hg]
  have hset : ∀ o, (setObj g o).run P w = .ok () (w.putObj g o) := fun o => by simp [setObj, Sem.run, hg, World.putObj]
  have hf := run_findKey (P := P) (w := w) hk hes n
  cases hm : mfind l n 0 with
  | none =>
    rw [hm] at hf
    refine ⟨es.push { key := .int .i64 n, val := .int .i64 u, born := clock }, clock + 1, ?_, ?_⟩
    · simp [Instr.mapUpdate, run_underlying ht, hget, run_checkKey hk, hf, hset, Result.andThen]
    · rw [(mfind_put n u l 0).1 hm]
      simpa [ents, entV] using hes
  | some r =>
    obtain ⟨j, v⟩ := r
    rw [hm] at hf
    obtain ⟨_, a2, a3, a4⟩ := (mfind_put n u l 0).2 j v hm
    simp only [Nat.sub_zero] at a2 a3 a4
    have hlen : es.toList.length = l.length := by have := congrArg List.length hes; simpa [ents, entV] using this
    have hj : j < es.size := by simpa using (by omega : j < es.toList.length)
    have hkey : es[j].key = .int .i64 n := by
      have := congrArg (fun x => x[j]?) hes
      simp only [ents, entV, List.getElem?_map] at this
      have hlj : l[j]? = some l[j] := by simp [a2]
      rw [hlj] at this a3
      simp at a3
      simp [hj, a3] at this
      exact this.1
    have hstay : (Instr.keyThatStays (((es[j]?).map (·.key)).getD (.int .i64 n)) (.int .i64 n)).run P w = .ok (.int .i64 n) w := by
      simp [Instr.keyThatStays, hj, hkey, Instr.sameBits]
    refine ⟨es.modify j fun e => { e with key := .int .i64 n, val := .int .i64 u }, clock, ?_, ?_⟩
    · simp [Instr.mapUpdate, run_underlying ht, hget, run_checkKey hk, hf, hstay, hset, Result.andThen]
    · rw [a4]
      apply List.ext_getElem?
      intro i
      have hi := congrArg (fun x => x[i]?) hes
      simp only [ents, entV, List.getElem?_map, Array.getElem?_toList, Array.getElem?_modify, List.getElem?_set] at hi ⊢
      by_cases e : j = i
      · subst e
        simp [hj, a2]
      · simp [e, hi]

theorem eff_makeMap {o : Oper} {a : Act} {st : St} (h : Rel C N n0 σ H st a w) {t d : Nat} (ho : o.op = .makeMap t none) (hd : o.dst = some d) (hN : d < N) :
    EffOK P C N n0 o a w σ (st.newBox d (.mp t []) (.mref d)) := by
  intro next Q hn
  have hs := step_alloc h.holds (.map #[] 0)
  have hr : (execOp a.eval o).run P w = .ok (.value (.map (some w.heap.size))) (w.alloc (.map #[] 0)) := by
    simp [execOp, ho, Instr.makeMap]
  refine wp_val hr (hn _ σ _ (hs.trans' h.base) ⟨?_, ?_⟩)
  rotate_left
  rw [hd]
  refine h.newBox hs hN (b := .mp t []) ⟨w.heap.size, #[], 0, rfl, allocNew w _, by simp, h.base, holds_new h.holds⟩ (fun g hg => by simp [hBlock] at hg; omega) fun bx' H' h1 h2 => ?_
  exact ⟨t, [], h1, h2.symm⟩

theorem eff_mapUpdate {o : Oper} {a : Act} {st : St} (h : Rel C N n0 σ H st a w) {t b kt et : Nat} {m k x : Operand} (ho : o.op = .mapUpdate t m k x) (hd : o.dst = none) (h1 : P.underlying t = some (.map kt et)) (h2 : P.underlying kt = some (.int .i64))
    {l : List (Int × Int)} (hb : look b st.bx = some (.mp t l)) (hm : a.eval m = H b) {n u : Int} (hk : a.eval k = .int .i64 n) (hx : a.eval x = .int .i64 u) :
    EffOK P C N n0 o a w σ ⟨st.sl, ins b (.mp t (mput l n u)) st.bx⟩ := by
  intro next Q hn
  obtain ⟨g, es, clock, k1, k2, k3, k4, k5⟩ := h.box b _ hb
  obtain ⟨es', clock', r1, r2⟩ := run_mapUpdate_mp (P := P) h1 h2 k2 k3 n u
  have hr : (execOp a.eval o).run P w = .ok .skip (w.putObj g (.map es' clock')) := by simp [execOp, ho, hm, k1, hk, hx, r1]
  unfold Oper.wp
  rw [hr, Oper.upon_skip]
  have ht := step_putMap (n0 := n0) h.holds k4 k5 k2 (.map es' clock')
  refine hn _ σ _ ht ⟨H, ?_⟩
  rw [hd]
  have hother : ∀ k g', hBlock (H k) = some g' → k ≠ b → (∃ b', look k st.bx = some b') → (w.putObj g (.map es' clock')).heap[g']? = w.heap[g']? := by
    intro k g' hg' hk ⟨b', hb'⟩
    refine World.putObj_heap_other fun eq => ?_
    subst eq
    exact h.apart b k _ b' g' hb hb' (Ne.symm hk) (by rw [k1]; rfl) hg'
  refine ⟨ht.holds, h.size, h.defers.trans ht, Nat.le_trans h.base ht.size, fun k b' hk => ?_, fun k k' b1 b2 g1 hk hk' => ?_, fun k s hk hc => ?_⟩
  · simp only [look_ins] at hk
    split at hk
    · rename_i ek; subst ek
      simp at hk; subst hk
      exact ⟨g, es', clock', k1, World.putObj_heap_same (Array.getElem?_eq_some_iff.1 k2).1, r2, k4, k5⟩
    · rename_i ek
      exact (h.box k b' hk).keep (Store.le.refl σ) fun g' hg' => ⟨hother k g' hg' ek ⟨b', hk⟩, ((h.box k b' hk).block g' hg').2.2.1⟩
  · simp only [look_ins] at hk hk'
    have f : ∀ k b1, (if k = b then some (Box.mp t (mput l n u)) else look k st.bx) = some b1 → ∃ b0, look k st.bx = some b0 := by
      intro k b1 hk; split at hk
      · rename_i ek; subst ek; exact ⟨_, hb⟩
      · exact ⟨_, hk⟩
    obtain ⟨_, e1⟩ := f k b1 hk
    obtain ⟨_, e2⟩ := f k' b2 hk'
    exact h.apart k k' _ _ g1 e1 e2
  · refine SVR.shape (fun c => ?_) (h.slot k s hk hc)
    simp only [look_ins]
    split
    · rename_i ek; subst ek; right; right; right; exact ⟨t, l, _, hb, rfl⟩
    · exact .inl rfl

end
end Go.Lift
set_option linter.unusedSimpArgs false
namespace Go.Lift

section
variable {P : Program} {T : Nat → Option Ty} {G : Tbl} {w w' : World} {σ σ' τ : Store P} {bx bx' : List (Nat × Box)} {H H' : Nat → Value} {n0 N : Nat} {C : Nat → Prop}

theorem eff_store_e {o : Oper} {a : Act} {st : St} (h : Rel C N n0 σ H st a w) {t b i : Nat} {ad x : Operand} (ho : o.op = .store t ad x) (hd : o.dst = none) {ty : Ty} (ht : chk P ty t = true) {y : ty.D}
    (hx : RelV σ ⟨ty, y⟩ (a.eval x)) {p : List Nat} {e : Ty} {l : List e.D} (hb : look b st.bx = some (.vec e l)) (hp : SVR σ st.bx H (.ptr b (some i) p) (a.eval ad)) {x' : e.D} (hs : setPath ⟨e, l.getD i e.zero⟩ p ⟨ty, y⟩ = some x') :
    EffOK P C N n0 o a w σ ⟨st.sl, ins b (.vec e (l.set i x')) st.bx⟩ := by
  intro next Q hn
  obtain ⟨e0, l0, d1, g, n, cc, h1, h2, h3, h4, h5⟩ := hp
  rw [hb] at h1
  simp only [Option.some.injEq, Box.vec.injEq] at h1
  obtain ⟨rfl, h1⟩ := h1
  have h1 := eq_of_heq h1
  subst h1
  obtain ⟨ety, xs, hown, henc, hsig, hpos⟩ := h.box b _ hb
  obtain ⟨g', cap, cur, k1, k2, k3, k4, k5, k6⟩ := ownsRow_inv hown (by omega)
  rw [h4] at k1; simp at k1; obtain ⟨rfl, rfl, rfl⟩ := k1
  have hsg := hsig g (by rw [h4]; rfl)
  obtain ⟨p1, c1, r1, q1, q2, q3, q4⟩ := henc.get l xs i h2
  have hgd : l[i] = l.getD i e.zero := by simp [List.getD, List.getElem?_eq_getElem h2]
  rw [hgd] at q3
  obtain ⟨e', z0, z1, pa, c, r, z2, z3, z4, z5⟩ := Enc.setPath p ⟨e, l.getD i e.zero⟩ ⟨ty, y⟩ x' c1 hs q3
  have hcur : cur.toList = (p1 ++ pa) ++ c ++ (r ++ r1 ++ cur.toList.drop (l.length * e.size)) := by
    have h0 := List.take_append_drop (l.length * e.size) cur.toList
    rw [k5, q1, z2] at h0
    simpa using h0.symm
  have hst := run_storeAt (P := P) ht hx (off := i * e.size + offPath ⟨e, l.getD i e.zero⟩ p) k2 hcur (by simp [q2, z3]) (by rw [z4.length, ← z1])
  have hr : (execOp a.eval o).run P w = .ok .skip (w.setRow g ((p1 ++ pa) ++ (a.eval x).cells.toList ++ (r ++ r1 ++ cur.toList.drop (l.length * e.size))).toArray) := by
    generalize i * e.size + offPath ⟨e, l.getD i e.zero⟩ p = off at h5 hst
    simp [execOp, ho, h5, hst]
  unfold Oper.wp
  rw [hr, Oper.upon_skip]
  have ht' := step_setRow (n0 := n0) h.holds k6 hsg k2 ((p1 ++ pa) ++ (a.eval x).cells.toList ++ (r ++ r1 ++ cur.toList.drop (l.length * e.size))).toArray
  refine hn _ σ _ ht' ⟨H, ?_⟩
  rw [hd]
  have hother : ∀ k g', hBlock (H k) = some g' → k ≠ b → (∃ b', look k st.bx = some b') →
      (w.setRow g ((p1 ++ pa) ++ (a.eval x).cells.toList ++ (r ++ r1 ++ cur.toList.drop (l.length * e.size))).toArray).heap[g']? = w.heap[g']? := by
    intro k g' hg' hk ⟨b', hb'⟩
    refine setRow_other w g g' _ fun eq => ?_
    subst eq
    exact h.apart b k _ b' g' hb hb' (Ne.symm hk) (by rw [h4]; rfl) hg'
  have hlc : (a.eval x).cells.toList.length = c.length := by rw [hx.1.length, z4.length]; exact congrArg _ z1
  refine ⟨ht'.holds, h.size, h.defers.trans ht', Nat.le_trans h.base ht'.size, fun k b' hk => ?_, fun k k' b1 b2 g1 hk hk' => ?_, fun k s hk hc => ?_⟩
  · simp only [look_ins] at hk
    split at hk
    · rename_i ek; subst ek
      simp at hk; subst hk
      have hl1 : c1.length = e.size := q3.length
      have hsz : ((p1 ++ pa) ++ (a.eval x).cells.toList ++ (r ++ r1)).length = l.length * e.size := by
        have : xs.length = l.length * e.size := hown.1
        rw [q1, z2] at this
        simp at this ⊢
        have hlc' : (a.eval x).cells.size = c.length := by simpa using hlc
        omega
      refine ⟨ety, (p1 ++ pa) ++ (a.eval x).cells.toList ++ (r ++ r1), ⟨by simpa using hsz, .inr ⟨g, cc, _, by simpa using h4, k6, setRow_heap w g cur _ ety _ k2, by simpa using k3, ?_, ?_, ?_⟩⟩, ?_, hsig, hpos⟩
      · rcases hown.2 with ⟨e1, _⟩ | ⟨g2, cap2, cur2, e1, _, _, _, e2, _⟩
        · rw [h4] at e1; simp at e1
        · rw [h4] at e1; simp at e1; obtain ⟨_, rfl⟩ := e1; exact e2
      · rw [← k4]
        have : cur.toList.length = cur.size := by simp
        rw [hcur] at this
        simp at this ⊢
        have hlc' : (a.eval x).cells.size = c.length := by simpa using hlc
        omega
      · simp only [List.length_set]
        have gen : ∀ (A B : List Value) (n : Nat), A.length = n → (A ++ B).take n = A := by intro A B n h; subst h; exact List.take_left
        have := gen ((p1 ++ pa) ++ (a.eval x).cells.toList ++ (r ++ r1)) (cur.toList.drop (l.length * e.size)) _ hsz
        simpa using this
      · have := q4 x' _ (z5 _ hx.1)
        simpa using this
    · rename_i ek
      exact (h.box k b' hk).keep (Store.le.refl σ) fun g' hg' => ⟨hother k g' hg' ek ⟨b', hk⟩, ((h.box k b' hk).block g' hg').2.2.1⟩
  · simp only [look_ins] at hk hk'
    have f : ∀ k b1, (if k = b then some (Box.vec e (l.set i x')) else look k st.bx) = some b1 → ∃ b0, look k st.bx = some b0 := by
      intro k b1 hk; split at hk
      · rename_i ek; subst ek; exact ⟨_, hb⟩
      · exact ⟨_, hk⟩
    obtain ⟨_, e1⟩ := f k b1 hk
    obtain ⟨_, e2⟩ := f k' b2 hk'
    exact h.apart k k' _ _ g1 e1 e2
  · refine SVR.shape (fun c => ?_) (h.slot k s hk hc)
    simp only [look_ins]
    split
    · rename_i ek; subst ek; right; right; left; exact ⟨e, l, l.set i x', hb, rfl, by simp⟩
    · exact .inl rfl

/-! buildSlice -/
theorem fillV_spec {e : Ty} {st : St} {a : Act} : ∀ (parts : List (Nat × Operand)) (l l' : List e.D) (cells : Array Value), fillV e bx st l parts = some l' → EncL σ e l cells.toList →
    (∀ (i : Nat) (x : Operand), (i, x) ∈ parts → ∀ (s : SV) (y : e.D), opd st x = some s → s.isRef = false → s.data bx e = some y → RelV σ ⟨e, y⟩ (a.eval x)) →
    ∃ cs, Instr.fill (fun i => some (i * e.size, e.size)) cells (parts.map fun p => (p.1, a.eval p.2)) = some cs ∧ EncL σ e l' cs.toList ∧ l'.length = l.length
  | [], l, l', cells, h, he, _ => by
    simp [fillV] at h; subst h
    exact ⟨cells, rfl, he, rfl⟩
  | (i, x) :: parts, l, l', cells, h, he, hp => by
    simp only [fillV, Option.bind_eq_some_iff] at h
    obtain ⟨s, hs, y, hy, h⟩ := h
    obtain ⟨hr, hy⟩ := cond_none' hy
    obtain ⟨hi, h⟩ := cond_none h
    have hi := blt_lt hi
    have hrel := hp i x (by simp) s y hs hr hy
    obtain ⟨p, c, r, g1, g2, g3, g4⟩ := he.get l cells.toList i hi
    have hlen : (a.eval x).cells.toList.length = c.length := by rw [hrel.1.length, g3.length]
    obtain ⟨cs, k1, k2, k3⟩ := fillV_spec parts (l.set i y) l' (p ++ (a.eval x).cells.toList ++ r).toArray h (by simpa using g4 y _ hrel.1) (fun j z hz => hp j z (by simp [hz]))
    refine ⟨cs, ?_, k2, by simpa using k3⟩
    rw [List.map_cons, fill_cells _ cells i (i * e.size) (a.eval x) _ p c r (by rw [g3.length]) g1 g2 hlen]
    exact k1

theorem eff_buildSlice {o : Oper} {a : Act} {st : St} (h : Rel C N n0 σ H st a w) {t d len : Nat} {parts : Array (Nat × Operand)} (ho : o.op = .buildSlice t len parts) (hd : o.dst = some d) (hN : d < N) {e : Ty}
    (ht : chk P (.slice e) t = true) (hb : Nat.ble (len * e.size) 16777216 = true) (hC : ∀ i x, (i, x) ∈ parts.toList → ∀ k, x = .tmp k → C k) {l : List e.D} (hf : fillV e st.bx st (zeros e len) parts.toList = some l) :
    EffOK P C N n0 o a w σ (st.newBox d (.vec e l) (.ref d)) := by
  intro next Q hn
  obtain ⟨et, hu, hce, hpos⟩ := chk_slice ht
  obtain ⟨i, z, k1, k2, k3, k4, k5, k6⟩ := enc_zero hce σ
  have hble : len * e.size ≤ 16777216 := Nat.le_of_ble_eq_true hb
  have hz0 := encL_zeros k4 hpos len
  obtain ⟨cs, f1, f2, f3⟩ := fillV_spec (σ := σ) (a := a) parts.toList (zeros e len) l ((Array.range (len * e.size)).map fun k => z.cells[k % z.cells.size]!) hf (by simpa using hz0)
    (fun i x hix s y hs hr hy => by
      have := h.opd (hC i x hix) hs
      exact (data_rel h.holds h.box hy this).1 hr)
  have hlen : l.length = len := by rw [f3]; simp [zeros]
  have hcsz : cs.size = len * e.size := by have := f2.length; rw [hlen] at this; simpa using this
  have f1' : Instr.fill (fun i => some (i * e.size, e.size)) ((Array.range (len * e.size)).map fun k => z.cells[k % z.cells.size]!) ((parts.map fun (x : Nat × Operand) => (x.1, a.eval x.2)).toList) = some cs := by
    simpa using f1
  have hrun : (Instr.buildSlice t len (parts.map fun (x : Nat × Operand) => (x.1, a.eval x.2))).run P w = .ok (.slice (some ⟨w.heap.size, 0, none⟩) len len) (w.alloc (.cells cs et)) := by
    unfold Instr.buildSlice
    rcases Nat.eq_zero_or_pos (len * e.size) with hz | hz
    · have hrng : ∀ q : Array Value, ((Array.range (len * e.size)).map fun k => q[k % q.size]!) = #[] := by intro q; rw [hz]; simp [Array.range_zero']
      rw [hrng] at f1'
      simp only [Sem.run_bind, run_underlying hu, Result.andThen_ok, run_sizeOf hce, show ¬ (len * e.size > 2 ^ 24) from by omega, if_false, if_pos hz, Sem.run_pure, hrng, f1', newRow, run_newObj, World.alloc_eq]
    · have hne : ¬ len * e.size = 0 := by omega
      simp only [Sem.run_bind, run_underlying hu, Result.andThen_ok, run_sizeOf hce, show ¬ (len * e.size > 2 ^ 24) from by omega, if_false, if_neg hne, Sem.run_pure, zeroValue, typeInfo, run_program, k1, k3, f1', newRow, run_newObj, World.alloc_eq]
  have hr : (execOp a.eval o).run P w = .ok (.value (.slice (some ⟨w.heap.size, 0, none⟩) len len)) (w.alloc (.cells cs et)) := by
    simp only [execOp, ho, Sem.run_bind, hrun, Result.andThen_ok, Sem.run_pure]
  have hs := step_alloc h.holds (.cells cs et)
  have hmax : len ≤ maxLen := by
    have : len * 1 ≤ len * e.size := Nat.mul_le_mul_left _ hpos
    simp [maxLen]; omega
  have hR := h.newBox (a := a) (v := .slice (some ⟨w.heap.size, 0, none⟩) len len) (s := .ref d) hs hN (b := .vec e l) (u := .slice (some ⟨w.heap.size, 0, none⟩) len len)
    ⟨et, cs.toList, by rw [hlen]; exact World.ownsRow_lit w cs len h.base hmax hcsz, f2, fun g hg => by simp [hBlock] at hg; subst hg; exact holds_new h.holds, hpos⟩ (fun g hg => by simp [hBlock] at hg; omega)
    fun bx' H' h1 h2 => ⟨_, _, h1, h2.symm⟩
  exact wp_val hr (hn _ σ _ (hs.trans' h.base) ⟨_, by rw [hd]; exact hR⟩)

/-! append -/
theorem ownsRow_view {et n : Nat} {v : Value} {size : Nat} {xs : List Value} (h : w.ownsRow n0 et size v n xs) {k : Nat} (hk : k ≤ n) : w.ownsRow n0 et size (viewV v 0 k size) k (xs.take (k * size)) := by
  refine ⟨?_, ?_⟩
  · rw [List.length_take, h.1]; exact Nat.min_eq_left (Nat.mul_le_mul_right _ hk)
  · rcases h.2 with ⟨rfl, rfl⟩ | ⟨g, cap, cur, rfl, h1, h2, h3, h4, h5, h6⟩
    · left; have : k = 0 := by omega
      subst this; exact ⟨by simp [viewV], rfl⟩
    · right
      refine ⟨g, cap, cur, by simp [viewV, addr_add_zero], h1, h2, by omega, h4, h5, ?_⟩
      rw [← h6, List.take_take, Nat.min_eq_left (Nat.mul_le_mul_right _ hk)]

theorem hBlock_view (v : Value) (k size : Nat) : hBlock (viewV v 0 k size) = hBlock v := by
  cases v with
  | slice ad n cap => cases ad <;> simp [viewV, hBlock, addr_add_zero]
  | _ => rfl

/-- the append itself: the box that gives its row away is gone already -/
theorem eff_append {o : Oper} {a : Act} {st : St} (h : Rel C N n0 σ H st a w) {d t : Nat} {x y : Operand} {c : Call} (ho : o.op = .call c) (hc : c.callee = .builtin .append) (hargs : c.args = #[x, y]) (htys : c.argTypes = #[t, t])
    (hd : o.dst = some d) (hN : d < N) {e : Ty} (ht : chk P (.slice e) t = true) {et tag : Nat} {v : Value} {l ys : List e.D} {xs : List Value} (hu : P.underlying t = some (.slice et)) (hce : chk P e et = true)
    (hx : a.eval x = v) (hown : w.ownsRow n0 tag e.size v l.length xs) (henc : EncL σ e l xs) (hsig : ∀ g, hBlock v = some g → σ g = none) (hap : ∀ k b' g, look k st.bx = some b' → hBlock v = some g → hBlock (H k) ≠ some g)
    {ad : Option Addr} {m cy : Nat} {news : List Value} (hy : a.eval y = .slice ad m cy) (hm : m = ys.length) (hency : EncL σ e ys news) (hnews : ∀ a, ad = some a → At w a news) (had : 0 < ys.length → ∃ a, ad = some a)
    (hlen : capOK e (l.length + ys.length) = true) : EffOK P C N n0 o a w σ (st.newBox d (.vec e (l ++ ys)) (.ref d)) := by
  intro next Q hn
  subst hm
  obtain ⟨_, _, _, hpos⟩ := chk_slice ht
  obtain ⟨i, z, k1, k2, k3, k4, k5, k6⟩ := enc_zero hce σ
  obtain ⟨hl, hlw⟩ := capOK_len hlen hpos
  obtain ⟨v', w', tag', hr, hown', hgrow, hblk⟩ := run_append_mine (P := P) (ty := o.type) hu k1 k3 k2 k6 hown (m := ys.length) (c := cy) hency.length hnews had (hency.one _ _) hl (Nat.le_trans (Nat.mul_le_mul_left _ k5) hlw) h.base
  have hr' : (execOp a.eval o).run P w = .ok (.value v') w' := by
    simp [execOp, ho, resolve, hc, invoke, builtin, hargs, htys, hx, hy, hr]
  have hrow : ∀ g, hBlock v = some g → n0 ≤ g ∧ g < w.heap.size ∧ ∃ c t f, w.heap[g]? = some (.cells c t f) := by
    intro g hg
    rcases hown.2 with ⟨e1, _⟩ | ⟨g', cap, cur, e1, e2, e3, _⟩
    · rw [e1] at hg; simp [hBlock] at hg
    · rw [e1] at hg; simp [hBlock] at hg; subst hg; exact ⟨e2, (Array.getElem?_eq_some_iff.1 e3).1, _, _, _, e3⟩
  have hholds : Holds w' σ := by
    intro b ob hb
    have hb' := h.holds b ob hb
    rw [hgrow.block b (Array.getElem?_eq_some_iff.1 hb').1 (fun e => by have := hsig b e.symm; rw [hb] at this; simp at this)]
    exact hb'
  have htr : Trans n0 σ w σ w' := ⟨Store.le.refl σ, hholds, fun _ _ h => .inl h, hgrow.size, fun b hb hc => hgrow.block b hb (fun e => by
      obtain ⟨r1, _, c, t, f, r3⟩ := hrow b e.symm
      rcases hc with hc | ⟨o, h1, h2⟩
      · omega
      · rw [r3] at h1; simp only [Option.some.injEq] at h1; subst h1; cases h2), hgrow.os, hgrow.output, hgrow.tape⟩
  refine wp_val hr' (hn _ σ _ htr ?_)
  rw [hd]
  have hRel' : Rel C N n0 σ H st a w' := by
    refine ⟨hholds, h.size, h.defers.trans htr, Nat.le_trans h.base hgrow.size, fun k b hk => (h.box k b hk).keep (Store.le.refl σ) fun g hg => ⟨?_, ((h.box k b hk).block g hg).2.2.1⟩, h.apart, h.slot⟩
    exact hgrow.block g ((h.box k b hk).block g hg).1 (fun e => hap k b g hk e.symm hg)
  have h1 := hRel'.kill (d := d)
  have hsg' : ∀ g, hBlock v' = some g → σ g = none := by
    intro g hg
    rcases hblk g hg with e1 | e1
    · exact hsig g e1
    · rw [e1]; exact holds_new h.holds
  have hap' : ∀ k b', look k st.bx = some b' → ∀ g, hBlock v' = some g → hBlock (H k) ≠ some g := by
    intro k b' hk g hg hkg
    rcases hblk g hg with e1 | e1
    · exact hap k b' g hk e1 hkg
    · have := ((h.box k b' hk).block g hkg).1; omega
  refine ⟨fun k => if k = d then v' else H k, hholds, by rw [put_size]; exact h.size, by rw [put_defers]; exact h1.defers, h1.base, fun k b' hk => ?_, fun k k' b1 b2 g hk hk' hne hg hg' => ?_, fun k s' hk hc => ?_⟩
  · simp only [St.newBox, look_ins] at hk
    by_cases ek : k = d
    · simp [ek] at hk ⊢; subst hk
      exact ⟨tag', _, by simpa using hown', EncL.app _ _ _ _ henc hency, hsg', hpos⟩
    · simp [ek] at hk ⊢; exact h1.box k b' hk
  · simp only [St.newBox, look_ins] at hk hk'
    by_cases ek : k = d
    · by_cases ek' : k' = d
      · exact hne (ek.trans ek'.symm)
      · simp [ek, ek'] at hk hk' hg hg'
        exact hap' k' b2 (by simpa [St.kill, look_del, ek'] using hk') g hg hg'
    · by_cases ek' : k' = d
      · simp [ek, ek'] at hk hk' hg hg'
        exact hap' k b1 (by simpa [St.kill, look_del, ek] using hk) g hg' hg
      · simp [ek, ek'] at hk hk' hg hg'
        exact h1.apart k k' b1 b2 g hk hk' hne hg hg'
  · simp only [St.newBox, look_ins] at hk ⊢
    rw [getD_put (by rw [h.size]; exact hN)]
    by_cases ek : k = d
    · rw [if_pos ek]
      simp [ek] at hk; subst hk
      exact ⟨e, l ++ ys, by simp [look_ins], by simp⟩
    · rw [if_neg ek]
      simp [ek] at hk
      refine SVR.off (d := d) (kill_not hk) (fun c hc' => ?_) (h1.slot k s' hk hc)
      simp [look_ins, hc']

end
end Go.Lift
set_option linter.unusedSimpArgs false
namespace Go.Lift

section
variable {P : Program} {T : Nat → Option Ty} {G : Tbl} {w w' : World} {σ σ' τ : Store P} {bx bx' : List (Nat × Box)} {H H' : Nat → Value} {n0 n1 N : Nat} {C : Nat → Prop}

theorem BoxR.lower {b : Box} {v : Value} (h : BoxR σ w n1 b v) (hn : n0 ≤ n1) : BoxR σ w n0 b v := by
  cases b with
  | var d => obtain ⟨g, cs, ty, h1, h2, h3, h4, h5⟩ := h; exact ⟨g, cs, ty, h1, h2, h3, Nat.le_trans hn h4, h5⟩
  | mp t l => obtain ⟨g, es, ck, h1, h2, h3, h4, h5⟩ := h; exact ⟨g, es, ck, h1, h2, h3, Nat.le_trans hn h4, h5⟩
  | vec t l =>
    obtain ⟨ety, xs, h1, h2, h3, h4⟩ := h
    refine ⟨ety, xs, ⟨h1.1, ?_⟩, h2, h3, h4⟩
    rcases h1.2 with e | ⟨g, cap, cur, e1, e2, rest⟩
    · exact .inl e
    · exact .inr ⟨g, cap, cur, e1, Nat.le_trans hn e2, rest⟩

theorem Rel.addBox {st : St} {a : Act} {key : Nat} {b : Box} {u : Value} (h : Rel C N n0 σ H st a w) (hb : BoxR σ w n0 b u)
    (hf : ∀ k b' g, look k st.bx = some b' → k ≠ key → hBlock u = some g → hBlock (H k) ≠ some g) :
    Rel C N n0 σ (fun k => if k = key then u else H k) ⟨(st.kill key).sl, ins key b (st.kill key).bx⟩ a w := by
  have h1 := h.kill (d := key)
  refine ⟨h.holds, h.size, h.defers, h.base, fun k b' hk => ?_, fun k k' b1 b2 g hk hk' hne hg hg' => ?_, fun k s' hk hc => ?_⟩
  · simp only [look_ins] at hk
    by_cases e : k = key
    · simp [e] at hk ⊢; subst hk; exact hb
    · simp [e] at hk ⊢; exact h1.box k b' hk
  · simp only [look_ins] at hk hk'
    by_cases e : k = key
    · by_cases e' : k' = key
      · exact hne (e.trans e'.symm)
      · simp [e, e'] at hk hk' hg hg'
        exact hf k' b2 g (by simpa [St.kill, look_del, e'] using hk') e' hg hg'
    · by_cases e' : k' = key
      · simp [e, e'] at hk hk' hg hg'
        exact hf k b1 g (by simpa [St.kill, look_del, e] using hk) e hg' hg
      · simp [e, e'] at hk hk' hg hg'
        exact h1.apart k k' b1 b2 g hk hk' hne hg hg'
  · refine SVR.off (d := key) (kill_not hk) (fun c hc' => ?_) (h1.slot k s' hk hc)
    simp [look_ins, hc']

theorem installs_rel (d : Nat) (l0 : List SV) (vs : Array Value) (hret : ∀ (i : Nat) (s : SV) (u : Value), l0[i]? = some s → vs[i]? = some u → match s with
        | .tv d => RelV σ d u
        | .own t l => BoxR σ w n1 (.vec t l) u
        | _ => False) (hn1 : n0 ≤ n1)
    (hap : ∀ (i j : Nat) (t t' : Ty) (m : List t.D) (m' : List t'.D) (u u' : Value) (g : Nat), l0[i]? = some (.own t m) → l0[j]? = some (.own t' m') → vs[i]? = some u → vs[j]? = some u' → i ≠ j → hBlock u = some g → hBlock u' ≠ some g)
    (hsz : vs.size = l0.length) {a : Act} : ∀ (rest : List SV) (i : Nat) (st : St) (done : List SV) (H : Nat → Value), l0.drop i = rest → done.length = i → Rel C N n0 σ H st a w →
    (∀ (k : Nat) (b' : Box) (g : Nat), look k st.bx = some b' → hBlock (H k) = some g → g < n1 ∨ ∃ j t m, j < i ∧ l0[j]? = some (.own t m) ∧ vs[j]? = some (H k)) →
    (∀ (j : Nat) (s : SV), done[j]? = some s → (∃ d' : TD, s = .tv d' ∧ l0[j]? = some (.tv d')) ∨ (s = .ref (1000 + 100 * d + j) ∧ ∃ t m, look (1000 + 100 * d + j) st.bx = some (.vec t m) ∧ vs[j]? = some (H (1000 + 100 * d + j)))) →
    ∃ H', Rel C N n0 σ H' (installs d st done i rest).1 a w ∧ SVR σ (installs d st done i rest).1.bx H' (.tup (installs d st done i rest).2) (.tuple vs)
  | [], i, st, done, H, hdrop, hdl, hR, _, hdone => by
    have hlen : l0.length ≤ i := by
      have := congrArg List.length hdrop
      simp at this; omega
    have hdi : done.length ≤ l0.length := by
      rcases Nat.lt_or_ge l0.length done.length with hlt | hge
      · have hx : done[l0.length]? = some done[l0.length] := by simp [hlt]
        rcases hdone l0.length _ hx with ⟨d', e1, e2⟩ | ⟨e1, t, m, e2, e3⟩
        · simp at e2
        · have := (Array.getElem?_eq_some_iff.1 e3).1; omega
      · exact hge
    refine ⟨H, hR, vs, rfl, by simp only [installs]; omega, fun j s u hj hu => ?_⟩
    simp only [installs] at hj
    rcases hdone j s hj with ⟨d', rfl, e2⟩ | ⟨rfl, t, m, e2, e3⟩
    · exact hret j _ u e2 hu
    · rw [hu] at e3; simp at e3
      exact ⟨t, m, e2, e3⟩
  | s :: rest, i, st, done, H, hdrop, hdl, hR, hold, hdone => by
    have hi : l0[i]? = some s := by
      have := congrArg (·[0]?) hdrop
      simpa using this
    have hdrop' : l0.drop (i + 1) = rest := by
      have := congrArg List.tail hdrop
      simpa using this
    have hiv : i < vs.size := by rw [hsz]; exact (List.getElem?_eq_some_iff.1 hi).1
    have hu : vs[i]? = some vs[i] := by simp [hiv]
    have hri := hret i s vs[i] hi hu
    cases s with
    | own t m =>
      simp only [installs]
      have hfresh : ∀ k b' g, look k st.bx = some b' → k ≠ 1000 + 100 * d + i → hBlock vs[i] = some g → hBlock (H k) ≠ some g := by
        intro k b' g hk _ hg hkg
        rcases hold k b' g hk hkg with h1 | ⟨j, t', m', hj, h1, h2⟩
        · have := (BoxR.block hri g hg).2.1; omega
        · exact hap j i t' t m' m (H k) vs[i] g h1 hi h2 hu (by omega) hkg hg
      have hR' := hR.addBox (key := 1000 + 100 * d + i) (b := .vec t m) (u := vs[i]) (hri.lower hn1) hfresh
      refine installs_rel d l0 vs hret hn1 hap hsz rest (i + 1) _ _ _ hdrop' (by simp [hdl]) hR' (fun k b' g hk hkg => ?_) (fun j s' hj => ?_)
      · simp only [look_ins] at hk
        by_cases ek : k = 1000 + 100 * d + i
        · right; exact ⟨i, t, m, by omega, hi, by simp [ek, hu]⟩
        · simp [ek, St.kill, look_del] at hk hkg ⊢
          rcases hold k b' g hk hkg with h1 | ⟨j, t', m', hj, h1, h2⟩
          · exact .inl h1
          · exact .inr ⟨j, by omega, ⟨t', m', h1⟩, h2⟩
      · by_cases ej : j < i
        · rw [List.getElem?_append_left (by omega)] at hj
          rcases hdone j s' hj with h1 | ⟨h1, t', m', h2, h3⟩
          · exact .inl h1
          · right
            have hne : ¬ (1000 + 100 * d + j = 1000 + 100 * d + i) := by omega
            refine ⟨h1, t', m', ?_, ?_⟩
            · simp only [look_ins, if_neg hne, St.kill, look_del]; exact h2
            · simp only [if_neg hne]; exact h3
        · have ej' : j = i := by
            have := (List.getElem?_eq_some_iff.1 hj).1
            simp at this; omega
          subst ej'
          rw [List.getElem?_append_right (by omega)] at hj
          simp [hdl] at hj
          right
          exact ⟨hj.symm, t, m, by simp [look_ins], by simp [hu]⟩
    | tv d' =>
      simp only [installs]
      refine installs_rel d l0 vs hret hn1 hap hsz rest (i + 1) st _ H hdrop' (by simp [hdl]) hR (fun k b' g hk hkg => ?_) (fun j s' hj => ?_)
      · rcases hold k b' g hk hkg with h1 | ⟨j, t', m', hj, h1, h2⟩
        · exact .inl h1
        · exact .inr ⟨j, t', m', by omega, h1, h2⟩
      · by_cases ej : j < i
        · rw [List.getElem?_append_left (by omega)] at hj
          exact hdone j s' hj
        · have ej' : j = i := by
            have := (List.getElem?_eq_some_iff.1 hj).1
            simp at this; omega
          subst ej'
          rw [List.getElem?_append_right (by omega)] at hj
          simp [hdl] at hj
          exact .inl ⟨d', hj.symm, hi⟩
    | _ => exact hri.elim

theorem eff_call (hE : Env P T G) {o : Oper} {a : Act} {st : St} (h : Rel C N n0 σ H st a w) {d f : Nat} {c : Call} (ho : o.op = .call c) (hc : c.callee = .value (.func f)) (hd : o.dst = some d) (hN : d < N)
    {svs : List SV} {tds : List TD} {r : SV} (hC : ∀ x ∈ c.args.toList, ∀ k, x = .tmp k → C k) (h1 : mapO (opd st) c.args.toList = some svs) (h2 : svs.any SV.isRef = false) (h3 : argsTD T st.bx c.argTypes.toList svs = some tds)
    (hg : G f tds = some (true, r)) : EffOK P C N n0 o a w σ (install st d r) := by
  intro next Q hn
  obtain ⟨m1, m2⟩ := mapO_spec h1
  obtain ⟨t1, t2⟩ := argsTD_spec h3
  have hargs : ArgsR σ tds (c.args.map a.eval) := by
    refine ⟨by simp [t1, m1], fun i dd v hdd hv => ?_⟩
    simp only [Array.getElem?_map, Option.map_eq_some_iff] at hv
    obtain ⟨x, hx, rfl⟩ := hv
    have hx' : c.args.toList[i]? = some x := by simpa using hx
    obtain ⟨y, hy1, hy2⟩ := m2 i x hx'
    obtain ⟨d', hd1, hd2⟩ := t2 i y hy2
    rw [hdd] at hd1
    simp at hd1; subst hd1
    have hsv := h.opd (hC x (List.mem_of_getElem? hx')) hy1
    refine (data_rel h.holds h.box hd2 hsv).1 ?_
    have := List.any_eq_false.1 h2 y (List.mem_of_getElem? hy2)
    simpa using this
  refine wp_call hE ho hc hg h.holds hargs fun v σ' w' hs hr => ?_
  refine hn v σ' w' (hs.trans' h.base) ?_
  have hR := h.step hs
  rw [hd]
  cases r with
  | tv dd => exact ⟨H, hR.put (d := some d) (fun k hk => by simp at hk; omega) (s := .tv dd) hr⟩
  | own t l =>
    have hr' : BoxR σ' w' w.heap.size (.vec t l) v := hr
    have hR2 := h.newBox (a := a) (v := v) (s := .ref d) hs hN (b := .vec t l) (u := v) (BoxR.lower hr' h.base) (fun g hg => (BoxR.block hr' g hg).2.1) fun bx' H' h1 h2 => ⟨_, _, h1, h2.symm⟩
    exact ⟨_, hR2⟩
  | tup l =>
    obtain ⟨vs, rfl, hsz, hret, hap⟩ := hr
    obtain ⟨H', r1, r2⟩ := installs_rel (C := C) (N := N) d l vs hret h.base hap hsz l 0 st [] H rfl rfl hR
      (fun k b' g hk hkg => .inl ((h.box k b' hk).block g hkg).1) (fun j s hj => by simp at hj)
    exact ⟨H', r1.put (d := some d) (fun k hk => by simp at hk; omega) r2⟩
  | _ => exact hr.elim

/-- a call that takes a vector -/
theorem eff_take {o : Oper} {a : Act} {st : St} (h : Rel C N n0 σ H st a w) {b d : Nat} {e : Ty} {l r : List e.D} (hb : look b st.bx = some (.vec e l)) (hd : o.dst = some d) (hN : d < N)
    (hwp : ∀ (next : Act → World → Prop) (Q : Exit → Act → World → Prop), (∀ u σ' w', Taken (H b) σ w σ' w' → BoxR σ' w' n0 (.vec e r) u → (∀ g, hBlock u = some g → hBlock (H b) = some g ∨ w.heap.size ≤ g) → next (a.put o.dst u) w') → o.wp P a w next Q) :
    EffOK P C N n0 o a w σ ((st.kill b).newBox d (.vec e r) (.ref d)) := by
  intro next Q hn
  refine hwp next Q fun u σ' w' ht hu hnew => ?_
  have hB := h.box b _ hb
  have htr : Trans n0 σ w σ' w' := by
    refine ⟨ht.le, ht.holds, fun x y hx => (ht.news x y hx).imp id .inl, ht.size, fun x hx hc => ht.block x hx fun e1 => ?_, ht.os, ht.output, ht.tape⟩
    obtain ⟨_, k2, _, o', k4, k5⟩ := hB.block x e1
    rcases hc with hc | ⟨y, h1, h2⟩
    · omega
    · rw [k4] at h1; simp only [Option.some.injEq] at h1; subst h1; rw [k5] at h2; cases h2
  refine hn u σ' w' htr ⟨fun k => if k = d then u else H k, ?_⟩
  rw [hd]
  have hk := h.kill (d := b)
  have hbk : ∀ k b', look k (st.kill b).bx = some b' → k ≠ b ∧ look k st.bx = some b' := by
    intro k b' hkb
    simp only [St.kill, look_del] at hkb
    split at hkb
    · simp at hkb
    · rename_i hne; exact ⟨hne, hkb⟩
  have R1 : Rel C N n0 σ' H (st.kill b) a w' := by
    refine ⟨ht.holds, h.size, h.defers.trans htr, Nat.le_trans h.base ht.size, fun k b' hkb => (hk.box k b' hkb).keep ht.le fun g hg => ?_, hk.apart, fun k s hs hc => (hk.slot k s hs hc).mono ht.le⟩
    obtain ⟨hne, hkb'⟩ := hbk k b' hkb
    obtain ⟨q1, _, q3, _⟩ := (hk.box k b' hkb).block g hg
    refine ⟨ht.block g q1 fun e1 => h.apart b k _ b' g hb hkb' (Ne.symm hne) e1 hg, ?_⟩
    cases hs : σ' g with
    | none => rfl
    | some y => rcases ht.news g y hs with h4 | h4 <;> first | (rw [q3] at h4; simp at h4) | omega
  have R2 := R1.put (d := some d) (v := u) (s := .gone) (fun k hk => by simp at hk; omega) trivial
  have R3 := R2.ownBox (d := d) (b := .vec e r) (s := .ref d) (v := u) (by rw [getD_put (by rw [h.size]; exact hN), if_pos rfl]) hu (fun k b' g hkb hg hkg => by
      obtain ⟨hne, hkb'⟩ := hbk k b' hkb
      rcases hnew g hg with e1 | e1
      · exact h.apart b k _ b' g hb hkb' (Ne.symm hne) e1 hkg
      · have := ((h.box k b' hkb').block g hkg).1; omega) fun bx' H' h1 h2 => ⟨_, _, h1, h2.symm⟩
  refine ⟨R3.holds, R3.size, R3.defers, R3.base, R3.box, R3.apart, fun k s hs hc => R3.slot k s ?_ hc⟩
  simp only [St.newBox, look_ins, St.put, St.kill, look_mapS] at hs ⊢
  by_cases e1 : k = d
  · simpa [e1] using hs
  · simpa [e1] using hs

theorem EncL.flat {σ τ : Store P} {t : Ty} (ht : t.flat = true) : ∀ (l : List t.D) (cs : List Value), EncL σ t l cs → EncL τ t l cs
  | [], _, e => e
  | _ :: l, _, ⟨c, r, h1, h2, h3⟩ => ⟨c, r, h1, Enc.flat _ _ _ ht h2, EncL.flat ht l r h3⟩

/-- a call that reads the frame's own memory and gives memory of its own -/
theorem eff_callFlat (hE : Env P T G) {o : Oper} {a : Act} {st st' : St} (h : Rel C N n0 σ H st a w) {d f : Nat} {c : Call} (ho : o.op = .call c) (hc : c.callee = .value (.func f)) (hd : o.dst = some d) (hN : d < N)
    {svs : List SV} {tds : List TD} {r : Bool × SV} (hC : ∀ x ∈ c.args.toList, ∀ k, x = .tmp k → C k) (h1 : mapO (opd st) c.args.toList = some svs) (h3 : argsTD T st.bx c.argTypes.toList svs = some tds)
    (hg : G f tds = some r) (hfl : flatOwn st d r = some (true, st')) : EffOK P C N n0 o a w σ st' := by
  obtain ⟨c0, r⟩ := r
  cases r with
  | own t l =>
    simp only [flatOwn] at hfl
    obtain ⟨hflat, hfl'⟩ := cond_none hfl
    simp only [Option.some.injEq, Prod.mk.injEq] at hfl'
    obtain ⟨rfl, rfl⟩ := hfl'
    intro next Q hn
    obtain ⟨m1, m2⟩ := mapO_spec h1
    obtain ⟨t1, t2⟩ := argsTD_spec h3
    have hargs : ArgsR (heapS (P := P) w) tds (c.args.map a.eval) := by
      refine ⟨by simp [t1, m1], fun i dd v hdd hv => ?_⟩
      simp only [Array.getElem?_map, Option.map_eq_some_iff] at hv
      obtain ⟨x, hx, rfl⟩ := hv
      have hx' : c.args.toList[i]? = some x := by simpa using hx
      obtain ⟨y, hy1, hy2⟩ := m2 i x hx'
      obtain ⟨d', hd1, hd2⟩ := t2 i y hy2
      rw [hdd] at hd1
      simp at hd1; subst hd1
      have hsv := h.opd (hC x (List.mem_of_getElem? hx')) hy1
      exact (data_rel h.holds h.box hd2 hsv).2
    refine wp_call hE ho hc hg (holds_heapS w) hargs fun v σ' w' hs hr => ?_
    have hh' : Holds w' σ := fun b o hb => by
      have := h.holds b o hb
      rw [hs.block b (Array.getElem?_eq_some_iff.1 this).1]; exact this
    have hs2 : Step σ w σ w' := ⟨Store.le.refl σ, hh', fun _ _ hb => .inl hb, hs.size, hs.block, hs.os, hs.output, hs.tape⟩
    have hr' : BoxR σ' w' w.heap.size (.vec t l) v := hr
    have hnew : ∀ g, hBlock v = some g → w.heap.size ≤ g := fun g hg => (BoxR.block hr' g hg).2.1
    obtain ⟨ety, xs, q1, q2, q3, q4⟩ := hr'
    have hr2 : BoxR σ w' w.heap.size (.vec t l) v := ⟨ety, xs, q1, EncL.flat hflat _ _ q2, fun g hg => by
      cases hs3 : σ g with
      | none => rfl
      | some y => have := (Array.getElem?_eq_some_iff.1 (h.holds g y hs3)).1; have := hnew g hg; omega, q4⟩
    have hR := h.newBox (a := a) (v := v) (s := .ref d) hs2 hN (b := .vec t l) (u := v) (BoxR.lower hr2 h.base) hnew fun bx' H' h1 h2 => ⟨_, _, h1, h2.symm⟩
    exact hn v σ w' (hs2.trans' h.base) ⟨_, by rw [hd]; exact hR⟩
  | _ => simp [flatOwn] at hfl

end
end Go.Lift
set_option linter.unusedSimpArgs false
namespace Go.Lift

section
variable {P : Program} {T : Nat → Option Ty} {G : Tbl} {w w' : World} {σ σ' τ : Store P} {bx bx' : List (Nat × Box)} {H H' : Nat → Value} {n0 n1 N : Nat} {C : Nat → Prop}

/-- arguments, one by one -/
theorem args_unpack {τ : Store P} : ∀ (A : Ty) (x : A.D) (vs : List Value), ArgShape A vs → Enc τ A x (flatCells vs) → (unpackD A x).length = vs.length ∧
    ∀ (i : Nat) (d : TD) (v : Value), (unpackD A x)[i]? = some d → vs[i]? = some v → RelV τ d v
  | .cons a b, x, v :: vs, ⟨h1, h2, h3⟩, he => by
    obtain ⟨c, r, e1, e2, e3⟩ := he
    have hl : c.length = v.cells.toList.length := by rw [e2.length]; simpa using h1.symm
    have e1' : v.cells.toList ++ flatCells vs = c ++ r := by rw [← e1]; simp [flatCells]
    obtain ⟨q1, q2⟩ := List.append_inj e1' hl.symm
    subst q1; subst q2
    obtain ⟨i1, i2⟩ := args_unpack b x.2 vs h3 e3
    refine ⟨by simp [unpackD, i1], fun i d u hd hu => ?_⟩
    cases i with
    | zero => simp [unpackD] at hd hu; subst hd; subst hu; exact ⟨e2, h2⟩
    | succ i => exact i2 i d u (by simpa [unpackD] using hd) (by simpa using hu)
  | .nil, _, [], _, _ => ⟨rfl, fun i d v h => by simp [unpackD] at h⟩
  | .nil, _, _ :: _, h, _ => h.elim
  | .cons _ _, _, [], h, _ => h.elim
  | .int _, _, [], h, _ => h.elim
  | .int _, _, _ :: _, h, _ => h.elim
  | .bool, _, [], h, _ => h.elim
  | .bool, _, _ :: _, h, _ => h.elim
  | .str, _, [], h, _ => h.elim
  | .str, _, _ :: _, h, _ => h.elim
  | .slice _, _, [], h, _ => h.elim
  | .slice _, _, _ :: _, h, _ => h.elim
  | .ptr _, _, [], h, _ => h.elim
  | .ptr _, _, _ :: _, h, _ => h.elim
  | .fn _ _, _, [], h, _ => h.elim
  | .fn _ _, _, _ :: _, h, _ => h.elim
  | .seq _, _, [], h, _ => h.elim
  | .seq _, _, _ :: _, h, _ => h.elim

theorem opEff_ok (hE : Env P T G) {o : Oper} {a : Act} {st st' : St} (h : Rel C N n0 σ H st a w) (hC : ∀ x ∈ o.op.operands.toList, ∀ k, x = .tmp k → C k) (hdst : dstOK N o.dst) (hv : opEff G T o st = some (true, st')) :
    EffOK P C N n0 o a w σ st' := by
  have dlt : ∀ d, o.dst = some d → d < N := hdst
  cases ho : o.op with
  | assign x =>
    rw [ho] at hC; simp only [Op.operands] at hC
    cases hd : o.dst with
    | none => simp [opEff, ho, hd] at hv
    | some d =>
      simp only [opEff, ho, hd, Option.bind_eq_some_iff] at hv
      obtain ⟨s, hs, hv⟩ := hv
      have hr := h.opd (hC x (by simp)) hs
      split at hv
      · simp at hv; subst hv; exact eff_assign h ho hd (dlt d hd) hr
      · simp at hv; subst hv; exact eff_assignM h ho hd (dlt d hd) hr
      · simp only [Option.bind_eq_some_iff] at hv
        obtain ⟨ty, hty, hv⟩ := hv
        split at hv
        · simp at hv; subst hv
          obtain ⟨_, _, _, hpos⟩ := chk_slice (hE.types _ _ hty)
          exact eff_nil h ho hd (dlt d hd) hpos hr
        · simp at hv
      · simp at hv
  | alloc t =>
    cases hd : o.dst with
    | none => simp [opEff, ho, hd] at hv
    | some d =>
      simp only [opEff, ho, hd, Option.map_eq_some_iff, Prod.mk.injEq, true_and] at hv
      obtain ⟨ty, hty, rfl⟩ := hv
      exact eff_alloc h ho hd (dlt d hd) (hE.types _ _ hty)
  | makeMap t r =>
    cases r with
    | some r => cases hd : o.dst <;> simp [opEff, ho, hd] at hv
    | none =>
      cases hd : o.dst with
      | none => simp [opEff, ho, hd] at hv
      | some d =>
        simp only [opEff, ho, hd] at hv
        obtain ⟨hm, hv'⟩ := cond_none hv
        simp only [Option.some.injEq, Prod.mk.injEq, true_and] at hv'
        subst hv'
        exact eff_makeMap h ho hd (dlt d hd)
  | mapUpdate t m k x =>
    rw [ho] at hC; simp only [Op.operands] at hC
    cases hd : o.dst with
    | some d => simp [opEff, ho, hd] at hv
    | none =>
      simp only [opEff, ho, hd, Option.bind_eq_some_iff] at hv
      obtain ⟨sm, hm, hv⟩ := hv
      have hrm := h.opd (hC m (by simp)) hm
      split at hv
      · rename_i b
        obtain ⟨t', l, h1, h2⟩ := hrm
        simp only [h1] at hv
        obtain ⟨hc, hv'⟩ := cond_none hv; clear hv; have hv := hv'; clear hv'
        simp only [Bool.and_eq_true] at hc
        have htt := Nat.eq_of_beq_eq_true hc.1
        subst htt
        obtain ⟨kt, et, k1, k2, k3⟩ := hE.maps _ hc.2
        simp only [Option.bind_eq_some_iff] at hv
        obtain ⟨sk, hsk, hv⟩ := hv
        have hrk := h.opd (hC k (by simp)) hsk
        split at hv
        · rename_i n hn
          simp only [Option.bind_eq_some_iff] at hv
          obtain ⟨sx, hsx, hv⟩ := hv
          have hrx := h.opd (hC x (by simp)) hsx
          split at hv
          · rename_i u hu
            simp only [Option.some.injEq, Prod.mk.injEq, true_and] at hv
            subst hv
            exact eff_mapUpdate h ho hd k1 k2 h1 h2 (svr_int (by rw [int_inv hn] at hrk; exact hrk)) (svr_int (by rw [int_inv hu] at hrx; exact hrx))
          · simp at hv
        · simp at hv
      · simp at hv
  | box t x =>
    rw [ho] at hC; simp only [Op.operands] at hC
    cases hd : o.dst with
    | none => simp [opEff, ho, hd] at hv
    | some d =>
      simp only [opEff, ho, hd, Option.bind_eq_some_iff, Option.map_eq_some_iff, Prod.mk.injEq, true_and] at hv
      obtain ⟨ty, hty, s, hs, y, hy, rfl⟩ := hv
      obtain ⟨hrf, hy⟩ := cond_none' hy
      obtain ⟨σ1, t1, h1⟩ := h.freezeOps [x] st σ
      refine EffOK.before t1 (eff_box h1 ho hd (dlt d hd) ?_)
      exact (data_rel h1.holds h1.box hy (h1.opd (hC x (by simp)) hs)).1 hrf
  | makeFunc fn first caps =>
    cases hd : o.dst with
    | none => simp [opEff, ho, hd] at hv
    | some d =>
      cases fn with
      | func f =>
        simp only [opEff, ho, hd] at hv
        obtain ⟨hfirst, hv'⟩ := cond_none hv; clear hv; have hv := hv'; clear hv'
        simp only [Option.bind_eq_some_iff] at hv
        obtain ⟨cs, hcs, ty, hty, hv⟩ := hv
        have hfe : first = #[] := by simpa using hfirst
        subst hfe
        obtain ⟨σ1, t1, h1⟩ := h.freezeVs caps.toList st σ
        have hC' : ∀ x ∈ caps.toList, ∀ k, x = .tmp k → C k := fun x hx => hC x (by rw [ho]; simp [Op.operands]; simpa using hx)
        obtain ⟨m1, m2⟩ := mapO_spec hcs
        have hcaps : ArgsR σ1 cs (caps.map a.eval) := by
          refine ⟨by simp [m1], fun i dd v hdd hv => ?_⟩
          simp only [Array.getElem?_map, Option.map_eq_some_iff] at hv
          obtain ⟨x, hx, rfl⟩ := hv
          have hx' : caps.toList[i]? = some x := by simpa using hx
          obtain ⟨y, hy1, hy2⟩ := m2 i x hx'
          rw [hdd] at hy2; simp only [Option.some.injEq] at hy2; subst hy2
          simp only [capTD, Option.bind_eq_some_iff] at hy1
          obtain ⟨sx, hsx, hy1⟩ := hy1
          have hr := h1.opd (hC' x (List.mem_of_getElem? hx')) hsx
          split at hy1
          · rename_i d0
            simp only [Option.some.injEq] at hy1; subst hy1
            exact relV_cptr (bx := (freezeVs st caps.toList).bx) (H := H) (t := .ptr d0.t) (d := d0) (by simp only [cptrD]; rw [show d0.as d0.t = some d0.x from TD.as_self d0.t d0.x]; rfl) hr
          · simp only [Option.some.injEq] at hy1; subst hy1; exact hr
          · simp at hy1
        have hrun : (execOp a.eval o).run P w = .ok (.value (.func (.func f) #[] (caps.map a.eval))) w := by
          simp [execOp, ho, Instr.makeFunc]
        have fin : ∀ s : SV, SVR σ1 (freezeVs st caps.toList).bx H s (.func (.func f) #[] (caps.map a.eval)) → EffOK P C N n0 o a w σ ((freezeVs st caps.toList).put (some d) s) := fun s hs => by
          refine EffOK.before t1 fun next Q hn => wp_val hrun (hn _ σ1 _ (Trans.refl h1.holds) ⟨H, ?_⟩)
          rw [hd]
          exact h1.put (by rw [← hd]; exact hdst) hs
        split at hv
        · simp only [Option.some.injEq, Prod.mk.injEq, true_and] at hv
          subst hv
          refine fin _ ⟨⟨.func (.func f) #[] (caps.map a.eval), by simp [Value.cells], rfl, rfl, fun x hx => ?_⟩, rfl⟩
          simp only [fnOf] at hx ⊢
          split at hx
          · rename_i c0 d0 hG
            split at hx
            · rename_i y hy
              simp only at hx
              subst hx
              refine ⟨f, caps.map a.eval, rfl, hE.fns f _ _ hG, fun τ w' vs hle hh hsh henc => ?_⟩
              have hap := args_unpack (τ := τ) _ x vs hsh henc
              have hall : ArgsR τ (unpackD _ x ++ cs) (vs.toArray ++ caps.map a.eval) := by
                refine ⟨by simp [hap.1, m1], fun i dd v hdd hv => ?_⟩
                rw [Array.getElem?_append] at hv
                split at hv
                · rename_i hlt
                  have hlt' : i < (unpackD _ x).length := by rw [hap.1]; simpa using hlt
                  rw [List.getElem?_append_left hlt'] at hdd
                  exact hap.2 i dd v hdd (by simpa using hv)
                · rename_i hge
                  have hge' : (unpackD _ x).length ≤ i := by rw [hap.1]; simpa using hge
                  rw [List.getElem?_append_right hge'] at hdd
                  have e : i - (vs.toArray).size = i - (unpackD _ x).length := by rw [hap.1]; simp
                  rw [e] at hv
                  exact RelV.mono hle (hcaps.2 _ dd v hdd hv)
              refine (hE.good f _ _ hG τ w' _ hh hall).mono fun e w2 ⟨v, τ', he, hst, hr⟩ => ?_
              have := TD.as_eq hy
              subst this
              have hr' : RelV τ' ⟨_, y⟩ v := hr
              simp only [hG, hy]
              exact ⟨v, τ', he, hst, hr'.1, hr'.2⟩
            · cases hx
          · cases hx
        · simp only [Option.bind_eq_some_iff] at hv
          obtain ⟨r, hr, hv⟩ := hv
          obtain ⟨he, hv'⟩ := cond_none hv; clear hv; have hv := hv'; clear hv'
          simp only [Option.some.injEq, Prod.mk.injEq] at hv
          obtain ⟨hc, rfl⟩ := hv
          obtain ⟨c0, sq⟩ := r
          simp only at hc
          subst hc
          exact fin _ ⟨by simpa [Value.cells] using hE.seqs f _ _ hr σ1 _ hcaps, rfl⟩
        · simp at hv
      | _ => simp [opEff, ho, hd] at hv
  | build t parts =>
    cases hd : o.dst with
    | none => simp [opEff, ho, hd] at hv
    | some d =>
      simp only [opEff, ho, hd, Option.map_eq_some_iff, Prod.mk.injEq] at hv
      obtain ⟨⟨c, r⟩, hr, rfl, rfl⟩ := hv
      obtain ⟨σ1, t1, h1⟩ := h.freezeOps (Op.operands (.build t parts)).toList st σ
      refine EffOK.before t1 fun next Q hn => ?_
      have hρ : OpdR (opd (freezeOps st (Op.operands (.build t parts)).toList)) o a σ1 (freezeOps st (Op.operands (.build t parts)).toList).bx H := by
        unfold OpdR
        rw [ho]
        intro x hx s hs
        exact h1.opd (hC x (by rw [ho]; exact hx)) hs
      refine opVal_yields hE h1.holds h1.box hρ hr next Q fun v σ2 w2 hst hsv => hn v σ2 w2 (hst.trans' h1.base) ⟨H, ?_⟩
      rw [hd]
      exact (h1.step hst).put (by rw [← hd]; exact hdst) hsv
  | buildSlice t len parts =>
    cases hd : o.dst with
    | none => simp [opEff, ho, hd] at hv
    | some d =>
      simp only [opEff, ho, hd, Option.bind_eq_some_iff] at hv
      obtain ⟨ty, hty, hv⟩ := hv
      split at hv
      · obtain ⟨hb, hv⟩ := cond_none hv
        simp only [Option.map_eq_some_iff, Prod.mk.injEq, true_and] at hv
        obtain ⟨l, hl, rfl⟩ := hv
        obtain ⟨σ1, t1, h1⟩ := h.freezeOps (Op.operands (.buildSlice t len parts)).toList st σ
        refine EffOK.before t1 (eff_buildSlice h1 ho hd (dlt d hd) (hE.types _ _ hty) hb (fun i x hix => hC x ?_) hl)
        rw [ho]
        simp only [Op.operands]
        exact List.mem_map.2 ⟨(i, x), hix, rfl⟩
      · simp at hv
  | makeSlice t x y =>
    rw [ho] at hC; simp only [Op.operands] at hC
    cases hd : o.dst with
    | none => simp [opEff, ho, hd] at hv
    | some d =>
      simp only [opEff, ho, hd, Option.bind_eq_some_iff] at hv
      obtain ⟨ty, hty, hv⟩ := hv
      split at hv
      · simp only [Option.bind_eq_some_iff] at hv
        obtain ⟨sn, hsn, ⟨k, n⟩, hkn, sc, hsc, ⟨k', c⟩, hkc, hv⟩ := hv
        simp only [Option.some.injEq, Prod.mk.injEq, Bool.and_eq_true, decide_eq_true_eq] at hv
        obtain ⟨⟨⟨q1, q2⟩, q3⟩, rfl⟩ := hv
        have e1 := h.opd (hC x (by simp)) hsn
        have e2 := h.opd (hC y (by simp)) hsc
        rw [int_inv hkn] at e1; rw [int_inv hkc] at e2
        exact eff_make h ho hd (dlt d hd) (hE.types _ _ hty) (svr_int e1) (svr_int e2) q1 q2 q3
      · simp at hv
  | store t ad x =>
    rw [ho] at hC; simp only [Op.operands] at hC
    cases hd : o.dst with
    | some d => simp [opEff, ho, hd] at hv
    | none =>
      simp only [opEff, ho, hd, Option.bind_eq_some_iff] at hv
      obtain ⟨ty, hty, s, hs, y, hy, sa, hsa, hv⟩ := hv
      obtain ⟨hrf, hy⟩ := cond_none' hy
      obtain ⟨σ1, t1, h1⟩ := h.freezeOps [x] st σ
      refine EffOK.before t1 ?_
      have hx := (data_rel h1.holds h1.box hy (h1.opd (hC x (by simp)) hs)).1 hrf
      have ha := h1.opd (hC ad (by simp)) hsa
      split at hv
      · split at hv
        · rename_i hb
          simp only [Option.map_eq_some_iff, Prod.mk.injEq, true_and] at hv
          obtain ⟨x', hx', rfl⟩ := hv
          exact eff_store_v h1 ho hd (hE.types _ _ hty) hx hb ha hx'
        · simp at hv
      · split at hv
        · rename_i hb
          simp only [Option.map_eq_some_iff, Prod.mk.injEq, true_and] at hv
          obtain ⟨x', hx', rfl⟩ := hv
          exact eff_store_e h1 ho hd (hE.types _ _ hty) hx hb ha hx'
        · simp at hv
      · simp at hv
  | call c =>
    have hC' : ∀ x ∈ c.args.toList, ∀ k, x = .tmp k → C k := fun x hx => hC x (by rw [ho]; simp [Op.operands, Call.operands]; right; simpa using hx)
    cases hd : o.dst with
    | none => simp [opEff, ho, hd] at hv
    | some d =>
      simp only [opEff, ho, hd] at hv
      cases hc : c.callee with
      | invoke r m => simp [hc] at hv
      | value f =>
        cases f with
        | func f =>
          simp only [hc] at hv
          cases hGo : G.o f with
          | none =>
            simp only [hGo] at hv
            split at hv
            · rename_i x hx
              simp only [Option.some.injEq] at hv
              subst hv
              simp only [Option.bind_eq_some_iff] at hx
              obtain ⟨svs, h1, tds, h2, r, h3, h4⟩ := hx
              obtain ⟨_, h2⟩ := cond_none h2
              exact eff_callFlat hE h ho hc hd (dlt d hd) hC' h1 h2 h3 h4
            simp only [Option.bind_eq_some_iff, Option.map_eq_some_iff, Prod.mk.injEq] at hv
            obtain ⟨svs, h1, tds, h2, ⟨cb, r⟩, h3, rfl, rfl⟩ := hv
            obtain ⟨hrf, h2⟩ := cond_none' h2
            obtain ⟨σ1, t1, hR⟩ := h.freezeOps c.args.toList st σ
            exact EffOK.before t1 (eff_call hE hR ho hc hd (dlt d hd) hC' h1 hrf h2 h3)
          | some oc =>
            simp only [hGo] at hv
            split at hv
            · rename_i x xs t0 ts hargs htys
              rw [hargs] at hC'
              simp only [Option.bind_eq_some_iff] at hv
              obtain ⟨sx, hsx, hv⟩ := hv
              have hx := h.opd (hC' x (by simp)) hsx
              split at hv
              · rename_i b
                obtain ⟨t', l', g1, g2⟩ := hx
                obtain ⟨σ1, t1, hR⟩ := h.freezeOps xs st σ
                split at hv
                · rename_i e' l0 hlk
                  simp only [Option.bind_eq_some_iff, Option.map_eq_some_iff, Prod.mk.injEq] at hv
                  obtain ⟨l, hl, svs, h1, tds, h2, hk, rfl⟩ := hv
                  have heq := TD.as_eq hl
                  simp only [TD.mk.injEq, Ty.slice.injEq] at heq
                  obtain ⟨rfl, heq⟩ := heq
                  have heq := eq_of_heq heq
                  subst heq
                  obtain ⟨hrf, h2⟩ := cond_none' h2
                  obtain ⟨m1, m2⟩ := mapO_spec h1
                  obtain ⟨a1, a2⟩ := argsTD_spec h2
                  have hargsR : ArgsR σ1 tds (xs.map a.eval).toArray := by
                    refine ⟨by simp [a1, m1], fun i dd v hdd hv => ?_⟩
                    simp only [List.getElem?_toArray, List.getElem?_map, Option.map_eq_some_iff] at hv
                    obtain ⟨y, hy, rfl⟩ := hv
                    obtain ⟨s, hy1, hy2⟩ := m2 i y hy
                    obtain ⟨d', hd1, hd2⟩ := a2 i s hy2
                    rw [hdd] at hd1
                    simp at hd1; subst hd1
                    have hsv := hR.opd (hC' y (List.mem_cons_of_mem _ (List.mem_of_getElem? hy))) hy1
                    refine (data_rel hR.holds hR.box hd2 hsv).1 ?_
                    have := List.any_eq_false.1 hrf s (List.mem_of_getElem? hy2)
                    simpa using this
                  obtain ⟨hfn, hgood⟩ := hE.owns f oc hGo
                  refine EffOK.before t1 (eff_take hR hlk hd (dlt d hd) fun next Q hn => ?_)
                  have hav : c.args.map a.eval = (H b :: xs.map a.eval).toArray := by
                    apply Array.ext'
                    simp [hargs, g2]
                  unfold Oper.wp
                  rw [run_call ho hc hfn, Oper.upon_enter, hav]
                  refine (hgood _ tds hk σ1 w n0 (H b) (xs.map a.eval) hR.holds hR.base (hR.box b _ hlk) hargsR).mono fun en w' he => ?_
                  obtain ⟨u, σ', rfl, q1, q2, q3⟩ := he
                  exact hn u σ' w' q1 q2 q3
                · simp at hv
              · simp at hv
            · simp at hv
        | _ => simp [hc] at hv
      | builtin b =>
        cases b with
        | append =>
          simp only [hc] at hv
          split at hv
          · rename_i x y t t' hargs htys
            simp only [Option.bind_eq_some_iff] at hv
            obtain ⟨ty, hty, hv⟩ := hv
            obtain ⟨hbt, hty'⟩ := cond_none hty
            clear hty
            have hty := hty'
            have htt : t = t' := Nat.eq_of_beq_eq_true hbt
            subst htt
            clear hbt
            have ha : c.args = #[x, y] := by apply Array.ext'; simpa using hargs
            have htya : c.argTypes = #[t, t] := by apply Array.ext'; simpa using htys
            rw [hargs] at hC'
            split at hv
            · rename_i e
              have hch := hE.types _ _ hty
              obtain ⟨et, hu, hce, hpos⟩ := chk_slice hch
              simp only [Option.bind_eq_some_iff] at hv
              obtain ⟨sy, hsy, ys, hys, sx, hsx, hv⟩ := hv
              obtain ⟨ad, cy, news, hy1, hy2, hy3, hy4⟩ := data_news h.holds h.box hys (h.opd (hC' y (by simp)) hsy)
              have hx := h.opd (hC' x (by simp)) hsx
              split at hv
              · simp only [Option.some.injEq, Prod.mk.injEq] at hv
                obtain ⟨hlen, rfl⟩ := hv
                have hx0 : a.eval x = .slice none 0 0 := hx
                have := eff_append (l := ([] : List e.D)) h ho hc ha htya hd (dlt d hd) hch hu hce hx0 (World.ownsRow_nil w n0 0 e.size) rfl (fun g hg => by simp [hBlock] at hg) (fun k b' g _ hg => by simp [hBlock] at hg) hy1 rfl hy2 hy3 hy4 (by simpa using hlen)
                simpa using this
              · rename_i b
                obtain ⟨t', l, g1, g2⟩ := hx
                simp only [g1, Option.map_eq_some_iff, Prod.mk.injEq] at hv
                obtain ⟨l', hl', hlen, rfl⟩ := hv
                have heq := TD.as_eq hl'
                simp only [TD.mk.injEq, Ty.slice.injEq] at heq
                obtain ⟨rfl, heq⟩ := heq
                have heq := eq_of_heq heq
                subst heq
                obtain ⟨ety, xs, hown, henc, hsig, _⟩ := h.box b _ g1
                have hk := h.kill (d := b)
                refine eff_append hk ho hc ha htya hd (dlt d hd) hch hu hce g2 hown henc hsig (fun k b' g hk' hg hkg => ?_) hy1 rfl hy2 hy3 hy4 hlen
                simp only [St.kill, look_del] at hk'
                split at hk'
                · simp at hk'
                · rename_i hne
                  exact h.apart b k _ b' g g1 hk' (Ne.symm hne) hg hkg
              · rename_i b lo hi
                obtain ⟨t', l, g1, g2, g3, g4⟩ := hx
                simp only [g1, Option.map_eq_some_iff, Prod.mk.injEq, Bool.and_eq_true, decide_eq_true_eq] at hv
                obtain ⟨l', hl', ⟨hlo, hlen⟩, rfl⟩ := hv
                subst hlo
                have heq := TD.as_eq hl'
                simp only [TD.mk.injEq, Ty.slice.injEq] at heq
                obtain ⟨rfl, heq⟩ := heq
                have heq := eq_of_heq heq
                subst heq
                obtain ⟨ety, xs, hown, henc, hsig, _⟩ := h.box b _ g1
                have hk := h.kill (d := b)
                have hl : (l.take hi).length = hi := by simp; omega
                refine eff_append (l := l.take hi) hk ho hc ha htya hd (dlt d hd) hch hu hce g4 (by rw [hl]; exact ownsRow_view hown g3) (henc.take hi l xs g3).1 (fun g hg => hsig g (by rwa [hBlock_view] at hg)) (fun k b' g hk' hg hkg => ?_) hy1 rfl hy2 hy3 hy4 (by rw [hl]; exact hlen)
                rw [hBlock_view] at hg
                simp only [St.kill, look_del] at hk'
                split at hk'
                · simp at hk'
                · rename_i hne
                  exact h.apart b k _ b' g g1 hk' (Ne.symm hne) hg hkg
              · simp at hv
            · simp at hv
          · simp at hv
        | _ => simp [hc] at hv
  | _ => cases hd : o.dst <;> simp [opEff, ho, hd] at hv

theorem opStep_ok (hE : Env P T G) {o : Oper} {a : Act} {st st' : St} (h : Rel C N n0 σ H st a w) (hρ : OpdR (opd st) o a σ st.bx H) (hC : ∀ x ∈ o.op.operands.toList, ∀ k, x = .tmp k → C k) (hdst : dstOK N o.dst)
    (hv : opStep G T o st = some (true, st')) : EffOK P C N n0 o a w σ st' := by
  unfold opStep at hv
  split at hv
  · rename_i c v hov
    simp at hv
    obtain ⟨rfl, rfl⟩ := hv
    intro next Q hn
    exact opVal_yields hE h.holds h.box hρ hov next Q fun v' σ2 w2 hst hsv => hn v' σ2 w2 (hst.trans' h.base) ⟨H, (h.step hst).put hdst hsv⟩
  · exact opEff_ok hE h hC hdst hv

end
end Go.Lift
set_option linter.unusedSimpArgs false
namespace Go.Lift

/-! what the static looks say -/
theorem gds_spec : ∀ (l : List Oper) (k j : Nat) (o : Oper) (g : Nat × Bool) (d : Nat), l[j]? = some o → o.guard = some g → o.dst = some d → (d, k + j, g) ∈ gds k l
  | [], _, _, _, _, _, h, _, _ => by simp at h
  | o' :: r, k, j, o, g, d, h, hg, hd => by
    simp only [gds]
    cases j with
    | zero =>
      simp at h; subst h
      simp [hg, hd]
    | succ j =>
      have := gds_spec r (k + 1) j o g d (by simpa using h) hg hd
      rw [show k + (j + 1) = k + 1 + j by omega]
      split
      · exact List.mem_cons_of_mem _ this
      · exact this

theorem okOpers_spec {all : List Oper} {gs : List (Nat × Nat × Nat × Bool)} : ∀ (l : List Oper) (k : Nat), okOpers all gs k l = true → ∀ (j : Nat) (o : Oper), l[j]? = some o → okOper all gs (k + j) o = true
  | [], _, _, _, _, h => by simp at h
  | o' :: r, k, h, j, o, hj => by
    simp only [okOpers, Bool.and_eq_true] at h
    cases j with
    | zero => simp at hj; subst hj; exact h.1
    | succ j => rw [show k + (j + 1) = k + 1 + j by omega]; exact okOpers_spec r (k + 1) h.2 j o (by simpa using hj)

theorem distinctB_spec : ∀ {l : List Nat}, distinctB l = true → l.Nodup
  | [], _ => List.nodup_nil
  | a :: r, h => by
    simp only [distinctB, Bool.and_eq_true, Bool.not_eq_true', List.any_eq_false] at h
    refine List.nodup_cons.2 ⟨fun hm => ?_, distinctB_spec h.2⟩
    have := h.1 a hm
    simp at this

theorem dst_inj : ∀ {l : List Oper}, (l.filterMap (·.dst)).Nodup → ∀ (i j : Nat) (o o' : Oper) (d : Nat), l[i]? = some o → l[j]? = some o' → o.dst = some d → o'.dst = some d → i = j
  | [], _, _, _, _, _, _, h, _, _, _ => by simp at h
  | x :: r, hn, i, j, o, o', d, hi, hj, ho, ho' => by
    have mem : ∀ (k : Nat) (p : Oper), r[k]? = some p → p.dst = some d → d ∈ r.filterMap (·.dst) := fun k p hk hp => List.mem_filterMap.2 ⟨p, List.mem_of_getElem? hk, hp⟩
    simp only [List.filterMap_cons] at hn
    cases i with
    | zero =>
      simp at hi; subst hi
      cases j with
      | zero => rfl
      | succ j =>
        simp only [ho] at hn
        exact ((List.nodup_cons.1 hn).1 (mem j o' (by simpa using hj) ho')).elim
    | succ i =>
      cases j with
      | zero =>
        simp at hj; subst hj
        simp only [ho'] at hn
        exact ((List.nodup_cons.1 hn).1 (mem i o (by simpa using hi) ho)).elim
      | succ j =>
        have hn' : (r.filterMap (·.dst)).Nodup := by
          split at hn
          · exact hn
          · exact (List.nodup_cons.1 hn).2
        exact congrArg (· + 1) (dst_inj hn' i j o o' d (by simpa using hi) (by simpa using hj) ho ho')

section
variable {P : Program} {T : Nat → Option Ty} {G : Tbl} {w w' : World} {σ σ' τ : Store P} {H H' : Nat → Value} {n0 N : Nat} {ops : Array Oper}

def want (ops : Array Oper) (o : Oper) (a : Act) : Bool := Region.wanted o (yielded ops a.tmps)

/-- of which slots the state speaks: of those whose operation, if it has been done, was not passed over -/
def Cn (ops : Array Oper) (D : Nat → Prop) (a : Act) : Nat → Prop := fun k => ∀ (j : Nat) (o : Oper), D j → ops.toList[j]? = some o → o.dst = some k → want ops o a = true

structure Inv (ops : Array Oper) (D : Nat → Prop) (N n0 : Nat) (σ : Store P) (H : Nat → Value) (st : St) (a : Act) (w : World) : Prop where
  rel : Rel (Cn ops D a) N n0 σ H st a w
  skip : ∀ (j : Nat) (o : Oper) (k : Nat), D j → ops.toList[j]? = some o → o.dst = some k → want ops o a = false → a.tmps.getD k undef = undef

structure Static (N : Nat) (ops : Array Oper) : Prop where
  inj : ∀ (i j : Nat) (o o' : Oper) (d : Nat), ops.toList[i]? = some o → ops.toList[j]? = some o' → o.dst = some d → o'.dst = some d → i = j
  lt : ∀ (i : Nat) (o : Oper) (d : Nat), ops.toList[i]? = some o → o.dst = some d → d < N
  ok : ∀ (i : Nat) (o : Oper), ops.toList[i]? = some o → okOper ops.toList (gds 0 ops.toList) i o = true

theorem static_of {N : Nat} {ops : Array Oper} (h : guardsOK N ops.toList = true) : Static N ops := by
  simp only [guardsOK, Bool.and_eq_true] at h
  obtain ⟨⟨h1, h2⟩, h3⟩ := h
  refine ⟨dst_inj (distinctB_spec h2), fun i o d hi hd => ?_, fun i o hi => by simpa using okOpers_spec ops.toList 0 h1 i o hi⟩
  have := List.all_eq_true.1 h3 o (List.mem_of_getElem? hi)
  rw [hd] at this
  exact blt_lt this

theorem want_none {o : Oper} {a : Act} (h : o.guard = none) : want ops o a = true := by simp [want, Region.wanted, h]
theorem want_some {o : Oper} {a : Act} {m : Nat} {b : Bool} (h : o.guard = some (m, b)) : want ops o a = (yielded ops a.tmps m == some b) := by simp [want, Region.wanted, h]

theorem yielded_bool {a : Act} {m d : Nat} {om : Oper} {b : Bool} (hm : ops.toList[m]? = some om) (hd : om.dst = some d) (hv : a.tmps.getD d undef = .bool b) : yielded ops a.tmps m = some b := by
  have h1 : ops[m]? = some om := by simpa using hm
  have h2 : a.tmps[d]? = some (.bool b) := by
    rcases Nat.lt_or_ge d a.tmps.size with h | h
    · simp [Array.getD, h] at hv; simp [h, hv]
    · simp [Array.getD, Nat.not_lt.2 h, undef] at hv
  simp [yielded, h1, hd, h2]

theorem yielded_undef {a : Act} {m d : Nat} {om : Oper} (hm : ops.toList[m]? = some om) (hd : om.dst = some d) (hv : a.tmps.getD d undef = undef) : yielded ops a.tmps m = none := by
  have h1 : ops[m]? = some om := by simpa using hm
  unfold yielded
  simp only [h1, Option.bind_some, hd]
  cases h2 : a.tmps[d]? with
  | none => rfl
  | some v =>
    have : a.tmps.getD d undef = v := by simp [Array.getD, (Array.getElem?_eq_some_iff.1 h2).1, (Array.getElem?_eq_some_iff.1 h2).2]
    rw [this] at hv
    subst hv; rfl

/-- what an operation's guard asks depends on its guard's own slot -/
theorem want_put (hS : Static N ops) {a : Act} {i : Nat} {o o' : Oper} {v : Value} (hi : ops.toList[i]? = some o) (hg : ∀ m b, o'.guard = some (m, b) → m ≠ i) :
    want ops o' (a.put o.dst v) = want ops o' a := by
  cases hgd : o'.guard with
  | none => rw [want_none hgd, want_none hgd]
  | some g =>
    obtain ⟨m, b⟩ := g
    rw [want_some hgd, want_some hgd]
    congr 1
    unfold yielded
    cases hm : ops[m]? with
    | none => rfl
    | some om =>
      simp only [Option.bind_some]
      cases hd : om.dst with
      | none => rfl
      | some d =>
        simp only [Option.bind_some]
        cases ho : o.dst with
        | none => rfl
        | some d' =>
          have hne : d' ≠ d := fun e => hg m b hgd (hS.inj m i om o d (by simpa using hm) hi hd (by rw [ho, e]))
          simp [Act.put, Array.getElem?_setIfInBounds, hne]

/-- the guard's answer in the state is the guard's answer in the run -/
theorem guardVal_want (hS : Static N ops) {D : Nat → Prop} {st : St} {a : Act} (hI : Inv ops D N n0 σ H st a w) : ∀ (n m : Nat) (b : Bool) (g : Bool), guardVal ops.toList st n (m, b) = some g →
    D m → (∀ (j : Nat) (p : Oper) (m : Nat) (b : Bool), D j → ops.toList[j]? = some p → p.guard = some (m, b) → D m) → (yielded ops a.tmps m == some b) = g
  | 0, _, _, _, h, _, _ => by simp [guardVal] at h
  | n + 1, m, b, g, h, hDm, hcl => by
    simp only [guardVal, Option.bind_eq_some_iff] at h
    obtain ⟨om, hm, d, hd, v, hv, vb, hvb, h⟩ := h
    have hval : want ops om a = true → a.tmps.getD d undef = .bool vb := by
      intro hw
      have := hI.rel.slot d v hv (fun j o hj ho hod => by
        have := hS.inj j m o om d ho hm hod hd
        subst this
        rw [hm] at ho; simp at ho; subst ho; exact hw)
      rw [boolean_inv hvb] at this
      exact svr_bool this
    have hb : ∀ vb : Bool, (some vb == some b) = (bif b then vb else !vb) := by intro vb; cases vb <;> cases b <;> rfl
    split at h
    · rename_i hg
      simp at h; subst h
      rw [yielded_bool hm hd (hval (want_none hg))]
      exact hb vb
    · rename_i g' hg
      obtain ⟨m', b'⟩ := g'
      simp only [Option.map_eq_some_iff] at h
      obtain ⟨r, hr, rfl⟩ := h
      have ih := guardVal_want hS hI n m' b' r hr (hcl m om m' b' hDm hm hg) hcl
      have hwm : want ops om a = r := by rw [want_some hg]; exact ih
      cases hrr : r with
      | true =>
        rw [yielded_bool hm hd (hval (by rw [hwm, hrr]))]
        simpa using hb vb
      | false =>
        rw [yielded_undef hm hd (hI.skip m om d hDm hm hd (by rw [hwm, hrr]))]
        rfl

theorem implG_want (hS : Static N ops) {D : Nat → Prop} {st : St} {a : Act} (hI : Inv ops D N n0 σ H st a w) : ∀ (n : Nat) (o : Oper) (g : Nat × Bool), implG ops.toList n o.guard g = true → want ops o a = true →
    (∀ m b, o.guard = some (m, b) → D m) → (∀ (j : Nat) (p : Oper) (m : Nat) (b : Bool), D j → ops.toList[j]? = some p → p.guard = some (m, b) → D m) →
    (yielded ops a.tmps g.1 == some g.2) = true
  | 0, _, _, h, _, _, _ => by simp [implG] at h
  | n + 1, o, g, h, hw, hD, hcl => by
    cases hg : o.guard with
    | none => simp [hg, implG] at h
    | some mb =>
      obtain ⟨m, b⟩ := mb
      simp only [hg, implG, Bool.or_eq_true, Bool.and_eq_true, beq_iff_eq] at h
      have hw' : (yielded ops a.tmps m == some b) = true := by rw [← want_some hg]; exact hw
      rcases h with ⟨h1, h2⟩ | h
      · have h1 : m = g.1 := Nat.eq_of_beq_eq_true h1
        rw [← h1, ← h2]; exact hw'
      · split at h
        · rename_i om hm
          refine implG_want hS hI n om g h ?_ (fun m' b' hg' => hcl m om m' b' (hD m b hg) hm hg') hcl
          cases hwm : want ops om a with
          | true => rfl
          | false =>
            have hdst : ∃ d, om.dst = some d := by
              have hy : yielded ops a.tmps m = some b := by simpa using hw'
              unfold yielded at hy
              have : ops[m]? = some om := by simpa using hm
              simp only [this, Option.bind_some] at hy
              cases hd : om.dst with
              | none => simp [hd] at hy
              | some d => exact ⟨d, rfl⟩
            obtain ⟨d, hd⟩ := hdst
            have := yielded_undef hm hd (hI.skip m om d (hD m b hg) hm hd hwm)
            rw [this] at hw'
            simp at hw'
        · simp at h

theorem tmps_mem {o : Oper} {t : Nat} (h : Operand.tmp t ∈ o.op.operands.toList) : t ∈ tmpsOf o := List.mem_filterMap.2 ⟨_, h, rfl⟩

/-- the operands that an operation reads are told of -/
theorem read_ok (hS : Static N ops) {D : Nat → Prop} {st : St} {a : Act} (hI : Inv ops D N n0 σ H st a w) {i : Nat} {o : Oper} (_ : ops.toList[i]? = some o) (hw : want ops o a = true)
    (hD : ∀ m b, o.guard = some (m, b) → D m) (hcl : ∀ (j : Nat) (p : Oper) (m : Nat) (b : Bool), D j → ops.toList[j]? = some p → p.guard = some (m, b) → D m)
    {t : Nat} (h : okRead ops.toList (gds 0 ops.toList) i o t = true) : Cn ops D a t := by
  intro j p hj hp hpd
  cases hg : p.guard with
  | none => exact want_none hg
  | some g =>
    have hmem := gds_spec ops.toList 0 j p g t hp hg hpd
    have := List.all_eq_true.1 h _ hmem
    simp only [beq_self, Bool.not_true, Bool.false_or, Bool.and_eq_true] at this
    rw [want_some (m := g.1) (b := g.2) hg]
    exact implG_want hS hI _ o g this.2 hw hD hcl

theorem opd_ok (hS : Static N ops) {D : Nat → Prop} {st : St} {a : Act} (hI : Inv ops D N n0 σ H st a w) {i : Nat} {o : Oper} (hi : ops.toList[i]? = some o) (hw : want ops o a = true)
    (hD : ∀ m b, o.guard = some (m, b) → D m) (hcl : ∀ (j : Nat) (p : Oper) (m : Nat) (b : Bool), D j → ops.toList[j]? = some p → p.guard = some (m, b) → D m) :
    OpdR (opd st) o a σ st.bx H ∧ ((∀ c x y, o.op ≠ .pick c x y) → ∀ x ∈ o.op.operands.toList, ∀ k, x = .tmp k → Cn ops D a k) := by
  have hok := hS.ok i o hi
  simp only [okOper, Bool.and_eq_true] at hok
  obtain ⟨_, hok⟩ := hok
  have gen : (tmpsOf o).all (okRead ops.toList (gds 0 ops.toList) i o) = true → ∀ x ∈ o.op.operands.toList, ∀ k, x = .tmp k → Cn ops D a k := by
    intro h x hx k hk
    subst hk
    exact read_ok hS hI hi hw hD hcl (List.all_eq_true.1 h k (tmps_mem hx))
  have genR : (tmpsOf o).all (okRead ops.toList (gds 0 ops.toList) i o) = true → ∀ x ∈ o.op.operands.toList, ∀ s, opd st x = some s → SVR σ st.bx H s (a.eval x) :=
    fun h x hx s hs => hI.rel.opd (gen h x hx) hs
  by_cases hp : ∃ c x y, o.op = .pick c x y
  · obtain ⟨c, x, y, ho⟩ := hp
    refine ⟨?_, fun h => (h c x y ho).elim⟩
    simp only [OpdR, ho]
    rw [ho] at hok
    simp only at hok
    have hmem : ∀ z, (z = c ∨ z = x ∨ z = y) → z ∈ o.op.operands.toList := by intro z hz; rw [ho]; simp [Op.operands]; rcases hz with h | h | h <;> simp [h]
    split at hok
    · rename_i tc
      simp only [Bool.and_eq_true] at hok
      obtain ⟨⟨h1, h2⟩, h3⟩ := hok
      have hCc := read_ok hS hI hi hw hD hcl h1
      have branch : ∀ (z : Operand) (b : Bool), (match z with | .tmp t => okPick ops.toList (gds 0 ops.toList) i o tc b t | _ => true) = true → a.eval (.tmp tc) = .bool b → ∀ s, opd st z = some s → SVR σ st.bx H s (a.eval z) := by
        intro z b hz hev s hs
        refine hI.rel.opd (fun k hk => ?_) hs
        subst hk
        simp only at hz
        intro j p hj hp hpd
        cases hg : p.guard with
        | none => exact want_none hg
        | some g =>
          have hm := gds_spec ops.toList 0 j p g k hp hg hpd
          have := List.all_eq_true.1 hz _ hm
          simp only [beq_self, Bool.not_true, Bool.false_or, Bool.and_eq_true, Bool.or_eq_true, beq_iff_eq] at this
          rw [want_some (m := g.1) (b := g.2) hg]
          rcases this.2 with h | ⟨h4, h5⟩
          · exact implG_want hS hI _ o g h hw hD hcl
          · split at h5
            · rename_i om hom
              split at h5
              · rename_i d hd
                have hdc : d = tc := Nat.eq_of_beq_eq_true h5
                subst hdc
                rw [yielded_bool hom hd hev, h4]
                simp
              · simp at h5
            · simp at h5
      exact ⟨fun s hs => hI.rel.opd (fun k hk => by simp at hk; subst hk; exact hCc) hs, fun he s hs => branch x true h2 he s hs, fun he s hs => branch y false h3 he s hs⟩
    · exact ⟨fun s hs => genR hok c (hmem c (.inl rfl)) s hs, fun _ s hs => genR hok x (hmem x (.inr (.inl rfl))) s hs, fun _ s hs => genR hok y (hmem y (.inr (.inr rfl))) s hs⟩
  · have hne : ∀ c x y, o.op ≠ .pick c x y := fun c x y h => hp ⟨c, x, y, h⟩
    have hok' : (tmpsOf o).all (okRead ops.toList (gds 0 ops.toList) i o) = true := by
      split at hok
      · rename_i c x y ho; exact (hne c x y ho).elim
      · exact hok
    refine ⟨?_, fun _ => gen hok'⟩
    have hr := genR hok'
    unfold OpdR
    split
    · rename_i c x y ho; exact (hne c x y ho).elim
    · exact hr

end
end Go.Lift
set_option linter.unusedSimpArgs false
set_option linter.unusedVariables false
namespace Go.Lift

section
variable {P : Program} {T : Nat → Option Ty} {G : Tbl} {w w' : World} {σ σ' τ : Store P} {H H' : Nat → Value} {n0 N : Nat} {ops : Array Oper} {C C' : Nat → Prop}

theorem Rel.weaken {st : St} {a : Act} (h : Rel C N n0 σ H st a w) (hc : ∀ k, C' k → C k) : Rel C' N n0 σ H st a w :=
  ⟨h.holds, h.size, h.defers, h.base, h.box, h.apart, fun k s hk hck => h.slot k s hk (hc k hck)⟩

theorem Rel.putAny {st : St} {a : Act} {d : Option Nat} {s : SV} {v : Value} (h : Rel C N n0 σ H st a w) (hd : dstOK N d) (hc : ∀ k, C' k → C k ∧ d ≠ some k) : Rel C' N n0 σ H (st.put d s) (a.put d v) w := by
  cases d with
  | none => exact h.weaken fun k hk => (hc k hk).1
  | some d =>
    refine ⟨h.holds, by rw [put_size]; exact h.size, by rw [put_defers]; exact h.defers, h.base, h.box, h.apart, fun k s' hk hck => ?_⟩
    have hne : ¬ k = d := fun e => (hc k hck).2 (by rw [e])
    simp only [St.put, look_ins, if_neg hne] at hk ⊢
    rw [getD_put (by rw [h.size]; exact hd d rfl), if_neg hne]
    exact h.slot k s' hk (hc k hck).1

def Closed (ops : Array Oper) (D : Nat → Prop) : Prop := ∀ (j : Nat) (p : Oper) (m : Nat) (b : Bool), D j → ops.toList[j]? = some p → p.guard = some (m, b) → D m

structure Ready (ops : Array Oper) (D : Nat → Prop) (i : Nat) (o : Oper) : Prop where
  at_ : ops.toList[i]? = some o
  fresh : ¬ D i
  guard : ∀ m b, o.guard = some (m, b) → D m
  closed : Closed ops D

theorem Ready.want_put (hS : Static N ops) {D : Nat → Prop} {i : Nat} {o : Oper} (hR : Ready ops D i o) {a : Act} {v : Value} {j : Nat} {p : Oper} (hj : D j ∨ j = i) (hp : ops.toList[j]? = some p) :
    want ops p (a.put o.dst v) = want ops p a := by
  refine Lift.want_put hS hR.at_ fun m b hg e => ?_
  subst e
  rcases hj with hj | rfl
  · exact hR.fresh (hR.closed j p _ b hj hp hg)
  · have := hR.at_; rw [hp] at this; simp at this; subst this
    exact hR.fresh (hR.guard _ b hg)

/-- the frame of a done operation -/
theorem inv_done (hS : Static N ops) {D : Nat → Prop} {i : Nat} {o : Oper} (hR : Ready ops D i o) {st st' : St} {a : Act} {v : Value} (hI : Inv ops D N n0 σ H st a w)
    (hrel : Rel (Cn ops D a) N n0 σ' H' st' (a.put o.dst v) w') (hw : want ops o a = true) : Inv ops (fun j => D j ∨ j = i) N n0 σ' H' st' (a.put o.dst v) w' where
  rel := hrel.weaken fun k hk j p hj hp hd => by
    have := hk j p (.inl hj) hp hd
    rwa [hR.want_put hS (.inl hj) hp] at this
  skip := fun j p k hj hp hd hww => by
    rw [hR.want_put hS hj hp] at hww
    rcases hj with hj | rfl
    · have hk := hI.skip j p k hj hp hd hww
      cases hod : o.dst with
      | none => exact hk
      | some d =>
        have hne : ¬ k = d := fun e => by
          have := hS.inj j i p o d hp hR.at_ (by rw [hd, e]) hod
          subst this; exact hR.fresh hj
        rw [getD_put (by rw [hI.rel.size]; exact hS.lt i o d hR.at_ hod), if_neg hne]
        exact hk
    · have := hR.at_; rw [hp] at this; simp at this; subst this
      rw [hw] at hww; simp at hww

/-- the frame of an operation that is passed over -/
theorem inv_skip (hS : Static N ops) {D : Nat → Prop} {i : Nat} {o : Oper} (hR : Ready ops D i o) {st : St} {a : Act} (hI : Inv ops D N n0 σ H st a w) (hw : want ops o a = false) {st' : St}
    (hst : ∀ (C' : Nat → Prop), (∀ k, C' k → Cn ops D a k ∧ o.dst ≠ some k) → Rel C' N n0 σ H st' (a.put o.dst undef) w) : Inv ops (fun j => D j ∨ j = i) N n0 σ H st' (a.put o.dst undef) w where
  rel := hst _ fun k hk => by
    refine ⟨fun j p hj hp hd => ?_, fun e => ?_⟩
    · have := hk j p (.inl hj) hp hd
      rwa [hR.want_put hS (.inl hj) hp] at this
    · have := hk i o (.inr rfl) hR.at_ e
      rw [hR.want_put hS (.inr rfl) hR.at_, hw] at this
      simp at this
  skip := fun j p k hj hp hd hww => by
    rw [hR.want_put hS hj hp] at hww
    rcases hj with hj | rfl
    · have hk := hI.skip j p k hj hp hd hww
      cases hod : o.dst with
      | none => exact hk
      | some d =>
        have hne : ¬ k = d := fun e => by
          have := hS.inj j i p o d hp hR.at_ (by rw [hd, e]) hod
          subst this; exact hR.fresh hj
        rw [getD_put (by rw [hI.rel.size]; exact hS.lt i o d hR.at_ hod), if_neg hne]
        exact hk
    · have := hR.at_; rw [hp] at this; simp at this; subst this
      rw [hd, getD_put (by rw [hI.rel.size]; exact hS.lt j p k hp hd), if_pos rfl]

def GuardIs (ops : Array Oper) (st : St) (o : Oper) (g : Bool) : Prop :=
  (o.guard = none ∧ g = true) ∨ ∃ mb, o.guard = some mb ∧ guardVal ops.toList st ops.toList.length mb = some g

theorem GuardIs.want (hS : Static N ops) {D : Nat → Prop} {i : Nat} {o : Oper} (hR : Ready ops D i o) {st : St} {a : Act} (hI : Inv ops D N n0 σ H st a w) {g : Bool} (hg : GuardIs ops st o g) : want ops o a = g := by
  rcases hg with ⟨h1, rfl⟩ | ⟨⟨m, b⟩, h1, h2⟩
  · exact want_none h1
  · rw [want_some h1]
    exact guardVal_want hS hI _ m b g h2 (hR.guard m b h1) hR.closed

theorem dst_ok (hS : Static N ops) {i : Nat} {o : Oper} (hi : ops.toList[i]? = some o) : dstOK N o.dst := fun k hk => hS.lt i o k hi hk

theorem wpOp_run {i : Nat} {o : Oper} (hi : ops.toList[i]? = some o) {K : Act → World → Prop} {Q : Exit → Act → World → Prop} {a : Act} (hw : want ops o a = true) (h : o.wp P a w K Q) : wpOp P ops Q i K a w := by
  have h1 : ops[i]? = some o := by simpa using hi
  unfold want at hw
  simp only [wpOp, h1, hw, if_true]
  exact .inl h

theorem wpOp_pass {i : Nat} {o : Oper} (hi : ops.toList[i]? = some o) {K : Act → World → Prop} {Q : Exit → Act → World → Prop} {a : Act} (hw : want ops o a = false) (h : K (a.put o.dst undef) w) : wpOp P ops Q i K a w := by
  have h1 : ops[i]? = some o := by simpa using hi
  unfold want at hw
  simp only [wpOp, h1, hw, Bool.false_eq_true, if_false]
  exact h

theorem inv_value (hE : Env P T G) (hS : Static N ops) {D : Nat → Prop} {i : Nat} {o : Oper} (hR : Ready ops D i o) {st : St} {a : Act} (hI : Inv ops D N n0 σ H st a w) {g c : Bool} {v : SV} (hg : GuardIs ops st o g)
    (hv : opVal G T st.bx (opd st) o = some (c, v)) (hc : (c || !g) = true) {K : Act → World → Prop} {Q : Exit → Act → World → Prop}
    (hK : ∀ σ' a' w', Trans n0 σ w σ' w' → Inv ops (fun j => D j ∨ j = i) N n0 σ' H (st.put o.dst v) a' w' → K a' w') : wpOp P ops Q i K a w := by
  have hw := hg.want hS hR hI
  cases g with
  | true =>
    simp at hc; subst hc
    have hρ := (opd_ok hS hI hR.at_ hw hR.guard hR.closed).1
    refine wpOp_run hR.at_ hw (opVal_yields hE hI.rel.holds hI.rel.box hρ hv K Q fun v' σ' w' hst hsv => ?_)
    exact hK σ' _ w' (hst.trans' hI.rel.base) (inv_done hS hR hI ((hI.rel.step hst).put (dst_ok hS hR.at_) hsv) hw)
  | false =>
    refine wpOp_pass hR.at_ hw (hK σ _ w (Trans.refl hI.rel.holds) (inv_skip hS hR hI hw fun C' hC' => hI.rel.putAny (dst_ok hS hR.at_) hC'))

theorem Rel.lit {st : St} {a : Act} {d : Nat} {b : Bool} (h : Rel C N n0 σ H st a w) (hv : a.tmps.getD d undef = .bool b) : Rel C N n0 σ H ⟨ins d (.tv ⟨.bool, b⟩) st.sl, st.bx⟩ a w := by
  refine ⟨h.holds, h.size, h.defers, h.base, h.box, h.apart, fun k s hk hc => ?_⟩
  simp only [look_ins] at hk
  split at hk
  · rename_i e; subst e
    simp at hk; subst hk
    rw [hv]; exact relV_bool σ b
  · exact h.slot k s hk hc

theorem inv_lit (hS : Static N ops) {D : Nat → Prop} {i : Nat} {o : Oper} (hR : Ready ops D i o) {st : St} {a : Act} (hI : Inv ops D N n0 σ H st a w) {m : Nat} {b g : Bool} (hg : o.guard = some (m, b))
    (hv : guardVal ops.toList st ops.toList.length (m, b) = some g) : Inv ops D N n0 σ H (setLit ops.toList m (bif g then b else !b) st) a w := by
  unfold setLit
  split
  · rename_i d _ _ _ _ hm
    have hm' : ∃ om : Oper, ops.toList[m]? = some om ∧ om.guard = none ∧ om.dst = some d := ⟨_, hm, rfl, rfl⟩
    obtain ⟨om, hm, hgn, hd⟩ := hm'
    refine ⟨hI.rel.lit ?_, hI.skip⟩
    cases hn : ops.toList.length with
    | zero => rw [hn] at hv; simp [guardVal] at hv
    | succ n =>
      rw [hn] at hv
      simp only [guardVal, hm, Option.bind_some, hd, Option.bind_eq_some_iff, hgn] at hv
      obtain ⟨v, hv1, vb, hvb, hv⟩ := hv
      simp at hv
      have hs := hI.rel.slot d v hv1 (fun j p hj hp hpd => by
        have := hS.inj j m p om d hp hm hpd hd
        subst this; rw [hm] at hp; simp at hp; subst hp; exact want_none hgn)
      rw [boolean_inv hvb] at hs
      rw [svr_bool hs, ← hv]
      cases b <;> cases vb <;> rfl
  · exact hI

theorem inv_eff (hE : Env P T G) (hS : Static N ops) {D : Nat → Prop} {i : Nat} {o : Oper} (hR : Ready ops D i o) {st st' : St} {a : Act} (hI : Inv ops D N n0 σ H st a w) (hw : want ops o a = true) (hnv : opVal G T st.bx (opd st) o = none ∨ True)
    (hv : opStep G T o st = some (true, st') ∨ (opEff G T o st = some (true, st') ∧ ∀ c x y, o.op ≠ .pick c x y)) {K : Act → World → Prop} {Q : Exit → Act → World → Prop}
    (hK : ∀ σ' H' a' w', Trans n0 σ w σ' w' → Inv ops (fun j => D j ∨ j = i) N n0 σ' H' st' a' w' → K a' w') : wpOp P ops Q i K a w := by
  obtain ⟨hρ, hC⟩ := opd_ok hS hI hR.at_ hw hR.guard hR.closed
  have hpick : (∃ c x y, o.op = .pick c x y) ∨ ∀ c x y, o.op ≠ .pick c x y := by
    cases o.op <;> first | (left; exact ⟨_, _, _, rfl⟩) | (right; intro c x y h; cases h)
  have heff : EffOK P (Cn ops D a) N n0 o a w σ st' := by
    rcases hpick with ⟨c, x, y, ho⟩ | hp
    · rcases hv with hv | ⟨_, h2⟩
      · unfold opStep at hv
        split at hv
        · rename_i cc vv hov
          simp at hv
          obtain ⟨rfl, rfl⟩ := hv
          intro next Q' hn
          exact opVal_yields hE hI.rel.holds hI.rel.box hρ hov next Q' fun v' σ2 w2 hst hsv => hn v' σ2 w2 (hst.trans' hI.rel.base) ⟨H, (hI.rel.step hst).put (dst_ok hS hR.at_) hsv⟩
        · cases hd : o.dst <;> simp [opEff, ho, hd] at hv
      · exact (h2 c x y ho).elim
    · rcases hv with hv | ⟨hv, _⟩
      · exact opStep_ok hE hI.rel hρ (hC hp) (dst_ok hS hR.at_) hv
      · exact opEff_ok hE hI.rel (hC hp) (dst_ok hS hR.at_) hv
  refine wpOp_run hR.at_ hw (heff K Q fun v σ' w' ht ⟨H', hrel⟩ => ?_)
  exact hK σ' H' _ w' ht (inv_done hS hR hI hrel hw)

end
end Go.Lift
set_option linter.unusedSimpArgs false
set_option linter.unusedVariables false
namespace Go.Lift

section
variable {P : Program} {T : Nat → Option Ty} {G : Tbl} {w w' : World} {σ σ' τ : Store P} {H H' : Nat → Value} {n0 N : Nat} {ops : Array Oper} {C C' : Nat → Prop}

theorem Inv.congr {D D' : Nat → Prop} {st : St} {a : Act} (h : Inv ops D N n0 σ H st a w) (hd : ∀ (j : Nat) (o : Oper), ops.toList[j]? = some o → (D j ↔ D' j)) : Inv ops D' N n0 σ H st a w :=
  ⟨h.rel.weaken fun k hk j o hj ho hod => hk j o ((hd j o ho).1 hj) ho hod, fun j o k hj ho hod hw => h.skip j o k ((hd j o ho).2 hj) ho hod hw⟩

theorem guard_lt (hS : Static N ops) {i : Nat} {o : Oper} (hi : ops.toList[i]? = some o) {m : Nat} {b : Bool} (hg : o.guard = some (m, b)) : m < i := by
  have hok := hS.ok i o hi
  simp only [okOper, hg, Bool.and_eq_true] at hok
  exact blt_lt hok.1.1.2

theorem ready_lt (hS : Static N ops) {i : Nat} {o : Oper} (hi : ops.toList[i]? = some o) : Ready ops (· < i) i o :=
  ⟨hi, Nat.lt_irrefl i, fun m b hg => guard_lt hS hi hg, fun j p m b hj hp hg => Nat.lt_trans (guard_lt hS hp hg) hj⟩

theorem lt_succ_eq (i : Nat) : (fun j => j < i ∨ j = i) = (fun j => j < i + 1) := by funext j; apply propext; omega

theorem execR_one {Φ : Leaf → Prop} (hfail : ¬ Φ .fail) (hE : Env P T G) (hS : Static N ops) (k : St → Leaf) {o : Oper} {l : List Oper} {i : Nat} {st : St} {a : Act} (hi : ops.toList[i]? = some o)
    (hI : Inv ops (· < i) N n0 σ H st a w) (hΦ : Φ (execR G T false ops.toList (o :: l) st k)) {K : Act → World → Prop} {Q : Exit → Act → World → Prop}
    (step : ∀ st', Φ (execR G T false ops.toList l st' k) → ∀ σ1 H1 a1 w1, Trans n0 σ w σ1 w1 → Inv ops (fun j => j < i ∨ j = i) N n0 σ1 H1 st' a1 w1 → K a1 w1) : wpOp P ops Q i K a w := by
  have hR := ready_lt hS hi
  simp only [execR, Bool.false_and, cond_false, Bool.not_false, Bool.true_or, cond_true] at hΦ
  cases hg : o.guard with
  | none =>
    simp only [hg] at hΦ
    cases hop : opStep G T o st with
    | none => simp only [hop] at hΦ; exact (hfail hΦ).elim
    | some r =>
      obtain ⟨c, st'⟩ := r
      simp only [hop] at hΦ
      cases c with
      | false => exact (hfail hΦ).elim
      | true =>
        simp only [cond_true] at hΦ
        exact inv_eff hE hS hR hI (want_none hg) (.inr trivial) (.inl hop) fun σ1 H1 a1 w1 ht hI1 => step st' hΦ σ1 H1 a1 w1 ht hI1
  | some mb =>
    obtain ⟨m, b⟩ := mb
    simp only [hg] at hΦ
    cases hgv : guardVal ops.toList st ops.toList.length (m, b) with
    | none => simp only [hgv] at hΦ; exact (hfail hΦ).elim
    | some g =>
      simp only [hgv] at hΦ
      have hG : GuardIs ops st o g := .inr ⟨(m, b), hg, hgv⟩
      cases hov : opVal G T st.bx (opd st) o with
      | some r =>
        obtain ⟨c, v⟩ := r
        simp only [hov] at hΦ
        cases hc : (c || !g) with
        | false => simp only [hc, cond_false] at hΦ; exact (hfail hΦ).elim
        | true =>
          simp only [hc, cond_true] at hΦ
          exact inv_value hE hS hR hI hG hov hc fun σ1 a1 w1 ht hI1 => step _ hΦ σ1 H a1 w1 ht hI1
      | none =>
        simp only [hov] at hΦ
        have hlit := inv_lit hS hR hI hg hgv
        have hw := hG.want hS hR hI
        cases g with
        | true =>
          simp only [cond_true] at hΦ hlit
          cases hop : opEff G T o (setLit ops.toList m b st) with
          | none => simp only [hop] at hΦ; exact (hfail hΦ).elim
          | some r =>
            obtain ⟨c, st'⟩ := r
            simp only [hop] at hΦ
            cases c with
            | false => exact (hfail hΦ).elim
            | true =>
              simp only [cond_true] at hΦ
              refine inv_eff hE hS hR hlit hw (.inr trivial) (.inr ⟨hop, fun c x y ho => ?_⟩) fun σ1 H1 a1 w1 ht hI1 => step st' hΦ σ1 H1 a1 w1 ht hI1
              cases hd : o.dst <;> simp [opEff, ho, hd] at hop
        | false =>
          simp only [cond_false] at hΦ hlit
          refine wpOp_pass hi hw ?_
          refine step _ hΦ σ H _ w (Trans.refl hI.rel.holds) (inv_skip hS hR hlit hw fun C' hC' => ?_)
          have h1 := (hlit.rel.weaken (C' := C') fun k hk => (hC' k hk).1).unput (d := o.dst) (v := undef) (dst_ok hS hi)
          exact h1


theorem execR_seq {Φ : Leaf → Prop} (hfail : ¬ Φ .fail) (hE : Env P T G) (hS : Static N ops) (k : St → Leaf) : ∀ (l : List Oper) (i : Nat) (st : St) (a : Act) (w : World) (σ : Store P) (H : Nat → Value),
    ops.toList.drop i = l → Inv ops (· < i) N n0 σ H st a w → Φ (execR G T false ops.toList l st k) →
    ∀ (Q : Exit → Act → World → Prop), (∀ σ' H' st' a' w', Trans n0 σ w σ' w' → Inv ops (fun j => j < ops.toList.length) N n0 σ' H' st' a' w' → Φ (k st') → Q .normal a' w') → wpOps P ops Q (List.range' i l.length) a w
  | [], i, st, a, w, σ, H, hd, hI, hΦ, Q, hQ => by
    have hlen : ops.toList.length ≤ i := by
      have := congrArg List.length hd
      simp at this ⊢; omega
    simp only [List.length_nil, List.range'_zero, wpOps]
    exact hQ σ H st a w (Trans.refl hI.rel.holds) (hI.congr fun j o hj => by have := (List.getElem?_eq_some_iff.1 hj).1; omega) hΦ
  | o :: l, i, st, a, w, σ, H, hd, hI, hΦ, Q, hQ => by
    have hi : ops.toList[i]? = some o := by
      have := congrArg (·[0]?) hd
      simpa using this
    have hd' : ops.toList.drop (i + 1) = l := by
      have := congrArg List.tail hd
      simpa using this
    rw [List.length_cons, List.range'_succ, wpOps_cons]
    refine execR_one hfail hE hS k hi hI hΦ fun st' hΦ' σ1 H1 a1 w1 ht hI1 => ?_
    rw [lt_succ_eq] at hI1
    exact execR_seq hfail hE hS k l (i + 1) st' a1 w1 σ1 H1 hd' hI1 hΦ' Q fun σ2 H2 st2 a2 w2 ht2 hI2 hk => hQ σ2 H2 st2 a2 w2 (ht.trans ht2) hI2 hk

end
end Go.Lift
set_option linter.unusedSimpArgs false
set_option linter.unusedVariables false
namespace Go.Lift

/-! an operation looks at its operands alone -/
section
variable {G : Tbl} {T : Nat → Option Ty} {bx : List (Nat × Box)}

theorem mapO_congr {α β : Type} {f g : α → Option β} : ∀ {l : List α}, (∀ x ∈ l, f x = g x) → mapO f l = mapO g l
  | [], _ => rfl
  | a :: l, h => by
    simp only [mapO]
    rw [h a (by simp), mapO_congr fun x hx => h x (by simp [hx])]

theorem callVal_congr {ρ ρ' : Operand → Option SV} {c : Call} (h' : ∀ x ∈ c.operands.toList, ρ x = ρ' x) : callVal G T bx ρ c = callVal G T bx ρ' c := by
  have h : ∀ x ∈ c.args.toList, ρ x = ρ' x := fun x hx => h' x (by simp [Call.operands]; right; simpa using hx)
  have hm := mapO_congr h
  unfold callVal
  split
  · rw [hm]
  · rename_i t hc
    rw [h' (.tmp t) (by simp [Call.operands, hc]), hm]
  · split
    · rename_i x t hargs htys
      rw [h x (by simp [hargs])]
    · rfl
  · rw [hm]
  · rw [hm]
  · rfl

theorem buildV_congr {ρ ρ' : Operand → Option SV} {ty : Ty} : ∀ (parts : List (Nat × Operand)) (x : ty.D), (∀ p ∈ parts, ρ p.2 = ρ' p.2) → opVal.buildV bx ρ ty x parts = opVal.buildV bx ρ' ty x parts
  | [], _, _ => rfl
  | (i, v) :: r, x, h => by
    simp only [opVal.buildV]
    rw [h (i, v) (by simp)]
    simp only [buildV_congr r _ fun p hp => h p (by simp [hp])]

theorem optI_congr {ρ ρ' : Operand → Option SV} {x : Option Operand} (h : ∀ y ∈ x.toArray.toList, ρ y = ρ' y) : optI ρ x = optI ρ' x := by
  cases x with
  | none => rfl
  | some y => simp only [optI]; rw [h y (by simp)]

theorem opVal_congr {ρ ρ' : Operand → Option SV} {o : Oper} (h : ∀ x ∈ o.op.operands.toList, ρ x = ρ' x) : opVal G T bx ρ o = opVal G T bx ρ' o := by
  unfold opVal
  cases ho : o.op <;> rw [ho] at h <;> simp only [Op.operands] at h
  case call c => exact callVal_congr fun x hx => h x hx
  case build t parts =>
    simp only
    congr 1; funext ty
    congr 1
    exact buildV_congr _ _ fun p hp => h p.2 (by simp; exact ⟨p.1, by simpa using hp⟩)
  case slice t x lo hi mx =>
    cases mx with
    | some m =>
      cases lo with
      | none => rfl
      | some lo =>
        cases hi with
        | none => rfl
        | some hi => simp only; rw [h x (by simp), h lo (by simp), h hi (by simp), h m (by simp)]
    | none =>
      simp only
      rw [h x (by simp), optI_congr fun y hy => h y (by simp at hy ⊢; simp [hy]), optI_congr (x := hi) fun y hy => h y (by simp at hy ⊢; simp [hy])]
  case lookup t m k ok =>
    cases ok with
    | true => rfl
    | false => simp only; rw [h m (by simp), h k (by simp)]
  all_goals first
    | rfl
    | (simp only; rw [h _ (by simp)]; done)
    | (simp only; rw [h _ (List.mem_cons_self ..), h _ (List.mem_cons_of_mem _ (List.mem_cons_self ..))]; done)
    | (simp only; rw [h _ (List.mem_cons_self ..), h _ (List.mem_cons_of_mem _ (List.mem_cons_self ..)), h _ (List.mem_cons_of_mem _ (List.mem_cons_of_mem _ (List.mem_cons_self ..)))]; done)
end
end Go.Lift
set_option linter.unusedSimpArgs false
set_option linter.unusedVariables false
namespace Go.Lift

theorem dsi_spec : ∀ (l : List Oper) (k j : Nat) (o : Oper) (d : Nat), l[j]? = some o → o.dst = some d → (d, k + j, o) ∈ dsi k l
  | [], _, _, _, _, h, _ => by simp at h
  | o' :: r, k, j, o, d, h, hd => by
    simp only [dsi]
    cases j with
    | zero => simp at h; subst h; simp [hd]
    | succ j =>
      have := dsi_spec r (k + 1) j o d (by simpa using h) hd
      rw [show k + (j + 1) = k + 1 + j by omega]
      split
      · exact List.mem_cons_of_mem _ this
      · exact this

theorem drawOpers_spec {all : List Oper} {ds : List (Nat × Nat × Oper)} : ∀ (l : List Oper) (k : Nat), drawOpers all ds k l = true → ∀ (j : Nat) (o : Oper), l[j]? = some o →
    drawOper all ds (k + j) o = true ∧ ∀ e ∈ o.after.toList, Region.binds .any e = true → e.on < k + j
  | [], _, _, _, _, h => by simp at h
  | o' :: r, k, h, j, o, hj => by
    simp only [drawOpers, Bool.and_eq_true] at h
    cases j with
    | zero =>
      simp at hj; subst hj
      refine ⟨h.1.1, fun e he hb => ?_⟩
      have := List.all_eq_true.1 h.1.2 e he
      simp only [hb, Bool.not_true, Bool.false_or] at this
      exact blt_lt this
    | succ j => rw [show k + (j + 1) = k + 1 + j by omega]; exact drawOpers_spec r (k + 1) h.2 j o (by simpa using hj)

theorem hasEdge_spec {o : Oper} {j : Nat} (h : hasEdge o j = true) : ∃ e ∈ o.after.toList, e.on = j ∧ Region.binds .any e = true := by
  simp only [hasEdge, List.any_eq_true, Bool.and_eq_true] at h
  obtain ⟨e, he, h1, h2⟩ := h
  exact ⟨e, he, Nat.eq_of_beq_eq_true h1, h2⟩

structure Drawn (ops : Array Oper) : Prop where
  looks : ∀ (i j : Nat) (o p : Oper) (d : Nat), ops.toList[i]? = some o → ops.toList[j]? = some p → p.dst = some d → d ∈ looksOf ops.toList o → j = i ∨ (j < i ∧ hasEdge o j = true) ∨ (i < j ∧ hasEdge p i = true)
  back : ∀ (i : Nat) (o : Oper) (e : Edge), ops.toList[i]? = some o → e ∈ o.after.toList → Region.binds .any e = true → e.on < i

theorem drawn_of {ops : Array Oper} (h : drawOK ops.toList = true) : Drawn ops := by
  refine ⟨fun i j o p d hi hj hd ht => ?_, fun i o e hi he hb => by simpa using (drawOpers_spec ops.toList 0 h i o hi).2 e he hb⟩
  have h1 := (drawOpers_spec ops.toList 0 h i o hi).1
  have h2 := List.all_eq_true.1 h1 d ht
  have h3 := List.all_eq_true.1 h2 _ (dsi_spec ops.toList 0 j p d hj hd)
  simp only [beq_self, Bool.not_true, Bool.false_or, Bool.or_eq_true, Nat.zero_add] at h3
  rcases h3 with h3 | h3
  · exact .inl (Nat.eq_of_beq_eq_true h3)
  · right
    cases hb : Nat.blt j i with
    | true => rw [hb] at h3; exact .inl ⟨blt_lt hb, h3⟩
    | false =>
      rw [hb] at h3
      by_cases e : j = i
      · subst e; simp only [cond_false] at h3
        obtain ⟨e', he', h4, h5⟩ := hasEdge_spec h3
        have := (drawOpers_spec ops.toList 0 h j p hj).2 e' he' h5
        omega
      · right
        have hge : ¬ j < i := fun hlt => by
          have : Nat.blt j i = true := by simpa [Nat.blt, Nat.lt_iff_add_one_le] using hlt
          rw [this] at hb; simp at hb
        exact ⟨by omega, h3⟩

section
variable {P : Program} {T : Nat → Option Ty} {G : Tbl} {w w' : World} {σ σ' τ : Store P} {H H' : Nat → Value} {n0 N : Nat} {ops : Array Oper} {C C' : Nat → Prop}

/-- the state after the operations in D, by what they yield -/
structure SpecSt (ops : Array Oper) (vs : Nat → SV) (D : Nat → Prop) (st0 st : St) : Prop where
  bx : st.bx = st0.bx
  done : ∀ (j : Nat) (o : Oper) (k : Nat), D j → ops.toList[j]? = some o → o.dst = some k → look k st.sl = some (vs j)
  rest : ∀ k, (∀ (j : Nat) (o : Oper), D j → ops.toList[j]? = some o → o.dst ≠ some k) → look k st.sl = look k st0.sl

theorem SpecSt.put (hS : Static N ops) {vs : Nat → SV} {D : Nat → Prop} {st0 st : St} (h : SpecSt ops vs D st0 st) {i : Nat} {o : Oper} (hi : ops.toList[i]? = some o) :
    SpecSt ops vs (fun j => D j ∨ j = i) st0 (st.put o.dst (vs i)) := by
  cases hd : o.dst with
  | none =>
    refine ⟨h.bx, fun j p k hj hp hk => ?_, fun k hk => h.rest k fun j p hj => hk j p (.inl hj)⟩
    rcases hj with hj | rfl
    · exact h.done j p k hj hp hk
    · rw [hi] at hp; simp at hp; subst hp; rw [hd] at hk; simp at hk
  | some d =>
    refine ⟨h.bx, fun j p k hj hp hk => ?_, fun k hk => ?_⟩
    · simp only [St.put, look_ins]
      rcases hj with hj | rfl
      · by_cases e : k = d
        · subst e
          have := hS.inj j i p o k hp hi hk hd
          subst this; simp
        · rw [if_neg e]; exact h.done j p k hj hp hk
      · rw [hi] at hp; simp at hp; subst hp; rw [hd] at hk; simp at hk; subst hk; simp
    · have hne : ¬ k = d := fun e => hk i o (.inr rfl) hi (by rw [hd, e])
      simp only [St.put, look_ins, if_neg hne]
      exact h.rest k fun j p hj => hk j p (.inl hj)

def EdgeClosed (ops : Array Oper) (D : Nat → Prop) : Prop := ∀ (j : Nat) (o : Oper) (e : Edge), D j → ops.toList[j]? = some o → e ∈ o.after.toList → Region.binds .any e = true → D e.on

theorem agree_look (hS : Static N ops) (hW : Drawn ops) {vs : Nat → SV} {D : Nat → Prop} {st0 st st' : St} (h : SpecSt ops vs D st0 st) {i : Nat} {o : Oper} (hi : ops.toList[i]? = some o) (h' : SpecSt ops vs (· < i) st0 st')
    (hD : EdgeClosed ops D) (hready : ∀ e ∈ o.after.toList, Region.binds .any e = true → D e.on) (hiD : ¬ D i) {t : Nat} (ht : t ∈ looksOf ops.toList o) : look t st.sl = look t st'.sl := by
  by_cases hex : ∃ (j : Nat) (p : Oper), ops.toList[j]? = some p ∧ p.dst = some t
  · obtain ⟨j, p, hp, hd⟩ := hex
    have uniq : ∀ (D' : Nat → Prop), ¬ D' j → ∀ (q : Nat) (r : Oper), D' q → ops.toList[q]? = some r → r.dst ≠ some t := by
      intro D' hn q r hq hr e
      have := hS.inj q j r p t hr hp e hd
      subst this; exact hn hq
    rcases hW.looks i j o p t hi hp hd ht with e | ⟨h1, h2⟩ | ⟨h1, h2⟩
    · subst e
      rw [hi] at hp; simp at hp; subst hp
      rw [h.rest t (uniq D hiD), h'.rest t (uniq (· < j) (Nat.lt_irrefl j))]
    · obtain ⟨e, he, h3, h4⟩ := hasEdge_spec h2
      have hj : D j := h3 ▸ hready e he h4
      rw [h.done j p t hj hp hd, h'.done j p t h1 hp hd]
    · obtain ⟨e, he, h3, h4⟩ := hasEdge_spec h2
      by_cases hj : D j
      · have hii : D i := h3 ▸ hD j p e hj hp he h4
        exact (hiD hii).elim
      · rw [h.rest t (uniq D hj), h'.rest t (uniq (· < i) (by omega))]
  · have none : ∀ (D' : Nat → Prop) (q : Nat) (r : Oper), D' q → ops.toList[q]? = some r → r.dst ≠ some t := fun D' q r _ hr e => hex ⟨q, r, hr, e⟩
    rw [h.rest t (none D), h'.rest t (none (· < i))]


theorem look_both {vs : Nat → SV} {D : Nat → Prop} {st0 st st' : St} (h : SpecSt ops vs D st0 st) {i : Nat} (h' : SpecSt ops vs (· < i) st0 st') {q : Nat} {p : Oper} {t : Nat} (hp : ops.toList[q]? = some p) (hd : p.dst = some t)
    (hq : D q) (hlt : q < i) : look t st.sl = look t st'.sl := by
  rw [h.done q p t hq hp hd, h'.done q p t hlt hp hd]

theorem guardVal_agree (hS : Static N ops) (hW : Drawn ops) {vs : Nat → SV} {D : Nat → Prop} {st0 st st' : St} (h : SpecSt ops vs D st0 st) {i : Nat} (h' : SpecSt ops vs (· < i) st0 st') (hD : EdgeClosed ops D) :
    ∀ (n m : Nat) (b : Bool), D m → m < i → guardVal ops.toList st n (m, b) = guardVal ops.toList st' n (m, b)
  | 0, _, _, _, _ => rfl
  | n + 1, m, b, hm, hlt => by
    simp only [guardVal]
    cases hom : ops.toList[m]? with
    | none => rfl
    | some om =>
      simp only [Option.bind_some]
      cases hd : om.dst with
      | none => rfl
      | some d =>
        simp only [Option.bind_some, look_both h h' hom hd hm hlt]
        cases hg : om.guard with
        | none => rfl
        | some mb =>
          obtain ⟨m', b'⟩ := mb
          have hlt' := guard_lt hS hom hg
          have hm' : D m' := by
            have hok := hS.ok m om hom
            simp only [okOper, hg, Bool.and_eq_true] at hok
            have hdst := hok.1.2
            cases hom' : ops.toList[m']? with
            | none => simp [hom'] at hdst
            | some om' =>
              simp only [hom'] at hdst
              obtain ⟨d', hd'⟩ := Option.isSome_iff_exists.1 hdst
              have hlook : d' ∈ looksOf ops.toList om := by
                simp [looksOf, hg, hom', hd']
              rcases hW.looks m m' om om' d' hom hom' hd' hlook with e | ⟨_, h2⟩ | ⟨h1, _⟩
              · omega
              · obtain ⟨e, he, h3, h4⟩ := hasEdge_spec h2
                exact h3 ▸ hD m om e hm hom he h4
              · omega
          simp only [guardVal_agree hS hW h h' hD n m' b' hm' (by omega)]

/-- what the run in the text's order has found -/
structure Found (G : Tbl) (T : Nat → Option Ty) (ops : Array Oper) (vs : Nat → SV) (st0 : St) : Prop where
  op : ∀ (i : Nat) (o : Oper), ops.toList[i]? = some o → ∃ (st : St) (c g : Bool), SpecSt ops vs (· < i) st0 st ∧ GuardIs ops st o g ∧ opVal G T st.bx (opd st) o = some (c, vs i) ∧ (c || !g) = true

theorem tailOK_end {all : List Oper} {i : Nat} (h : all.length ≤ i) : tailOK all i = true := by
  unfold tailOK
  rw [List.drop_eq_nil_of_le h]
  rfl

/-- the run of a drawn region: up to place m it only reads, and allocates once; from there on each operation waits for all before it -/
theorem execD_ro {Φ : Leaf → Prop} (hfail : ¬ Φ .fail) (hS : Static N ops) (k : St → Leaf) {st0 : St} : ∀ (l : List Oper) (i : Nat) (st : St) (vs : Nat → SV), ops.toList.drop i = l → i ≤ ops.toList.length → SpecSt ops vs (· < i) st0 st →
    Φ (execD G T ops.toList l st k) →
    ∃ (m : Nat) (vs' : Nat → SV) (st' : St), i ≤ m ∧ m ≤ ops.toList.length ∧ tailOK ops.toList m = true ∧ (∀ j, j < i → vs' j = vs j) ∧ SpecSt ops vs' (· < m) st0 st' ∧ Φ (execR G T false ops.toList (ops.toList.drop m) (pend T ops.toList m st') k) ∧
      ∀ (j : Nat) (o : Oper), i ≤ j → j < m → ops.toList[j]? = some o → ∃ (st : St) (c g : Bool), SpecSt ops vs' (· < j) st0 st ∧ GuardIs ops st o g ∧ opValR G T ops.toList st.bx (opd st) o = some (c, vs' j) ∧ (c || !g) = true
  | [], i, st, vs, hd, hle, hsp, hΦ => by
    have hlen : ops.toList.length ≤ i := by
      have := congrArg List.length hd
      simp at this ⊢; omega
    have hil : i = ops.toList.length := Nat.le_antisymm hle hlen
    refine ⟨i, vs, st, Nat.le_refl _, hle, tailOK_end hlen, fun _ _ => rfl, hsp, ?_, fun j o hj hj' ho => by omega⟩
    rw [hd]
    subst hil
    simpa only [execD, execR] using hΦ
  | o :: l, i, st, vs, hd, hle, hsp, hΦ => by
    have hi : ops.toList[i]? = some o := by
      have := congrArg (·[0]?) hd
      simpa using this
    have hd' : ops.toList.drop (i + 1) = l := by
      have := congrArg List.tail hd
      simpa using this
    have hlt : i < ops.toList.length := (List.getElem?_eq_some_iff.1 hi).1
    have hidx : ops.toList.length - (l.length + 1) = i := by
      have := congrArg List.length hd
      simp at this ⊢; simp at hlt; omega
    have stop : tailOK ops.toList i = true → Φ (execR G T false ops.toList (o :: l) (pend T ops.toList i st) k) →
        ∃ (m : Nat) (vs' : Nat → SV) (st' : St), i ≤ m ∧ m ≤ ops.toList.length ∧ tailOK ops.toList m = true ∧ (∀ j, j < i → vs' j = vs j) ∧ SpecSt ops vs' (· < m) st0 st' ∧ Φ (execR G T false ops.toList (ops.toList.drop m) (pend T ops.toList m st') k) ∧
          ∀ (j : Nat) (o : Oper), i ≤ j → j < m → ops.toList[j]? = some o → ∃ (st : St) (c g : Bool), SpecSt ops vs' (· < j) st0 st ∧ GuardIs ops st o g ∧ opValR G T ops.toList st.bx (opd st) o = some (c, vs' j) ∧ (c || !g) = true :=
      fun h1 h2 => ⟨i, vs, st, Nat.le_refl _, hle, h1, fun _ _ => rfl, hsp, by rw [hd]; exact h2, fun j o hj hj' ho => by omega⟩
    simp only [execD, hidx] at hΦ
    have main : ∀ (c g : Bool) (v : SV), GuardIs ops st o g → opValR G T ops.toList st.bx (opd st) o = some (c, v) → (c || !g) = true → Φ (execD G T ops.toList l (st.put o.dst v) k) →
        ∃ (m : Nat) (vs' : Nat → SV) (st' : St), i ≤ m ∧ m ≤ ops.toList.length ∧ tailOK ops.toList m = true ∧ (∀ j, j < i → vs' j = vs j) ∧ SpecSt ops vs' (· < m) st0 st' ∧ Φ (execR G T false ops.toList (ops.toList.drop m) (pend T ops.toList m st') k) ∧
          ∀ (j : Nat) (o : Oper), i ≤ j → j < m → ops.toList[j]? = some o → ∃ (st : St) (c g : Bool), SpecSt ops vs' (· < j) st0 st ∧ GuardIs ops st o g ∧ opValR G T ops.toList st.bx (opd st) o = some (c, vs' j) ∧ (c || !g) = true := by
      intro c g v hg hov hc hΦ'
      have congrS : ∀ (u u' : Nat → SV) (n : Nat) (s : St), (∀ j, j < n → u' j = u j) → SpecSt ops u (· < n) st0 s → SpecSt ops u' (· < n) st0 s := fun u u' n s he hs =>
        ⟨hs.bx, fun j p k hj hp hk => by rw [he j hj]; exact hs.done j p k hj hp hk, hs.rest⟩
      have hsp1 : SpecSt ops (fun j => if j = i then v else vs j) (· < i) st0 st := congrS vs _ i st (fun j hj => by simp [show ¬ j = i by omega]) hsp
      have hsp2 := hsp1.put hS hi
      simp only [if_pos rfl] at hsp2
      have hsp3 : SpecSt ops (fun j => if j = i then v else vs j) (· < i + 1) st0 (st.put o.dst v) := by
        have := lt_succ_eq i
        rw [this] at hsp2
        exact hsp2
      obtain ⟨m, vs', st', hm1, hm2, hm3, h1, h2, h3, h4⟩ := execD_ro hfail hS k l (i + 1) _ _ hd' hlt hsp3 hΦ'
      have hvi : vs' i = v := by rw [h1 i (by omega)]; simp
      refine ⟨m, vs', st', by omega, hm2, hm3, fun j hj => by rw [h1 j (by omega)]; simp [show ¬ j = i by omega], h2, h3, fun j p hj hjm hp => ?_⟩
      by_cases e : j = i
      · subst e
        rw [hi] at hp; simp at hp; subst hp
        refine ⟨st, c, g, congrS vs vs' j st (fun q hq => by rw [h1 q (by omega)]; simp [show ¬ q = j by omega]) hsp, hg, by rw [hvi]; exact hov, hc⟩
      · exact h4 j p (by omega) hjm hp
    cases hg : o.guard with
    | none =>
      simp only [hg] at hΦ
      cases hop : opValR G T ops.toList st.bx (opd st) o with
      | none =>
        simp only [hop] at hΦ
        cases ht : tailOK ops.toList i with
        | false => rw [ht] at hΦ; exact (hfail hΦ).elim
        | true =>
          rw [ht] at hΦ
          exact stop ht hΦ
      | some r =>
        obtain ⟨c, v⟩ := r
        simp only [hop] at hΦ
        cases c with
        | false => exact (hfail hΦ).elim
        | true => exact main true true v (.inl ⟨hg, rfl⟩) hop rfl hΦ
    | some mb =>
      obtain ⟨m, b⟩ := mb
      simp only [hg] at hΦ
      cases hgv : guardVal ops.toList st ops.toList.length (m, b) with
      | none => simp only [hgv] at hΦ; exact (hfail hΦ).elim
      | some g =>
        simp only [hgv] at hΦ
        cases hov : opValR G T ops.toList st.bx (opd st) o with
        | none =>
          simp only [hov] at hΦ
          cases ht : tailOK ops.toList i with
          | false => rw [ht] at hΦ; exact (hfail hΦ).elim
          | true =>
            rw [ht] at hΦ
            exact stop ht hΦ
        | some r =>
          obtain ⟨c, v⟩ := r
          simp only [hov] at hΦ
          cases hc : (c || !g) with
          | false => simp only [hc, cond_false] at hΦ; exact (hfail hΦ).elim
          | true =>
            simp only [hc, cond_true] at hΦ
            exact main c g v (.inr ⟨(m, b), hg, hgv⟩) hov hc hΦ

theorem ready_mem {listed : Array Bool} {i : Nat} (h : i ∈ Region.ready .any ops listed) : ∃ o, ops.toList[i]? = some o ∧ listed.getD i true = false ∧ ∀ e ∈ o.after.toList, Region.binds .any e = true → listed.getD e.on false = true := by
  unfold Region.ready at h
  simp only [List.mem_filter, List.mem_range, Bool.and_eq_true, Bool.not_eq_true'] at h
  obtain ⟨hlt, h1, h2⟩ := h
  have ho : ops[i]? = some ops[i] := by simp [hlt]
  rw [ho] at h2
  simp only [Option.map_some, Option.getD_some, Array.all_eq_true_iff_forall_mem, Bool.or_eq_true, Bool.not_eq_true'] at h2
  refine ⟨ops[i], by simp [hlt], h1, fun e he hb => ?_⟩
  rcases h2 e (by simpa using he) with h3 | h3
  · rw [hb] at h3; simp at h3
  · exact h3

end
end Go.Lift
set_option linter.unusedSimpArgs false
set_option linter.unusedVariables false
namespace Go.Lift

theorem cnt_lt {p q : Nat → Bool} (h : ∀ x, q x = true → p x = true) : ∀ (l : List Nat), (∃ x ∈ l, p x = true ∧ q x = false) → l.countP q < l.countP p
  | [], ⟨x, hx, _⟩ => by simp at hx
  | a :: l, ⟨x, hx, h1, h2⟩ => by
    have hle : l.countP q ≤ l.countP p := List.countP_mono_left fun y _ hy => h y hy
    simp only [List.countP_cons]
    rcases List.mem_cons.1 hx with rfl | hx
    · simp only [h1, h2]; simp; omega
    · have := cnt_lt h l ⟨x, hx, h1, h2⟩
      cases hq : q a with
      | false => simp; omega
      | true => simp [h a hq]; omega

section
variable {P : Program} {T : Nat → Option Ty} {G : Tbl} {w w' : World} {σ σ' τ : Store P} {H H' : Nat → Value} {n0 N : Nat} {ops : Array Oper} {C C' : Nat → Prop}

def Dl (listed : Array Bool) (j : Nat) : Prop := listed.getD j false = true
def unl (n : Nat) (listed : Array Bool) : Nat := (List.range n).countP fun j => !listed.getD j false

theorem Dl_set {listed : Array Bool} {i : Nat} (hi : i < listed.size) (j : Nat) : Dl (listed.setIfInBounds i true) j ↔ (Dl listed j ∨ j = i) := by
  unfold Dl
  simp only [Array.getD_eq_getD_getElem?, Array.getElem?_setIfInBounds]
  by_cases e : i = j
  · subst e; simp [hi]
  · simp [e, Ne.symm e]

theorem Rel.look_congr {st st' : St} {a : Act} (h : Rel C N n0 σ H st a w) (hb : st'.bx = st.bx) (hl : ∀ k, look k st'.sl = look k st.sl) : Rel C N n0 σ H st' a w := by
  refine ⟨h.holds, h.size, h.defers, h.base, fun k b hk => h.box k b (by rw [← hb]; exact hk), fun k k' b b' g hk hk' => h.apart k k' b b' g (by rw [← hb]; exact hk) (by rw [← hb]; exact hk'), fun k s hk hc => ?_⟩
  rw [hb]; exact h.slot k s (by rw [← hl]; exact hk) hc

theorem Inv.look_congr {D : Nat → Prop} {st st' : St} {a : Act} (h : Inv ops D N n0 σ H st a w) (hb : st'.bx = st.bx) (hl : ∀ k, look k st'.sl = look k st.sl) : Inv ops D N n0 σ H st' a w :=
  ⟨h.rel.look_congr hb hl, h.skip⟩

theorem SpecSt.same {vs : Nat → SV} {D : Nat → Prop} {st0 st st' : St} (h : SpecSt ops vs D st0 st) (h' : SpecSt ops vs D st0 st') : st'.bx = st.bx ∧ ∀ k, look k st'.sl = look k st.sl := by
  refine ⟨h'.bx.trans h.bx.symm, fun k => ?_⟩
  by_cases hex : ∃ (j : Nat) (o : Oper), D j ∧ ops.toList[j]? = some o ∧ o.dst = some k
  · obtain ⟨j, o, hj, ho, hd⟩ := hex
    rw [h.done j o k hj ho hd, h'.done j o k hj ho hd]
  · have : ∀ (j : Nat) (o : Oper), D j → ops.toList[j]? = some o → o.dst ≠ some k := fun j o hj ho hd => hex ⟨j, o, hj, ho, hd⟩
    rw [h.rest k this, h'.rest k this]

theorem SpecSt.congr {vs : Nat → SV} {D D' : Nat → Prop} {st0 st : St} (h : SpecSt ops vs D st0 st) (hd : ∀ j, D j ↔ D' j) : SpecSt ops vs D' st0 st :=
  ⟨h.bx, fun j o k hj => h.done j o k ((hd j).2 hj), fun k hk => h.rest k fun j o hj => hk j o ((hd j).1 hj)⟩

theorem ready_nil (hW : Drawn ops) {listed : Array Bool} (hsz : listed.size = ops.size) (h : Region.ready .any ops listed = []) : ∀ j, j < ops.size → Dl listed j := by
  intro j
  induction j using Nat.strongRecOn with
  | _ j ih =>
    intro hj
    cases hl : listed.getD j false with
    | true => exact hl
    | false =>
      exfalso
      have hmem : j ∈ Region.ready .any ops listed := by
        unfold Region.ready
        simp only [List.mem_filter, List.mem_range, Bool.and_eq_true, Bool.not_eq_true']
        refine ⟨hj, ?_, ?_⟩
        · simp [Array.getD, hsz, hj] at hl ⊢; exact hl
        · have ho : ops[j]? = some ops[j] := by simp [hj]
          rw [ho]
          simp only [Option.map_some, Option.getD_some, Array.all_eq_true_iff_forall_mem, Bool.or_eq_true, Bool.not_eq_true']
          intro e he
          cases hb : Region.binds .any e with
          | false => left; rfl
          | true =>
            right
            have hlt := hW.back j ops[j] e (by simp [hj]) (by simpa using he) hb
            exact ih e.on hlt (by omega)
      rw [h] at hmem
      simp at hmem

theorem unl_zero {listed : Array Bool} (h : unl ops.size listed = 0) : ∀ j, j < ops.size → Dl listed j := by
  intro j hj
  have := List.countP_eq_zero.1 h j (List.mem_range.2 hj)
  simpa [Dl] using this

theorem ready_of_all {listed : Array Bool} (hsz : listed.size = ops.size) (h : ∀ j, j < ops.size → Dl listed j) : Region.ready .any ops listed = [] := by
  unfold Region.ready
  rw [List.filter_eq_nil_iff]
  intro j hj
  have hj := List.mem_range.1 hj
  have := h j hj
  simp [Dl, Array.getD, hsz, hj] at this
  simp [Array.getD, hsz, hj, this]

theorem domin_spec {i : Nat} {o : Oper} (h : domin ops.toList i o = true) {D : Nat → Prop} (hcl : EdgeClosed ops D) (hed : ∀ e ∈ o.after.toList, Region.binds .any e = true → D e.on) : ∀ j, j < i → D j := by
  have key : ∀ n j, i - j = n → j < i → D j := by
    intro n
    induction n using Nat.strongRecOn with
    | _ n ih =>
      intro j hn hj
      unfold domin at h
      have hj' := List.all_eq_true.1 h j (List.mem_range.2 hj)
      simp only [Bool.or_eq_true] at hj'
      rcases hj' with hj' | hj'
      · obtain ⟨e, he, h1, h2⟩ := hasEdge_spec hj'
        exact h1 ▸ hed e he h2
      · obtain ⟨k, hk, hk2⟩ := List.any_eq_true.1 hj'
        have hk := List.mem_range.1 hk
        simp only [Bool.and_eq_true] at hk2
        obtain ⟨hjk, hk3⟩ := hk2
        have hjk := blt_lt hjk
        have hDk := ih (i - k) (by omega) k rfl hk
        cases hp : ops.toList[k]? with
        | none => rw [hp] at hk3; simp at hk3
        | some p =>
          rw [hp] at hk3
          obtain ⟨e, he, h1, h2⟩ := hasEdge_spec hk3
          exact h1 ▸ hcl k p e hDk hp he h2
  exact fun j hj => key _ j rfl hj

theorem tailGo_spec {all : List Oper} : ∀ (l : List Oper) (m : Nat), tailGo all m l = true → ∀ (j : Nat) (o : Oper), l[j]? = some o → domin all (m + j) o = true
  | [], _, _, _, _, h => by simp at h
  | p :: l, m, h, j, o, hj => by
    simp only [tailGo, Bool.and_eq_true] at h
    cases j with
    | zero => simp at hj; subst hj; exact h.1
    | succ j =>
      have := tailGo_spec l (m + 1) h.2 j o (by simpa using hj)
      rw [show m + (j + 1) = m + 1 + j by omega]; exact this

theorem tailOK_spec {m : Nat} (h : tailOK ops.toList m = true) {i : Nat} {o : Oper} (hm : m ≤ i) (hi : ops.toList[i]? = some o) : domin ops.toList i o = true := by
  have := tailGo_spec _ m h (i - m) o (by rw [List.getElem?_drop, show m + (i - m) = i by omega]; exact hi)
  rwa [show m + (i - m) = i by omega] at this

theorem notD {listed : Array Bool} (hsz : listed.size = ops.size) {i : Nat} {o : Oper} (ho : ops.toList[i]? = some o) (hl : listed.getD i true = false) : i < ops.size ∧ ¬ Dl listed i := by
  have hilt : i < ops.size := by have := (List.getElem?_eq_some_iff.1 ho).1; simpa using this
  refine ⟨hilt, ?_⟩
  unfold Dl
  simp [Array.getD, hsz, hilt] at hl ⊢
  exact hl

theorem unl_set {listed : Array Bool} {i : Nat} (hilt : i < ops.size) (hsz : listed.size = ops.size) (hnD : ¬ Dl listed i) : unl ops.size (listed.setIfInBounds i true) < unl ops.size listed := by
  have hset := Dl_set (listed := listed) (i := i) (by omega)
  refine cnt_lt (fun x hx => ?_) _ ⟨i, List.mem_range.2 hilt, ?_, ?_⟩
  · cases hxl : listed.getD x false with
    | false => rfl
    | true =>
      have := (hset x).2 (.inl hxl)
      unfold Dl at this
      rw [this] at hx; simp at hx
  · unfold Dl at hnD; simpa using hnD
  · have := (hset i).2 (.inr rfl)
    unfold Dl at this
    simp [this]

/-- from place i on the draw has no choice -/
theorem chain_any {Φ : Leaf → Prop} (hfail : ¬ Φ .fail) (hE : Env P T G) (hS : Static N ops) (hW : Drawn ops) (k : St → Leaf) {Q : Exit → Act → World → Prop} : ∀ (l : List Oper) (i : Nat) (fuel : Nat) (listed : Array Bool) (st : St) (a : Act) (w : World) (σ : Store P) (H : Nat → Value),
    ops.toList.drop i = l → (∀ m, i ≤ m → ∀ o, ops.toList[m]? = some o → domin ops.toList m o = true) → i ≤ ops.size → listed.size = ops.size → (∀ j, Dl listed j ↔ j < i) → unl ops.size listed ≤ fuel → Inv ops (· < i) N n0 σ H st a w → Φ (execR G T false ops.toList l st k) →
    (∀ σ' H' st' a' w', Trans n0 σ w σ' w' → Inv ops (fun j => j < ops.toList.length) N n0 σ' H' st' a' w' → Φ (k st') → Q .normal a' w') → wpAny P .any ops Q fuel listed a w
  | [], i, fuel, listed, st, a, w, σ, H, hd, hdom, hle, hsz, hDl, hun, hI, hΦ, hQ => by
    have hlen : ops.toList.length ≤ i := by
      have := congrArg List.length hd
      simp at this ⊢; omega
    have hall : ∀ j, j < ops.size → Dl listed j := fun j hj => (hDl j).2 (by simp at hlen; omega)
    have hq : Q .normal a w := hQ σ H st a w (Trans.refl hI.rel.holds) (hI.congr fun j o hj => by have := (List.getElem?_eq_some_iff.1 hj).1; omega) (by simpa [execR] using hΦ)
    cases fuel with
    | zero => exact ⟨ready_of_all hsz hall, hq⟩
    | succ fuel => exact ⟨fun _ => hq, fun i' hi' => by rw [ready_of_all hsz hall] at hi'; simp at hi'⟩
  | o :: l, i, fuel, listed, st, a, w, σ, H, hd, hdom, hle, hsz, hDl, hun, hI, hΦ, hQ => by
    have hi : ops.toList[i]? = some o := by
      have := congrArg (·[0]?) hd
      simpa using this
    have hd' : ops.toList.drop (i + 1) = l := by
      have := congrArg List.tail hd
      simpa using this
    have hilt : i < ops.size := by have := (List.getElem?_eq_some_iff.1 hi).1; simpa using this
    have hnDi : ¬ Dl listed i := fun h => by have := (hDl i).1 h; omega
    cases fuel with
    | zero => exact (hnDi (unl_zero (ops := ops) (Nat.le_zero.1 hun) i hilt)).elim
    | succ fuel =>
      have hcl : EdgeClosed ops (Dl listed) := fun j p e hj hp he hb => (hDl e.on).2 (by have := hW.back j p e hp he hb; have := (hDl j).1 hj; omega)
      refine ⟨fun hnil => (hnDi (ready_nil hW hsz hnil i hilt)).elim, fun i' hi' => ?_⟩
      obtain ⟨o', ho', hl', hed⟩ := ready_mem hi'
      obtain ⟨hilt', hnD'⟩ := notD hsz ho' hl'
      have hge : i ≤ i' := Nat.le_of_not_lt fun h => hnD' ((hDl i').2 h)
      have hle' : i' ≤ i := Nat.le_of_not_lt fun h => hnDi (domin_spec (hdom i' hge o' ho') hcl hed i h)
      obtain rfl : i' = i := Nat.le_antisymm hle' hge
      refine execR_one hfail hE hS k hi hI hΦ fun st' hΦ' σ1 H1 a1 w1 ht hI1 => ?_
      rw [lt_succ_eq] at hI1
      have hset := Dl_set (listed := listed) (i := i') (by omega)
      exact chain_any hfail hE hS hW k l (i' + 1) fuel (listed.setIfInBounds i' true) st' a1 w1 σ1 H1 hd' (fun m hm => hdom m (by omega)) (by omega) (by simpa using hsz)
        (fun j => by rw [hset j, hDl j]; omega) (by have := unl_set (ops := ops) hilt hsz hnDi; omega) hI1 hΦ' fun σ2 H2 st2 a2 w2 ht2 hI2 hk => hQ σ2 H2 st2 a2 w2 (ht.trans ht2) hI2 hk

theorem opValR_congr {all : List Oper} {bx : List (Nat × Box)} {ρ ρ' : Operand → Option SV} {o : Oper} (h : ∀ x ∈ o.op.operands.toList, ρ x = ρ' x) : opValR G T all bx ρ o = opValR G T all bx ρ' o := by
  unfold opValR
  rw [opVal_congr h]

/-- the allocations that have come -/
def Fresh (T : Nat → Option Ty) (ops : Array Oper) (D : Nat → Prop) (n0 : Nat) (σ : Store P) (H : Nat → Value) (bx : List (Nat × Box)) (a : Act) (w : World) : Prop :=
  ∀ (j : Nat) (p : Oper) (t d : Nat) (ty : Ty), D j → ops.toList[j]? = some p → isAlloc p = true → p.op = .alloc t → p.dst = some d → T t = some ty →
    BoxR σ w n0 (.var ⟨ty, ty.zero⟩) (a.tmps.getD d undef) ∧ ∀ (k : Nat) (b' : Box) (g : Nat), look k bx = some b' → hBlock (a.tmps.getD d undef) = some g → hBlock (H k) ≠ some g

theorem Fresh.congr {D D' : Nat → Prop} {bx : List (Nat × Box)} {a : Act} (h : Fresh T ops D n0 σ H bx a w) (hd : ∀ (j : Nat) (o : Oper), ops.toList[j]? = some o → (D' j → D j)) : Fresh T ops D' n0 σ H bx a w :=
  fun j p t d ty hj hp => h j p t d ty (hd j p hp hj) hp

theorem Fresh.step (hS : Static N ops) {D : Nat → Prop} {i : Nat} {o : Oper} (hi : ops.toList[i]? = some o) (hnD : ¬ D i) {bx : List (Nat × Box)} {a : Act} {v : Value} (hsz : a.tmps.size = N) (h : Fresh T ops D n0 σ H bx a w) (hs : Step σ w σ' w')
    (hnew : ∀ (t d : Nat) (ty : Ty), isAlloc o = true → o.op = .alloc t → o.dst = some d → T t = some ty → BoxR σ' w' n0 (.var ⟨ty, ty.zero⟩) v ∧ ∀ (k : Nat) (b' : Box) (g : Nat), look k bx = some b' → hBlock v = some g → hBlock (H k) ≠ some g) :
    Fresh T ops (fun j => D j ∨ j = i) n0 σ' H bx (a.put o.dst v) w' := by
  intro j p t d ty hj hp ha hop hd hty
  rcases hj with hj | rfl
  · have hsame : (a.put o.dst v).tmps.getD d undef = a.tmps.getD d undef := by
      cases hod : o.dst with
      | none => rfl
      | some d' =>
        have hne : ¬ d = d' := fun e => by
          have := hS.inj j i p o d hp hi hd (by rw [hod, e])
          subst this; exact hnD hj
        rw [getD_put (by rw [hsz]; exact hS.lt i o d' hi hod), if_neg hne]
    obtain ⟨h1, h2⟩ := h j p t d ty hj hp ha hop hd hty
    rw [hsame]
    refine ⟨h1.keep hs.le fun g hg => ?_, h2⟩
    obtain ⟨k1, k2, k3, _⟩ := h1.block g hg
    refine ⟨hs.block g k1, ?_⟩
    cases hn : σ' g with
    | none => rfl
    | some o => rcases hs.news g o hn with h4 | h4 <;> first | (rw [k3] at h4; simp at h4) | omega
  · rw [hi] at hp; simp at hp; subst hp
    rw [hd, getD_put (by rw [hsz]; exact hS.lt j o d hi hd), if_pos rfl]
    exact hnew t d ty ha hop hd hty

theorem isAlloc_op {o : Oper} (h : isAlloc o = true) : ∃ t d, o.op = .alloc t ∧ o.guard = none ∧ o.dst = some d := by
  unfold isAlloc at h
  split at h
  · rename_i t d h1 h2 h3; exact ⟨t, d, h1, h2, h3⟩
  · cases h

theorem opVal_alloc {bx : List (Nat × Box)} {ρ : Operand → Option SV} {o : Oper} {t : Nat} (h : o.op = .alloc t) : opVal G T bx ρ o = none := by
  unfold opVal; rw [h]

theorem inv_valueR (hE : Env P T G) (hS : Static N ops) {D : Nat → Prop} {i : Nat} {o : Oper} (hR : Ready ops D i o) {st : St} {a : Act} (hI : Inv ops D N n0 σ H st a w) (hFr : Fresh T ops D n0 σ H st.bx a w) {g c : Bool} {v : SV} (hg : GuardIs ops st o g)
    (hv : opValR G T ops.toList st.bx (opd st) o = some (c, v)) (hc : (c || !g) = true) {K : Act → World → Prop} {Q : Exit → Act → World → Prop}
    (hK : ∀ σ' a' w', Trans n0 σ w σ' w' → Inv ops (fun j => D j ∨ j = i) N n0 σ' H (st.put o.dst v) a' w' → Fresh T ops (fun j => D j ∨ j = i) n0 σ' H st.bx a' w' → K a' w') : wpOp P ops Q i K a w := by
  have hw := hg.want hS hR hI
  have hnoalloc : opVal G T st.bx (opd st) o ≠ none → ∀ t, o.op ≠ .alloc t := fun h t e => h (opVal_alloc e)
  cases hov : opVal G T st.bx (opd st) o with
  | some r =>
    have hna := hnoalloc (by rw [hov]; simp)
    simp only [opValR, hov] at hv
    have hr : r = (c, v) := by simpa using hv
    subst hr
    cases g with
    | true =>
      simp at hc; subst hc
      have hρ := (opd_ok hS hI hR.at_ hw hR.guard hR.closed).1
      refine wpOp_run hR.at_ hw (opVal_yields hE hI.rel.holds hI.rel.box hρ hov K Q fun v' σ' w' hst hsv => ?_)
      exact hK σ' _ w' (hst.trans' hI.rel.base) (inv_done hS hR hI ((hI.rel.step hst).put (dst_ok hS hR.at_) hsv) hw) (hFr.step hS hR.at_ hR.fresh hI.rel.size hst fun t d ty _ ho => (hna t ho).elim)
    | false =>
      refine wpOp_pass hR.at_ hw (hK σ _ w (Trans.refl hI.rel.holds) (inv_skip hS hR hI hw fun C' hC' => hI.rel.putAny (dst_ok hS hR.at_) hC') (hFr.step hS hR.at_ hR.fresh hI.rel.size (Step.refl hI.rel.holds) fun t d ty _ ho => (hna t ho).elim))
  | none =>
    simp only [opValR, hov] at hv
    obtain ⟨hso, hv'⟩ := cond_none hv
    have hal : isAlloc o = true := by
      unfold soleA at hso
      simp only [Bool.and_eq_true] at hso
      exact hso.1
    obtain ⟨t, d, ho, hgn, hd⟩ := isAlloc_op hal
    rw [ho] at hv'
    simp only [Option.map_eq_some_iff, Prod.mk.injEq] at hv'
    obtain ⟨ty, hty, rfl, rfl⟩ := hv'
    have hgt : g = true := by
      rcases hg with ⟨_, h⟩ | ⟨mb, h, _⟩
      · exact h
      · rw [hgn] at h; cases h
    subst hgt
    obtain ⟨z, hz, hzr⟩ := run_zeroValue (P := P) (w := w) (hE.types _ _ hty)
    have hs : Step σ w σ (w.alloc (.cells z.cells t)) := step_alloc hI.rel.holds (.cells z.cells t)
    have hr : (execOp a.eval o).run P w = .ok (.value (.pointer (some ⟨w.heap.size, 0, none⟩))) (w.alloc (.cells z.cells t)) := by
      simp [execOp, ho, Instr.alloc, hz, newVar, newRow]
    refine wpOp_run hR.at_ hw (wp_val hr ?_)
    refine hK σ _ _ (hs.trans' hI.rel.base) (inv_done hS hR hI ((hI.rel.step hs).put (dst_ok hS hR.at_) trivial) hw) (hFr.step hS hR.at_ hR.fresh hI.rel.size hs fun t' d' ty' _ ho' hd' hty' => ?_)
    rw [ho] at ho'; cases ho'
    rw [hty] at hty'; cases hty'
    refine ⟨⟨w.heap.size, z.cells, t, rfl, allocNew w _, (hzr σ).1, hI.rel.base, holds_new hI.rel.holds⟩, fun k b' g hk hg hgk => ?_⟩
    simp [hBlock] at hg
    have := ((hI.rel.box k b' hk).block g hgk).1
    omega

theorem pendL_spec : ∀ (l : List Oper) (st : St), pendL T l st = st ∨ ∃ (j : Nat) (o : Oper) (t d : Nat) (ty : Ty), l[j]? = some o ∧ isAlloc o = true ∧ o.op = .alloc t ∧ o.dst = some d ∧ T t = some ty ∧ pendL T l st = st.newBox d (.var ⟨ty, ty.zero⟩) (.ptr d none [])
  | [], st => .inl rfl
  | o :: l, st => by
    cases ha : isAlloc o with
    | false =>
      simp only [pendL, ha, cond_false]
      rcases pendL_spec l st with h | ⟨j, p, t, d, ty, h1, h2⟩
      · exact .inl h
      · exact .inr ⟨j + 1, p, t, d, ty, by simpa using h1, h2⟩
    | true =>
      obtain ⟨t, d, ho, hgn, hd⟩ := isAlloc_op ha
      simp only [pendL, ha, cond_true, ho, hd]
      cases hty : T t with
      | none => exact .inl rfl
      | some ty => exact .inr ⟨0, o, t, d, ty, rfl, ha, ho, hd, hty, rfl⟩

/-- the allocation that has come is a box -/
theorem Inv.pend {m : Nat} {st : St} {a : Act} (h : Inv ops (· < m) N n0 σ H st a w) (hF : Fresh T ops (· < m) n0 σ H st.bx a w) : ∃ H', Inv ops (· < m) N n0 σ H' (pend T ops.toList m st) a w := by
  unfold Lift.pend
  cases hc : Nat.beq (ops.toList.filter isAlloc).length 1 with
  | false => exact ⟨H, h⟩
  | true =>
    simp only [cond_true]
    rcases pendL_spec (T := T) (ops.toList.take m) st with e | ⟨j, o, t, d, ty, h1, h2, h3, h4, h5, e⟩
    · rw [e]; exact ⟨H, h⟩
    · rw [e]
      have hj : j < m := by
        have := (List.getElem?_eq_some_iff.1 h1).1
        simp at this; omega
      have ho : ops.toList[j]? = some o := by rw [List.getElem?_take] at h1; simpa [hj] using h1
      obtain ⟨k1, k2⟩ := hF j o t d ty hj ho h2 h3 h4 h5
      refine ⟨_, h.rel.ownBox rfl k1 k2 fun bx' H' g1 g2 => ?_, h.skip⟩
      obtain ⟨g, cs, tid, e1, _⟩ := k1
      exact ⟨_, _, g, g1, rfl, g2.trans e1, e1⟩

theorem ro_any (hE : Env P T G) (hS : Static N ops) (hW : Drawn ops) {vs : Nat → SV} {st0 : St} {m : Nat} (hm : m ≤ ops.size) (hdom : ∀ i, m ≤ i → ∀ o, ops.toList[i]? = some o → domin ops.toList i o = true)
    (hF : ∀ (j : Nat) (o : Oper), j < m → ops.toList[j]? = some o → ∃ (st : St) (c g : Bool), SpecSt ops vs (· < j) st0 st ∧ GuardIs ops st o g ∧ opValR G T ops.toList st.bx (opd st) o = some (c, vs j) ∧ (c || !g) = true)
    {Q : Exit → Act → World → Prop} : ∀ (fuel : Nat) (listed : Array Bool) (a : Act) (w : World) (σ : Store P) (st : St), listed.size = ops.size → (∀ j, Dl listed j → j < m) → SpecSt ops vs (Dl listed) st0 st → Inv ops (Dl listed) N n0 σ H st a w → Fresh T ops (Dl listed) n0 σ H st0.bx a w → EdgeClosed ops (Dl listed) →
    unl ops.size listed ≤ fuel → (∀ σ' a' w' st' fuel' listed', Trans n0 σ w σ' w' → listed'.size = ops.size → (∀ j, Dl listed' j ↔ j < m) → unl ops.size listed' ≤ fuel' → SpecSt ops vs (· < m) st0 st' → Inv ops (· < m) N n0 σ' H st' a' w' → Fresh T ops (· < m) n0 σ' H st0.bx a' w' → wpAny P .any ops Q fuel' listed' a' w') → wpAny P .any ops Q fuel listed a w := by
  intro fuel
  induction fuel with
  | zero =>
    intro listed a w σ st hsz hlm hsp hI hFr hcl hun hQ
    have hall := unl_zero (ops := ops) (Nat.le_zero.1 hun)
    have hiff : ∀ j, Dl listed j ↔ j < m := fun j => ⟨hlm j, fun h => hall j (by omega)⟩
    exact hQ σ a w st 0 listed (Trans.refl hI.rel.holds) hsz hiff hun (hsp.congr hiff) (hI.congr fun j o _ => hiff j) (hFr.congr fun j o _ => (hiff j).2)
  | succ fuel ih =>
    intro listed a w σ st hsz hlm hsp hI hFr hcl hun hQ
    by_cases hall : ∀ j, j < m → Dl listed j
    · have hiff : ∀ j, Dl listed j ↔ j < m := fun j => ⟨hlm j, hall j⟩
      exact hQ σ a w st (fuel + 1) listed (Trans.refl hI.rel.holds) hsz hiff hun (hsp.congr hiff) (hI.congr fun j o _ => hiff j) (hFr.congr fun j o _ => (hiff j).2)
    refine ⟨fun hnil => ?_, fun i hi => ?_⟩
    · exact (hall fun j hj => ready_nil hW hsz hnil j (by omega)).elim
    · obtain ⟨o, ho, hl, hed⟩ := ready_mem hi
      obtain ⟨hilt, hnD⟩ := notD hsz ho hl
      have him : i < m := Nat.lt_of_not_le fun h => hall fun j hj => domin_spec (hdom i h o ho) hcl hed j (by omega)
      have hR : Ready ops (Dl listed) i o := by
        have hgd : ∀ (j : Nat) (p : Oper) (m : Nat) (b : Bool), ops.toList[j]? = some p → p.guard = some (m, b) → (∀ e ∈ p.after.toList, Region.binds .any e = true → Dl listed e.on) → Dl listed m := by
          intro j p m b hp hg hedge
          have hlt := guard_lt hS hp hg
          have hok := hS.ok j p hp
          simp only [okOper, hg, Bool.and_eq_true] at hok
          have hdst := hok.1.2
          cases hom' : ops.toList[m]? with
          | none => simp [hom'] at hdst
          | some om' =>
            simp only [hom'] at hdst
            obtain ⟨d', hd'⟩ := Option.isSome_iff_exists.1 hdst
            have hlook : d' ∈ looksOf ops.toList p := by simp [looksOf, hg, hom', hd']
            rcases hW.looks j m p om' d' hp hom' hd' hlook with e | ⟨_, h2⟩ | ⟨h1, _⟩
            · omega
            · obtain ⟨e, he, h3, h4⟩ := hasEdge_spec h2
              exact h3 ▸ hedge e he h4
            · omega
        exact ⟨ho, hnD, fun m b hg => hgd i o m b ho hg hed, fun j p m b hj hp hg => hgd j p m b hp hg fun e he hb => hcl j p e hj hp he hb⟩
      obtain ⟨sti, c, g, hspi, hg, hov, hc⟩ := hF i o him ho
      have hlook : ∀ t, t ∈ looksOf ops.toList o → look t st.sl = look t sti.sl := fun t ht => agree_look hS hW hsp ho hspi hcl hed hnD ht
      have hov' : opValR G T ops.toList st.bx (opd st) o = some (c, vs i) := by
        rw [hsp.bx, ← hspi.bx, ← hov]
        refine opValR_congr fun x hx => ?_
        cases x with
        | tmp t => exact hlook t (List.mem_append_left _ (tmps_mem hx))
        | _ => rfl
      have hg' : GuardIs ops st o g := by
        rcases hg with h1 | ⟨⟨m, b⟩, h1, h2⟩
        · exact .inl h1
        · refine .inr ⟨(m, b), h1, ?_⟩
          rw [guardVal_agree hS hW hsp hspi hcl _ m b (hR.guard m b h1) (guard_lt hS ho h1)]
          exact h2
      refine inv_valueR hE hS hR hI (by rw [hsp.bx]; exact hFr) hg' hov' hc fun σ1 a1 w1 ht hI1 hF1 => ?_
      rw [hsp.bx] at hF1
      have hset := Dl_set (listed := listed) (i := i) (by omega)
      refine ih (listed.setIfInBounds i true) a1 w1 σ1 (st.put o.dst (vs i)) (by simpa using hsz) (fun j hj => ?_) ((hsp.put hS ho).congr fun j => (hset j).symm) (hI1.congr fun j o _ => (hset j).symm) (hF1.congr fun j o _ => (hset j).1) ?_ ?_ fun σ2 a2 w2 st2 f2 l2 ht2 => hQ σ2 a2 w2 st2 f2 l2 (ht.trans ht2)
      · rcases (hset j).1 hj with hj | rfl
        · exact hlm j hj
        · exact him
      · intro j p e hj hp he hb
        rcases (hset j).1 hj with hj | rfl
        · exact (hset e.on).2 (.inl (hcl j p e hj hp he hb))
        · rw [ho] at hp; simp at hp; subst hp
          exact (hset e.on).2 (.inl (hed e he hb))
      · have := unl_set (ops := ops) hilt hsz hnD
        omega

end
end Go.Lift
set_option linter.unusedSimpArgs false
set_option linter.unusedVariables false
namespace Go.Lift

section
variable {P : Program} {T : Nat → Option Ty} {G : Tbl} {w w' : World} {σ σ' τ : Store P} {H H' : Nat → Value} {n0 N : Nat} {ops : Array Oper} {C C' : Nat → Prop}

theorem look_unguard : ∀ (l : List Oper) (st : St) (k : Nat), (unguard l st).bx = st.bx ∧ ((∃ (j : Nat) (o : Oper), l[j]? = some o ∧ o.guard ≠ none ∧ o.dst = some k) → look k (unguard l st).sl = none) ∧
    (∀ s, look k (unguard l st).sl = some s → look k st.sl = some s)
  | [], st, k => ⟨rfl, fun ⟨j, o, h, _⟩ => by simp at h, fun s h => h⟩
  | o :: l, st, k => by
    simp only [unguard]
    cases hg : o.guard with
    | none =>
      obtain ⟨h1, h2, h3⟩ := look_unguard l st k
      refine ⟨h1, fun ⟨j, p, hp, hpg, hpd⟩ => ?_, h3⟩
      cases j with
      | zero => simp at hp; subst hp; exact (hpg hg).elim
      | succ j => exact h2 ⟨j, p, by simpa using hp, hpg, hpd⟩
    | some g =>
      obtain ⟨h1, h2, h3⟩ := look_unguard l (st.unput o.dst) k
      have hsub : ∀ s, look k (st.unput o.dst).sl = some s → look k st.sl = some s ∧ o.dst ≠ some k := by
        intro s hs
        cases hd : o.dst with
        | none => rw [hd] at hs; exact ⟨hs, by simp⟩
        | some d =>
          rw [hd] at hs
          simp only [St.unput, look_del] at hs
          split at hs
          · simp at hs
          · rename_i e; exact ⟨hs, fun h => e (by simp at h; exact h.symm)⟩
      refine ⟨h1.trans (by cases o.dst <;> rfl), fun ⟨j, p, hp, hpg, hpd⟩ => ?_, fun s hs => (hsub s (h3 s hs)).1⟩
      cases j with
      | zero =>
        simp at hp; subst hp
        cases hl : look k (unguard l (st.unput o.dst)).sl with
        | none => rfl
        | some s => exact ((hsub s (h3 s hl)).2 hpd).elim
      | succ j => exact h2 ⟨j, p, by simpa using hp, hpg, hpd⟩

theorem inv_end {st : St} {a : Act} (h : Inv ops (fun j => j < ops.toList.length) N n0 σ H st a w) : Rel (fun _ => True) N n0 σ H (unguard ops.toList st) a w := by
  have hl := look_unguard ops.toList st
  have hb := (hl 0).1
  refine ⟨h.rel.holds, h.rel.size, h.rel.defers, h.rel.base, fun k b hk => h.rel.box k b (by rw [← hb]; exact hk), fun k k' b b' g hk hk' => h.rel.apart k k' b b' g (by rw [← hb]; exact hk) (by rw [← hb]; exact hk'), fun k s hk _ => ?_⟩
  rw [hb]
  refine h.rel.slot k s ((hl k).2.2 s hk) fun j o _ ho hd => ?_
  cases hg : o.guard with
  | none => exact want_none hg
  | some g =>
    have := (hl k).2.1 ⟨j, o, ho, by simp [hg], hd⟩
    rw [hk] at this; simp at this

theorem inv_start {st : St} {a : Act} (h : Rel (fun _ => True) N n0 σ H st a w) (D : Nat → Prop) (hD : ∀ j, ¬ D j) : Inv ops D N n0 σ H st a w :=
  ⟨h.weaken fun _ _ => trivial, fun j o k hj => (hD j hj).elim⟩

/-- a region's walk: in the text's order, or in whatever order -/
def RegW (P : Program) (ops : Array Oper) (draw : Bool) (Q : Exit → Act → World → Prop) (a : Act) (w : World) : Prop :=
  bif draw then wpAny P .any ops Q ops.size (Array.replicate ops.size false) a { w with drawn := w.drawn + 1 } else wpOps P ops Q (List.range ops.size) a w

theorem RegW.wp {id : Nat} {draw : Bool} {Q : Exit → Act → World → Prop} {a : Act} (hm : P.follows .mixedOrders = true) (h : RegW P ops draw Q a w) : (Code.region id ops draw).wp P Q a w := by
  cases draw with
  | false => exact wp_region h
  | true => exact wp_region_any hm h

theorem region_sound {Φ : Leaf → Prop} (hfail : ¬ Φ .fail) (hE : Env P T G) {draw : Bool} {st : St} {a : Act} {k : St → Leaf} (hI : Rel (fun _ => True) N n0 σ H st a w)
    (hg : (guardsOK N ops.toList && (!draw || drawOK ops.toList)) = true) (hΦ : Φ (execX G T draw ops.toList st fun st' => k (unguard ops.toList st'))) {Q : Exit → Act → World → Prop}
    (hQ : ∀ σ' H' st' a' w', Trans n0 σ w σ' w' → Rel (fun _ => True) N n0 σ' H' st' a' w' → Φ (k st') → Q .normal a' w') : RegW P ops draw Q a w := by
  simp only [Bool.and_eq_true, Bool.or_eq_true, Bool.not_eq_true'] at hg
  obtain ⟨hg1, hg2⟩ := hg
  have hS := static_of hg1
  cases draw with
  | false =>
    simp only [RegW, cond_false]
    simp only [execX, cond_false] at hΦ
    have := execR_seq (Φ := Φ) hfail hE hS (fun st' => k (unguard ops.toList st')) ops.toList 0 st a w σ H rfl (inv_start hI _ fun j => Nat.not_lt_zero j) hΦ Q fun σ' H' st' a' w' ht hI' hk => hQ σ' H' _ a' w' ht (inv_end hI') hk
    rw [List.range_eq_range']
    simpa using this
  | true =>
    have hW := drawn_of (hg2.resolve_left (by simp))
    simp only [RegW, cond_true]
    simp only [execX, cond_true] at hΦ
    have hsp0 : ∀ vs, SpecSt ops vs (· < 0) st st := fun vs => ⟨rfl, fun j o k hj => (Nat.not_lt_zero j hj).elim, fun k _ => rfl⟩
    obtain ⟨m, vs, st', _, hm, htail, _, hsp, hk, hF⟩ := execD_ro (G := G) (T := T) (ops := ops) hfail hS (fun st' => k (unguard ops.toList st')) ops.toList 0 st (fun _ => .nils) rfl (Nat.zero_le _) (hsp0 _) hΦ
    have hm : m ≤ ops.size := by simpa using hm
    have hdom : ∀ i, m ≤ i → ∀ o, ops.toList[i]? = some o → domin ops.toList i o = true := fun i hi o ho => tailOK_spec htail hi ho
    have hI1 := hI.step (step_drew hI.holds)
    have hnone : ∀ j, ¬ Dl (Array.replicate ops.size false) j := by
      intro j
      unfold Dl
      simp [Array.getD, Array.getElem?_replicate]
    refine ro_any hE hS hW (vs := vs) (st0 := st) hm hdom (fun j o hj ho => hF j o (Nat.zero_le _) hj ho) ops.size (Array.replicate ops.size false) a w.drew σ st (by simp) (fun j hj => (hnone j hj).elim) ((hsp0 vs).congr fun j => ⟨fun h => (Nat.not_lt_zero j h).elim, fun h => (hnone j h).elim⟩)
      (inv_start hI1 _ hnone) (fun j p t d ty hj => (hnone j hj).elim) (fun j o e hj => (hnone j hj).elim) ?_ fun σ' a' w' st2 fuel' listed' ht hsz' hDl' hun' hsp2 hI2 hF2 => ?_
    · unfold unl
      exact Nat.le_trans List.countP_le_length (by simp)
    · have hsame := hsp2.same hsp
      have hI3 := hI2.look_congr hsame.1 hsame.2
      obtain ⟨H4, hI4⟩ := hI3.pend (by rw [hsame.1, hsp2.bx]; exact hF2)
      exact chain_any hfail hE hS hW (fun st' => k (unguard ops.toList st')) _ m fuel' listed' _ a' w' σ' H4 rfl hdom hm hsz' hDl' hun' hI4 hk
        fun σ3 H3 st3 a3 w3 ht3 hI4 hk3 => hQ σ3 H3 _ a3 w3 (((step_drew hI.holds).trans' hI.base |>.trans ht).trans ht3) (inv_end hI4) hk3

/-! regions in a round of a loop over a function -/
/-- the pinned slots hold what they held -/
def Pinned (ps : List Nat) (X : Nat → Value) (a : Act) : Prop := (∀ k, ps.any (Nat.beq k) = true → a.tmps.getD k undef = X k) ∧ (ps.any (Nat.beq 999999) = true → a.defers = [])

theorem plainOp_nodefer {o : Oper} (h : plainOp o = true) (ρ : Operand → Value) (w : World) (d : Deferred) (w' : World) : (execOp ρ o).run P w ≠ .ok (.defer d) w' := by
  have val : ∀ (s : Sem Value), (do let x ← s; pure (Next.value x) : Sem Next).run P w ≠ .ok (.defer d) w' := by
    intro s
    simp only [Sem.run_bind]
    cases s.run P w <;> simp [Result.andThen]
  have unt : ∀ (s : Sem Unit), (do s; pure Next.skip : Sem Next).run P w ≠ .ok (.defer d) w' := by
    intro s
    simp only [Sem.run_bind]
    cases s.run P w <;> simp [Result.andThen]
  unfold plainOp at h
  unfold execOp
  split at h
  all_goals first
    | (rename_i ho; rw [ho]; first | exact val _ | exact unt _ | (simp; done))
    | skip
  · rename_i c x y ho
    rw [ho]
    simp only [Sem.run_bind]
    cases (asBool (ρ c)).run P w <;> simp [Result.andThen]
  · rename_i c ho
    rw [ho]
    simp only [Sem.run_bind]
    split at h
    all_goals first
      | (rename_i hc
         simp only [resolve, hc, Sem.run_pure, Result.andThen_ok, invoke, builtin]
         exact val _)
      | (simp at h; done)
      | cases h
  all_goals simp at h

/-- no fence but the round -/
def fence (ro : Option Nat) : Fence := { Fence.wide with round := ro }

theorem Pinned.put {ps : List Nat} {X : Nat → Value} {a : Act} (h : Pinned ps X a) {d : Option Nat} {v : Value} (hd : ∀ k, d = some k → ps.any (Nat.beq k) = false) : Pinned ps X (a.put d v) := by
  cases d with
  | none => exact h
  | some d =>
    refine ⟨fun k hk => ?_, h.2⟩
    have hne : ¬ d = k := fun e => by have := hd d rfl; rw [e, hk] at this; cases this
    have := h.1 k hk
    simp only [Act.put, Array.getD_eq_getD_getElem?, Array.getElem?_setIfInBounds, if_neg hne] at this ⊢
    exact this

theorem ops_round {l : Option Nat} {n : Nat} {Q : Exit → Act → World → Prop} {ps : List Nat} {X : Nat → Value} (hp : pinOK (some ps) ops.toList = true) (hQ : ∀ a w, ¬ Q .outgrown a w) :
    ∀ (is : List Nat) (a : Act) (w : World), Pinned ps X a → wpOps P ops Q is a w → wpOpsIn (fence l) n P ops (fun e a' w' => Q e a' w' ∧ Pinned ps X a') is a w
  | [], a, w, hpin, h => ⟨h, hpin⟩
  | i :: is, a, w, hpin, h => by
    have ih := ops_round (l := l) (n := n) (X := X) hp hQ is
    have hno : ¬ LetsOut Q := fun ⟨a, w, h⟩ => hQ a w h
    simp only [wpOps, wpOpsIn] at h ⊢
    cases ho : ops[i]? with
    | none => simp only [ho] at h ⊢; exact ih a w hpin h
    | some o =>
      simp only [ho] at h ⊢
      have hp2 := hp
      simp only [pinOK, Bool.and_eq_true, Bool.or_eq_true] at hp2
      have hall := List.all_eq_true.1 hp2.1 o (by simpa using Array.mem_of_getElem? ho)
      have hpl : ps.any (Nat.beq 999999) = true → plainOp o = true := fun e => List.all_eq_true.1 (hp2.2.resolve_left (by rw [e]; simp)) o (by simpa using Array.mem_of_getElem? ho)
      simp only [Bool.and_eq_true] at hall
      obtain ⟨hd, hdf⟩ := hall
      have hd' : ∀ k, o.dst = some k → ps.any (Nat.beq k) = false := fun k hk => by rw [hk] at hd; simpa using hd
      have hsem : Oper.semAt (fence l).round a.eval o = execOp a.eval o := Oper.semAt_eq _ _ _ (fun c hc => by rw [hc] at hdf; cases hdf)
      split
      · rename_i hw
        rw [if_pos hw] at h
        have h := h.resolve_right fun x => hno x.2
        refine ⟨fun _ _ => trivial, ?_⟩
        rw [hsem]
        unfold Oper.wp at h
        have hnd : ∀ d w', ps.any (Nat.beq 999999) = true → (execOp a.eval o).run P w ≠ .ok (.defer d) w' := fun d w' e => plainOp_nodefer (hpl e) _ _ _ _
        generalize (execOp a.eval o).run P w = r at *
        have dn : ((fence l).depth.isSome = true → 1 ≤ n) := fun h => by simp [Fence.wide, fence] at h
        cases r with
        | ok x w' =>
          cases x <;> simp only [Oper.upon, Oper.uponIn] at h ⊢
          case value v => exact ih _ _ (hpin.put hd') h
          case skip => exact ih _ _ (hpin.put hd') h
          case defer d => exact ih _ _ (Pinned.put (a := { a with defers := d :: a.defers }) ⟨hpin.1, fun e => (hnd _ _ e rfl).elim⟩ hd') h
          case enter f args =>
            refine ⟨dn, (callsIn_wide (n := n - 1)).2 (h.mono fun e w'' he => ?_)⟩
            cases e with
            | returned v => exact ih _ _ (hpin.put hd') he
            | panicked chain => exact ⟨he, hpin⟩
            | outgrown => exact (hno he).elim
          case row r args =>
            refine ⟨dn, fun c cs _ => ?_⟩
            obtain ⟨v, w'', hR, hs⟩ := h c cs
            exact ⟨v, w'', ih _ _ (hpin.put hd') hR, stepsIn_wide.2 hs⟩
        | halt x w' => cases x <;> simp only [Oper.upon, Oper.uponIn] at h ⊢; exact ⟨h, hpin⟩
      · rename_i hw
        rw [if_neg hw] at h
        exact ⟨fun _ _ => trivial, ih _ _ (hpin.put hd') h⟩

theorem region_round {l : Option Nat} {id : Nat} {draw : Bool} {Q : Exit → Act → World → Prop} {ps : List Nat} {X : Nat → Value} {a : Act} (hm : P.follows .mixedOrders = true) (hp : pinOK (some ps) ops.toList = true)
    (hQ : ∀ e a w, Q e a w → e = .normal) (hpin : Pinned ps X a) (h : RegW P ops draw Q a w) (b : Frame) (hb : b.roundOf = l) (k : List Item) (cs : List Frame) :
    ∃ a' w', Q .normal a' w' ∧ Pinned ps X a' ∧ Steps P (lone (b.atR a (.code (.region id ops draw) :: k)) cs w) (lone (b.atR a' k) cs w') := by
  have hQ' : ∀ a w, ¬ Q .outgrown a w := fun a w h => by have := hQ _ _ _ h; cases this
  have fin : ∀ (is : List Nat) (w1 : World), wpOps P ops Q is a w1 → Steps P (lone (b.atR a (.code (.region id ops draw) :: k)) cs w) (lone (b.atR a (.inRegion ops is :: k)) cs w1) →
      ∃ a' w', Q .normal a' w' ∧ Pinned ps X a' ∧ Steps P (lone (b.atR a (.code (.region id ops draw) :: k)) cs w) (lone (b.atR a' k) cs w') := by
    intro is w1 hw hs
    have h2 := ops_round (l := l) (n := 0) (X := X) hp hQ' is a w1 hpin hw
    obtain ⟨e, a', w', ⟨hq, hpin'⟩, harr⟩ := wp_opsIn is a w1 h2 b k cs hb trivial (fun _ h => by simp [Fence.wide, fence] at h)
    have he := hQ _ _ _ hq
    subst he
    exact ⟨a', w', hq, hpin', hs.trans (StepsIn.steps harr)⟩
  cases draw with
  | false => exact fin _ w h (.one stepR_region)
  | true =>
    simp only [RegW, cond_true] at h
    refine fin (Region.schedule (P.follows .mixedOrders) ops (w.tape w.drawn (.order b.fn id))) _ ?_ (.one stepR_region_draw)
    simp only [Region.schedule, hm, Bool.true_or, if_true]
    exact wpAny_sound ops.size _ _ a _ h

/-! the way through the code -/
/-- a piece of a round's code, run to its end -/
inductive Ends (ps : List Nat) (G : Tbl) (T : Nat → Option Ty) (N : Nat) : Leaf → St → Prop
  | done (st : St) : Ends ps G T N (.done st) st
  | loop (n : Nat) (ks : Nat → List Nat) (body : Code) (k : List Item) (st s : St) : Ends ps G T N (runP (some ps) G T N [] ks n (.code body :: .inLoop body :: k) st) s → Ends ps G T N (.loop body k st) s
  | more (n : Nat) (ks : Nat → List Nat) (todo : List Item) (st s : St) : Ends ps G T N (runP (some ps) G T N [] ks n todo st) s → Ends ps G T N (.more todo st) s

/-- one round: the state before it and the state behind it -/
def Round (ps : List Nat) (G : Tbl) (T : Nat → Option Ty) (N : Nat) (p : Nat) (assign body : Code) (e : Ty) (x : e.D) (S S' : St) : Prop :=
  ∃ s1 s2, Ends ps G T N (.more [.code assign] ⟨ins p (.tv ⟨e, x⟩) S.sl, S.bx⟩) s1 ∧ Ends ps G T N (.more [.code body] s1) s2 ∧ S' = keep ps s2

def slotsIn (ps : List Nat) (st : St) : Bool := st.sl.all fun x => ps.any (Nat.beq x.1)

inductive Goes (G : Tbl) (T : Nat → Option Ty) (N : Nat) (rs : List ResultVar) : Leaf → SV → Prop
  | ret (v : SV) : Goes G T N rs (.ret v) v
  | loop (n : Nat) (ks : Nat → List Nat) (body : Code) (k : List Item) (st : St) (r : SV) : Goes G T N rs (run G T N rs ks n (.code body :: .inLoop body :: k) st) r → Goes G T N rs (.loop body k st) r
  | more (n : Nat) (ks : Nat → List Nat) (todo : List Item) (st : St) (r : SV) : Goes G T N rs (run G T N rs ks n todo st) r → Goes G T N rs (.more todo st) r
  | iter (ps : List Nat) (S : Nat → St) (p : Nat) (e : Ty) (L : Bool × List e.D) (assign body : Code) (k : List Item) (st : St) (r : SV) : L.1 = true → p < N → ps.any (Nat.beq p) = false → S 0 = st → slotsIn ps st = true →
      (∀ (i : Nat) (x : e.D), L.2[i]? = some x → Round ps G T N p assign body e x (S i) (S (i + 1))) → Goes G T N rs (.more k (S L.2.length)) r → Goes G T N rs (.iter e L [p] assign body k st) r

/-- where a machine stands that a leaf speaks of -/
def Rest (P : Program) (T : Nat → Option Ty) (N n0 : Nat) (rs : List ResultVar) (b : Frame) (cs : List Frame) (m : Machine) (σ : Store P) (w : World) : Leaf → Prop
  | .fail => False
  | .done _ => False
  | .ret v => ∃ a w' σ' H st todo, retOf T rs st = some v ∧ Trans n0 σ w σ' w' ∧ Rel (fun _ => True) N n0 σ' H st a w' ∧ Steps P m (lone { b.at a todo with mode := .returning } cs w')
  | .loop body k st => ∃ a w' σ' H, Trans n0 σ w σ' w' ∧ Rel (fun _ => True) N n0 σ' H st a w' ∧ Steps P m (lone (b.at a (.code body :: .inLoop body :: k)) cs w')
  | .more todo st => ∃ a w' σ' H, Trans n0 σ w σ' w' ∧ Rel (fun _ => True) N n0 σ' H st a w' ∧ Steps P m (lone (b.at a todo) cs w')
  | .iter e L ps assign body k st => ∃ a w' σ' H f, Trans n0 σ w σ' w' ∧ Rel (fun _ => True) N n0 σ' H st a w' ∧ RelV σ' ⟨.seq e, L⟩ (a.eval f) ∧ Steps P m (lone (b.at a (.code (.rangeFunc f ps.toArray assign body) :: k)) cs w')

theorem run_reach {ks : Nat → List Nat} {Φ : Leaf → Prop} (hfail : ¬ Φ .fail) (hE : Env P T G) {rs : List ResultVar} {b : Frame} {cs : List Frame} {m : Machine} {σ0 : Store P} {w0 : World} : ∀ (n : Nat) (todo : List Item) (st : St) (a : Act) (w : World) (σ : Store P) (H : Nat → Value),
    Trans n0 σ0 w0 σ w → Rel (fun _ => True) N n0 σ H st a w → Steps P m (lone (b.at a todo) cs w) → Φ (run G T N rs ks n todo st) → ∃ L, Φ L ∧ Rest P T N n0 rs b cs m σ0 w0 L
  | 0, todo, st, a, w, σ, H, ht, hR, hs, hΦ => ⟨_, hΦ, a, w, σ, H, ht, hR.keep, hs⟩
  | n + 1, [], st, a, w, σ, H, ht, hR, hs, hΦ => by
    simp only [run, runP, leave] at hΦ
    cases hr : retOf T rs st with
    | none => rw [hr] at hΦ; exact (hfail hΦ).elim
    | some v =>
      rw [hr] at hΦ
      exact ⟨_, hΦ, a, w, σ, H, st, [], hr, ht, hR, hs.trans (.one step_end)⟩
  | n + 1, x :: k, st, a, w, σ, H, ht, hR, hs, hΦ => by
    have ih := run_reach (ks := ks) (Φ := Φ) hfail hE (rs := rs) (b := b) (cs := cs) (m := m) (σ0 := σ0) (w0 := w0) n
    simp only [run] at ih
    simp only [run, runP] at hΦ
    split at hΦ
    · simp only [leave] at hΦ
      cases hr : retOf T rs st with
      | none => rw [hr] at hΦ; exact (hfail hΦ).elim
      | some v =>
        rw [hr] at hΦ
        exact ⟨_, hΦ, a, w, σ, H, st, _, hr, ht, hR, hs.trans (.one step_ret)⟩
    · exact ih k st a w σ H ht hR (hs.trans (.one step_skip)) hΦ
    · exact ih k st a w σ H ht hR (hs.trans (.one step_inBlock)) hΦ
    · exact ih _ st a w σ H ht hR (hs.trans (.one step_seq)) hΦ
    · rename_i c x y
      split at hΦ
      · rename_i t hc
        have hv := svr_bool (hR.opd (fun _ _ => trivial) hc)
        cases t with
        | true => simp only [cond_true] at hΦ; exact ih _ st a w σ H ht hR (hs.trans (.one (step_cond hv))) hΦ
        | false => simp only [cond_false] at hΦ; exact ih _ st a w σ H ht hR (hs.trans (.one (step_cond hv))) hΦ
      · exact (hfail hΦ).elim
    · exact ih _ st a w σ H ht hR (hs.trans (.one step_block)) hΦ
    · exact ⟨_, hΦ, a, w, σ, H, ht, hR.keep, hs.trans (.one step_loop)⟩
    · exact ⟨_, hΦ, a, w, σ, H, ht, hR.keep, hs.trans (.one step_inLoop)⟩
    · split at hΦ
      · rename_i k' hk'
        exact ih k' st a w σ H ht hR (hs.trans (.one (step_exit hk'))) hΦ
      · exact (hfail hΦ).elim
    · rename_i id ops draw
      simp only [pinOK, Bool.and_true] at hΦ
      cases hg : guardsOK N ops.toList && (!draw || drawOK ops.toList) with
      | false => rw [hg] at hΦ; exact (hfail hΦ).elim
      | true =>
        rw [hg] at hΦ
        simp only [cond_true] at hΦ
        have hw := region_sound (Φ := Φ) hfail hE (k := fun st' => runP none G T N rs ks n k st') hR hg hΦ
          (Q := fun e a' w' => e = .normal ∧ ∃ σ' H' st', Trans n0 σ w σ' w' ∧ Rel (fun _ => True) N n0 σ' H' st' a' w' ∧ Φ (runP none G T N rs ks n k st')) fun σ' H' st' a' w' h1 h2 h3 => ⟨rfl, σ', H', st', h1, h2, h3⟩
        obtain ⟨e, a', w', ⟨he, σ', H', st', h1, h2, h3⟩, harr⟩ := (hw.wp (id := id) hE.mixed) b k cs
        subst he
        exact ih k st' a' w' σ' H' (ht.trans h1) h2 (hs.trans harr) h3
    · rename_i f ps assign body
      split at hΦ
      · rename_i e L hf
        exact ⟨_, hΦ, a, w, σ, H, f, ht, hR.keep, hR.opd (fun _ _ => trivial) hf, by simpa using hs⟩
      · exact (hfail hΦ).elim
    · exact (hfail hΦ).elim

/-- the same in a round -/
def RestR (P : Program) (N n0 : Nat) (ps : List Nat) (X : Nat → Value) (K : List Item) (b : Frame) (cs : List Frame) (m : Machine) (σ : Store P) (w : World) : Leaf → Prop
  | .done st => ∃ a w' σ' H, Trans n0 σ w σ' w' ∧ Rel (fun _ => True) N n0 σ' H st a w' ∧ Pinned ps X a ∧ Steps P m (lone (b.atR a K) cs w')
  | .loop body k st => ∃ a w' σ' H, Trans n0 σ w σ' w' ∧ Rel (fun _ => True) N n0 σ' H st a w' ∧ Pinned ps X a ∧ Steps P m (lone (b.atR a ((.code body :: .inLoop body :: k) ++ K)) cs w')
  | .more todo st => ∃ a w' σ' H, Trans n0 σ w σ' w' ∧ Rel (fun _ => True) N n0 σ' H st a w' ∧ Pinned ps X a ∧ Steps P m (lone (b.atR a (todo ++ K)) cs w')
  | _ => False

theorem exitTo_append {id : Nat} (K : List Item) : ∀ {k k' : List Item}, exitTo id k = some k' → exitTo id (k ++ K) = some (k' ++ K)
  | [], _, h => by simp [exitTo] at h
  | x :: k, k', h => by
    cases x <;> simp only [exitTo, List.cons_append] at h ⊢
    case inBlock i =>
      split at h
      · rename_i e; rw [if_pos e]; simp at h; subst h; rfl
      · rename_i e; rw [if_neg e]; exact exitTo_append K h
    all_goals exact exitTo_append K h

theorem run_reachR {ks : Nat → List Nat} {Φ : Leaf → Prop} (hfail : ¬ Φ .fail) (hE : Env P T G) {ps : List Nat} {X : Nat → Value} {K : List Item} {l : Option Nat} {b : Frame} (hb : b.roundOf = l) {cs : List Frame} {m : Machine} {σ0 : Store P} {w0 : World} :
    ∀ (n : Nat) (todo : List Item) (st : St) (a : Act) (w : World) (σ : Store P) (H : Nat → Value),
    Trans n0 σ0 w0 σ w → Rel (fun _ => True) N n0 σ H st a w → Pinned ps X a → Steps P m (lone (b.atR a (todo ++ K)) cs w) → Φ (runP (some ps) G T N [] ks n todo st) → ∃ L, Φ L ∧ RestR P N n0 ps X K b cs m σ0 w0 L
  | 0, todo, st, a, w, σ, H, ht, hR, hp, hs, hΦ => ⟨_, hΦ, a, w, σ, H, ht, hR.keep, hp, hs⟩
  | n + 1, [], st, a, w, σ, H, ht, hR, hp, hs, hΦ => ⟨_, hΦ, a, w, σ, H, ht, hR, hp, hs⟩
  | n + 1, x :: k, st, a, w, σ, H, ht, hR, hp, hs, hΦ => by
    have ih := run_reachR (ks := ks) (Φ := Φ) hfail hE (ps := ps) (X := X) (K := K) hb (cs := cs) (m := m) (σ0 := σ0) (w0 := w0) n
    simp only [runP] at hΦ
    split at hΦ
    · exact (hfail hΦ).elim
    · exact ih k st a w σ H ht hR hp (hs.trans (.one stepR_skip)) hΦ
    · exact ih k st a w σ H ht hR hp (hs.trans (.one stepR_inBlock)) hΦ
    · exact ih _ st a w σ H ht hR hp (hs.trans (.one stepR_seq)) hΦ
    · rename_i c x y
      split at hΦ
      · rename_i t hc
        have hv := svr_bool (hR.opd (fun _ _ => trivial) hc)
        cases t with
        | true => simp only [cond_true] at hΦ; exact ih _ st a w σ H ht hR hp (hs.trans (.one (stepR_cond hv))) hΦ
        | false => simp only [cond_false] at hΦ; exact ih _ st a w σ H ht hR hp (hs.trans (.one (stepR_cond hv))) hΦ
      · exact (hfail hΦ).elim
    · exact ih _ st a w σ H ht hR hp (hs.trans (.one stepR_block)) hΦ
    · exact ⟨_, hΦ, a, w, σ, H, ht, hR.keep, hp, hs.trans (.one stepR_loop)⟩
    · exact ⟨_, hΦ, a, w, σ, H, ht, hR.keep, hp, hs.trans (.one stepR_inLoop)⟩
    · split at hΦ
      · rename_i k' hk'
        exact ih k' st a w σ H ht hR hp (hs.trans (.one (stepR_exit (exitTo_append K hk')))) hΦ
      · exact (hfail hΦ).elim
    · rename_i id ops draw
      cases hg : guardsOK N ops.toList && (!draw || drawOK ops.toList) with
      | false => rw [hg] at hΦ; simp only [Bool.false_and, cond_false] at hΦ; exact (hfail hΦ).elim
      | true =>
        rw [hg] at hΦ
        simp only [Bool.true_and] at hΦ
        cases hpo : pinOK (some ps) ops.toList with
        | false => rw [hpo] at hΦ; exact (hfail hΦ).elim
        | true =>
          rw [hpo] at hΦ
          simp only [cond_true] at hΦ
          have hw := region_sound (Φ := Φ) hfail hE (k := fun st' => runP (some ps) G T N [] ks n k st') hR hg hΦ
            (Q := fun e a' w' => e = .normal ∧ ∃ σ' H' st', Trans n0 σ w σ' w' ∧ Rel (fun _ => True) N n0 σ' H' st' a' w' ∧ Φ (runP (some ps) G T N [] ks n k st')) fun σ' H' st' a' w' h1 h2 h3 => ⟨rfl, σ', H', st', h1, h2, h3⟩
          obtain ⟨a', w', ⟨_, σ', H', st', h1, h2, h3⟩, hp', harr⟩ := region_round (id := id) hE.mixed hpo (fun e a w h => h.1) hp hw b hb (k ++ K) cs
          exact ih k st' a' w' σ' H' (ht.trans h1) h2 hp' (hs.trans harr) h3
    · exact (hfail hΦ).elim
    · exact (hfail hΦ).elim

theorem ends_sound (hE : Env P T G) {ps : List Nat} {X : Nat → Value} {K : List Item} {L : Leaf} {s : St} (h : Ends ps G T N L s) : ∀ {l : Option Nat} {b : Frame} {cs : List Frame} {m : Machine} {σ0 : Store P} {w0 : World}, b.roundOf = l →
    RestR P N n0 ps X K b cs m σ0 w0 L → ∃ a w' σ' H, Trans n0 σ0 w0 σ' w' ∧ Rel (fun _ => True) N n0 σ' H s a w' ∧ Pinned ps X a ∧ Steps P m (lone (b.atR a K) cs w') := by
  induction h with
  | done st => intro l b cs m σ0 w0 _ hr; exact hr
  | loop n ks body k st s hend ih =>
    intro l b cs m σ0 w0 hb hr
    obtain ⟨a, w, σ, H, ht, hR, hp, hs⟩ := hr
    obtain ⟨L, ⟨_, hL⟩, hrest⟩ := run_reachR (ks := ks) (Φ := fun L => Ends ps G T N L s ∧ ∀ {l : Option Nat} {b : Frame} {cs : List Frame} {m : Machine} {σ0 : Store P} {w0 : World}, b.roundOf = l →
      RestR P N n0 ps X K b cs m σ0 w0 L → ∃ a w' σ' H, Trans n0 σ0 w0 σ' w' ∧ Rel (fun _ => True) N n0 σ' H s a w' ∧ Pinned ps X a ∧ Steps P m (lone (b.atR a K) cs w'))
      (fun h => by cases h.1) hE hb n _ st a w σ H ht hR hp hs ⟨hend, ih⟩
    exact hL hb hrest
  | more n ks todo st s hend ih =>
    intro l b cs m σ0 w0 hb hr
    obtain ⟨a, w, σ, H, ht, hR, hp, hs⟩ := hr
    obtain ⟨L, ⟨_, hL⟩, hrest⟩ := run_reachR (ks := ks) (Φ := fun L => Ends ps G T N L s ∧ ∀ {l : Option Nat} {b : Frame} {cs : List Frame} {m : Machine} {σ0 : Store P} {w0 : World}, b.roundOf = l →
      RestR P N n0 ps X K b cs m σ0 w0 L → ∃ a w' σ' H, Trans n0 σ0 w0 σ' w' ∧ Rel (fun _ => True) N n0 σ' H s a w' ∧ Pinned ps X a ∧ Steps P m (lone (b.atR a K) cs w'))
      (fun h => by cases h.1) hE hb n todo st a w σ H ht hR hp hs ⟨hend, ih⟩
    exact hL hb hrest

end
end Go.Lift
set_option linter.unusedSimpArgs false
set_option linter.unusedVariables false
namespace Go.Lift

section
variable {P : Program} {T : Nat → Option Ty} {G : Tbl} {w w' : World} {σ σ' τ : Store P} {H H' : Nat → Value} {n0 N : Nat} {ops : Array Oper} {C C' : Nat → Prop}

/-- what is read when a frame is left -/
def Final (P : Program) (T : Nat → Option Ty) (N n0 : Nat) (rs : List ResultVar) (b : Frame) (cs : List Frame) (m : Machine) (σ : Store P) (w : World) (r : SV) : Prop :=
  ∃ a w' σ' H st todo, retOf T rs st = some r ∧ Trans n0 σ w σ' w' ∧ Rel (fun _ => True) N n0 σ' H st a w' ∧ Steps P m (lone { b.at a todo with mode := .returning } cs w')

/-- the same state in another world, for another activation -/
theorem Rel.world {st : St} {a a2 : Act} {w2 : World} (h : Rel C N n0 σ H st a w) (hh : Holds w2 σ) (hd : DefsOK n0 σ w2 a2.defers) (hsz : w.heap.size ≤ w2.heap.size)
    (hb : ∀ (g : Nat) (o : Obj), w.heap[g]? = some o → noCells o = false → w2.heap[g]? = w.heap[g]?) (hs : a2.tmps.size = N)
    (ht : ∀ k s, look k st.sl = some s → C k → a2.tmps.getD k undef = a.tmps.getD k undef) : Rel C N n0 σ H st a2 w2 := by
  refine ⟨hh, hs, hd, Nat.le_trans h.base hsz, fun k b hk => (h.box k b hk).keep (Store.le.refl σ) fun g hg => ?_, h.apart, fun k s hk hc => ?_⟩
  · obtain ⟨_, _, h3, o, h4, h5⟩ := (h.box k b hk).block g hg
    exact ⟨hb g o h4 h5, h3⟩
  · rw [ht k s hk hc]; exact h.slot k s hk hc

theorem putObj_cells {l : Nat} {o o' : Obj} (hl : w.heap[l]? = some o) (hn : noCells o = true) (g : Nat) (x : Obj) (hg : w.heap[g]? = some x) (hx : noCells x = false) : (w.putObj l o').heap[g]? = w.heap[g]? := by
  refine World.putObj_heap_other fun e => ?_
  subst e
  rw [hl] at hg; simp only [Option.some.injEq] at hg; subst hg; rw [hn] at hx; cases hx

theorem putObj_holds {l : Nat} {o' : Obj} (hh : Holds w σ) (hs : σ l = none) : Holds (w.putObj l o') σ := by
  intro b ob hb
  rw [World.putObj_heap_other (fun e => by subst e; rw [hs] at hb; cases hb)]
  exact hh b ob hb

theorem putObj_size (w : World) (l : Nat) (o : Obj) : (w.putObj l o).heap.size = w.heap.size := by simp [World.putObj]

/-- an object is taken out, the world goes on, the object is put back -/
theorem trans_put {l : Nat} {o0 o : Obj} (hl : w.heap[l]? = some o0) (h0 : noCells o0 = true) (h1 : noCells o = true) (hs : σ' l = none) (t : Trans n0 σ (w.putObj l o) σ' w') : Trans n0 σ w σ' (w'.putObj l o0) := by
  have hlt : l < w.heap.size := (Array.getElem?_eq_some_iff.1 hl).1
  have hsz := t.size
  rw [putObj_size] at hsz
  refine ⟨t.le, putObj_holds t.holds hs, fun b ob hb => ?_, by rw [putObj_size]; exact hsz, fun b hb hc => ?_, t.os, t.output, t.tape⟩
  · rcases t.news b ob hb with h | h | ⟨h, o', h2, h3⟩
    · exact .inl h
    · rw [putObj_size] at h; exact .inr (.inl h)
    · refine .inr (.inr ⟨h, o', ?_, h3⟩)
      have hne : b ≠ l := fun e => by
        subst e
        rw [World.putObj_heap_same hlt] at h2; simp only [Option.some.injEq] at h2; subst h2
        rw [h1] at h3; cases h3
      rw [World.putObj_heap_other hne] at h2; exact h2
  · by_cases e : b = l
    · subst e; rw [World.putObj_heap_same (Nat.lt_of_lt_of_le hlt hsz), hl]
    · rw [World.putObj_heap_other e]
      have := t.block b (by rw [putObj_size]; exact hb) (by rw [World.putObj_heap_other e]; exact hc)
      rw [this, World.putObj_heap_other e]

theorem DefsOK.putObj {l : Nat} {r : Loop} {o' : Obj} (hl : w.heap[l]? = some (.loop r)) : ∀ {ds : List Deferred}, DefsOK n0 σ w ds → DefsOK n0 σ (w.putObj l o') ds
  | [], _ => trivial
  | _ :: _, ⟨⟨D, h1, h2, h3, h4, h5⟩, h6⟩ => ⟨⟨D, h1, h2, by rw [World.putObj_heap_other (fun e => by subst e; rw [hl] at h3; cases h3)]; exact h3, h4, h5⟩, h6.putObj hl⟩

theorem look_mem' {α : Type} : ∀ (l : List (Nat × α)) (k : Nat) (v : α), look k l = some v → (k, v) ∈ l
  | [], _, _, h => by simp [look] at h
  | (j, u) :: r, k, v, h => by
    simp only [look] at h
    cases hb : Nat.beq j k with
    | true => rw [hb] at h; have := Nat.eq_of_beq_eq_true hb; subst this; simp at h; subst h; exact List.mem_cons_self ..
    | false => rw [hb] at h; exact List.mem_cons_of_mem _ (look_mem' r k v h)

theorem defs_fresh : ∀ {ds : List Deferred} {D : Nat}, DefsOK n0 σ w ds → w.heap.size ≤ D → ∀ e ∈ ds, e.target ≠ .collected D
  | [], _, _, _, _, h => by cases h
  | d :: ds, D, ⟨⟨D', h1, _, h3, _⟩, h6⟩, hD, e, he => by
    rcases List.mem_cons.1 he with rfl | he
    · intro h
      rw [h1] at h
      simp only [Target.collected.injEq] at h
      have := (Array.getElem?_eq_some_iff.1 h3).1
      omega
    · exact defs_fresh h6 hD e he

theorem slots_pinned {ps : List Nat} {st : St} (h : slotsIn ps st = true) {k : Nat} {s : SV} (hk : look k st.sl = some s) : ps.any (Nat.beq k) = true :=
  List.all_eq_true.1 h (k, s) (look_mem' st.sl k s hk)

theorem slots_keep (ps : List Nat) (st : St) : slotsIn ps (keep ps st) = true := by
  have gen : ∀ l : List (Nat × SV), (pickS ps l).all (fun x => ps.any (Nat.beq x.1)) = true := by
    intro l
    induction l with
    | nil => rfl
    | cons x r ih =>
      obtain ⟨j, u⟩ := x
      cases h : ps.any (Nat.beq j) with
      | true => simp only [pickS, h, cond_true, List.all_cons, Bool.true_and]; exact ih
      | false => simp only [pickS, h, cond_false]; exact ih
  exact gen _

theorem iter_sound (hE : Env P T G) {rs : List ResultVar} {b : Frame} (hb : b.roundOf = none) {cs : List Frame} {m : Machine} {σ0 : Store P} {w0 : World} {ps : List Nat} {S : Nat → St} {p : Nat} {e : Ty} {L : Bool × List e.D} {assign body : Code} {k : List Item} {st : St}
    (hL : L.1 = true) (hpN : p < N) (hpp : ps.any (Nat.beq p) = false) (h0 : S 0 = st) (hst : slotsIn ps st = true) (hround : ∀ (i : Nat) (x : e.D), L.2[i]? = some x → Round ps G T N p assign body e x (S i) (S (i + 1)))
    (hr : Rest P T N n0 rs b cs m σ0 w0 (.iter e L [p] assign body k st)) : Rest P T N n0 rs b cs m σ0 w0 (.more k (S L.2.length)) := by
  obtain ⟨a, w, σ, H, f, ht, hR, hv, hs⟩ := hr
  obtain ⟨⟨v, v1, _, _, v4⟩, v5⟩ := hv
  have hve := RelV.one v1 v5
  obtain ⟨gf, caps, g1, g2, g3⟩ := v4 hL
  rw [hve] at g1
  obtain ⟨rec, hrec⟩ : ∃ rec : LoopState → Option Code → Loop, rec = fun st pe => { state := st, pending := pe, fn := b.fn, tmps := a.tmps, params := #[p], assign, body, defers := w.heap.size } := ⟨_, rfl⟩
  obtain ⟨w1, hw1⟩ : ∃ w1, (w.alloc (.deferred (some []))).alloc (.loop (rec .ready none)) = w1 := ⟨_, rfl⟩
  have hsz1 : w1.heap.size = w.heap.size + 2 := by rw [← hw1]; simp
  have hl1 : w1.heap[w.heap.size + 1]? = some (.loop (rec .ready none)) := by
    rw [← hw1]; have := allocNew (w.alloc (.deferred (some []))) (.loop (rec .ready none)); simpa using this
  have hD1 : w1.heap[w.heap.size]? = some (.deferred (some [])) := by
    rw [← hw1, allocOld _ _ _ (by simp)]; exact allocNew w _
  have hstep : Step σ w σ w1 := by rw [← hw1]; exact (step_alloc hR.holds _).tr (step_alloc (step_alloc hR.holds _).holds _)
  have hR1 := hR.step hstep
  have hsD : σ w.heap.size = none := holds_new hR.holds
  have hsl : σ (w.heap.size + 1) = none := by
    cases h : σ (w.heap.size + 1) with
    | none => rfl
    | some o => have := hR.holds _ _ h; have := (Array.getElem?_eq_some_iff.1 this).1; omega
  have hdef1 : DefsOK n0 σ w1 ([{ target := .collected w.heap.size, args := #[] }] ++ a.defers) := ⟨⟨w.heap.size, rfl, hR.base, hD1, hsD, defs_fresh hR.defers (Nat.le_refl _)⟩, hR1.defers⟩
  have hR1' : Rel (fun _ => True) N n0 σ H st { a with defers := [{ target := .collected w.heap.size, args := #[] }] ++ a.defers } w1 :=
    hR1.world hR1.holds hdef1 (Nat.le_refl _) (fun _ _ _ _ => rfl) hR1.size fun _ _ _ _ => rfl
  -- the loop is entered
  have hen : step P (lone (b.atR a (.code (.rangeFunc f #[p] assign body) :: k)) cs w) =
      .next (lone (Frame.enter P gf (#[.func (.yield (w.heap.size + 1)) #[] #[]] ++ caps) .normal) (b.atR { a with defers := [{ target := .collected w.heap.size, args := #[] }] ++ a.defers } (.inRangeFunc (w.heap.size + 1) :: k) :: cs) w1) := by
    obtain ⟨fn, q1, q2, q3⟩ := g2
    have q3' : fn.name ≠ "runtime.NumGoroutine" := by simpa using q3
    have q2' : fn.body ≠ none := by intro h; simp [h] at q2
    refine stepR_rangeFunc (w₁ := w1) (mark := [{ target := .collected w.heap.size, args := #[] }]) (w₁' := w1) (d := { target := .fn (.func gf) caps, args := #[.func (.yield (w.heap.size + 1)) #[] #[]] }) ?_ ?_ ?_
    · rw [hb, ← hw1, hrec]; exact run_enterLoop_outer _ _ _ _ _
    · simp only [resolve, g1]; simp [Deferred.ofValue, Act.eval]
    · simp [invoke, callFunc, q1, q2', q3']
  obtain ⟨I, hI⟩ : ∃ I : Nat → World → Prop, I = fun i w' => ∃ σ' H', Trans n0 σ w1 σ' w' ∧ Rel (fun _ => True) N n0 σ' H' (S i) { a with defers := [{ target := .collected w.heap.size, args := #[] }] ++ a.defers } w' ∧
      w'.heap[w.heap.size + 1]? = some (.loop (rec .ready none)) ∧ slotsIn ps (S i) = true := ⟨_, rfl⟩
  have hcall := g3 σ w1 (w.heap.size + 1) I (Store.le.refl σ)
    (fun i w' h => by
      rw [hI] at h
      obtain ⟨σ', H', t', _, _, _⟩ := h
      exact fun bb o hbb => t'.holds bb o (t'.le bb o hbb))
    (fun i w' w'' h hg => by
      rw [hI] at h ⊢
      obtain ⟨σ', H', t', R', hl, hsi⟩ := h
      have hst' : Step σ' w' σ' w'' := ⟨Store.le.refl σ', fun bb o hbb => by rw [hg.block bb (Array.getElem?_eq_some_iff.1 (t'.holds bb o hbb)).1]; exact t'.holds bb o hbb, fun _ _ h => .inl h, hg.size, hg.block, hg.os, hg.output, hg.tape⟩
      exact ⟨σ', H', t'.trans (hst'.trans' R'.base), R'.step hst', by rw [hg.block _ (Array.getElem?_eq_some_iff.1 hl).1]; exact hl, hsi⟩)
    (fun i x u w' hx h hu hag => by
      rw [hI] at h
      obtain ⟨σ', H', t', R', hl, hsi⟩ := h
      have hy := run_yield (P := P) (args := #[u]) hl (by rw [hrec]; rfl)
      obtain ⟨s1, s2, E1, E2, hS'⟩ := hround i x hx
      refine ⟨_, _, _, _, hy, fun c cs' => ?_⟩
      obtain ⟨b', hb'⟩ : ∃ b' : Frame, b' = { (default : Frame) with fn := b.fn, kind := .normal, roundOf := some (w.heap.size + 1) } := ⟨_, rfl⟩
      obtain ⟨ar, har⟩ : ∃ ar : Act, ar = { tmps := a.tmps.setIfInBounds p u, defers := [] } := ⟨_, rfl⟩
      have hfr : Frame.round (w.heap.size + 1) (rec .ready none).fn (((rec .ready none).params.zip #[u]).foldl (fun tmps x => tmps.setIfInBounds x.1 x.2) (rec .ready none).tmps) (rec .ready none).assign (rec .ready none).body .normal =
          b'.atR ar ([.code assign] ++ [.beginRound, .code body]) := by
        rw [hrec, hb', har]; simp [Frame.round, Frame.atR]
      have hsa : ∀ k, ps.any (Nat.beq k) = true → ar.tmps.getD k undef = a.tmps.getD k undef := by
        intro k hk
        have hne : ¬ p = k := fun e => by subst e; rw [hpp] at hk; cases hk
        rw [har]
        simp only [Array.getD_eq_getD_getElem?, Array.getElem?_setIfInBounds, if_neg hne]
      have Rr : Rel (fun _ => True) N n0 σ' H' ⟨ins p (.tv ⟨e, x⟩) (S i).sl, (S i).bx⟩ ar w' := by
        have hput := R'.put (d := some p) (v := u) (fun k hk => by simp at hk; omega) (s := .tv ⟨e, x⟩) ⟨hu.mono t'.le, hag⟩
        exact hput.world hput.holds (by rw [har]; exact trivial) (Nat.le_refl _) (fun _ _ _ _ => rfl) (by rw [har]; simp; exact R'.size) fun k s _ _ => by rw [har]; rfl
      have hpin : Pinned ps (fun k => a.tmps.getD k undef) ar := ⟨hsa, fun _ => by rw [har]⟩
      obtain ⟨a1, w2, σ1, H1, t1, R1, pin1, st1⟩ := ends_sound hE (K := [.beginRound, .code body]) E1 (b := b') (cs := c :: cs') (m := lone (b'.atR ar ([.code assign] ++ [.beginRound, .code body])) (c :: cs') w') (σ0 := σ') (w0 := w') (by rw [hb'])
        ⟨ar, w', σ', H', Trans.refl R'.holds, Rr, hpin, Steps.refl _ _⟩
      have hl2 := (t1.keepObj hl rfl).1
      have hs1l : σ1 (w.heap.size + 1) = none := (t1.keepObj hl rfl).2 ((t'.keepObj hl1 rfl).2 hsl)
      have hbg := run_beginRound (P := P) hl2 (by rw [hrec])
      obtain ⟨busy, hbusy⟩ : ∃ o : Loop, o = { rec .ready none with state := .busy } := ⟨_, rfl⟩
      rw [← hbusy] at hbg
      have st2 : Steps P (lone (b'.atR ar ([.code assign] ++ [.beginRound, .code body])) (c :: cs') w') (lone (b'.atR a1 ([.code body] ++ [])) (c :: cs') (w2.putObj (w.heap.size + 1) (.loop busy))) :=
        st1.trans (.one (stepR_beginRound (by rw [hb']) hbg))
      have R2 : Rel (fun _ => True) N n0 σ1 H1 s1 a1 (w2.putObj (w.heap.size + 1) (.loop busy)) :=
        R1.world (putObj_holds R1.holds hs1l) (R1.defers.putObj hl2) (by rw [putObj_size]; exact Nat.le_refl _) (putObj_cells hl2 rfl) R1.size fun _ _ _ _ => rfl
      obtain ⟨a2, w3, σ2, H2, t2, R3, pin2, st3⟩ := ends_sound hE (K := []) E2 (b := b') (cs := c :: cs') (m := lone (b'.atR a1 ([.code body] ++ [])) (c :: cs') (w2.putObj (w.heap.size + 1) (.loop busy))) (σ0 := σ1) (w0 := w2.putObj (w.heap.size + 1) (.loop busy)) (by rw [hb'])
        ⟨a1, _, σ1, H1, Trans.refl R2.holds, R2, pin1, Steps.refl _ _⟩
      have hlt2 : w.heap.size + 1 < w2.heap.size := (Array.getElem?_eq_some_iff.1 hl2).1
      have hl3 := t2.keepObj (World.putObj_heap_same hlt2) rfl
      have hend := run_endRound (P := P) none hl3.1
      have hback : ({ busy with state := if (none : Option Code).isNone then LoopState.ready else .done, pending := none } : Loop) = rec .ready none := by rw [hbusy, hrec]; rfl
      rw [hback] at hend
      have hs2l := hl3.2 hs1l
      have t3 : Trans n0 σ1 w2 σ2 (w3.putObj (w.heap.size + 1) (.loop (rec .ready none))) := trans_put hl2 rfl rfl hs2l t2
      have tall : Trans n0 σ w1 σ2 (w3.putObj (w.heap.size + 1) (.loop (rec .ready none))) := (t'.trans t1).trans t3
      refine ⟨w3.putObj (w.heap.size + 1) (.loop (rec .ready none)), ?_, ?_⟩
      · rw [hI]
        have hlt3 : w.heap.size + 1 < w3.heap.size := (Array.getElem?_eq_some_iff.1 hl3.1).1
        refine ⟨σ2, H2, tall, ?_, World.putObj_heap_same hlt3, by rw [hS']; exact slots_keep ps s2⟩
        rw [hS']
        refine (R3.keep (ks := ps)).world (putObj_holds R3.holds hs2l) (hdef1.trans tall) (by rw [putObj_size]; exact Nat.le_refl _) (putObj_cells hl3.1 rfl) R'.size fun k s hk _ => ?_
        exact (pin2.1 k (slots_pinned (slots_keep ps s2) hk)).symm
      · rw [hfr]
        have := stepR_round_end (P := P) (b := b') (a := a2) (c := c) (cs := cs') (by rw [hb']) (by rw [hb']) hend
        exact (st2.trans st3).trans (.one this))
    (by rw [hI]; exact ⟨σ, H, Trans.refl hstep.holds, by rw [h0]; exact hR1', hl1, by rw [h0]; exact hst⟩)
  obtain ⟨en, w2, fr, ⟨⟨u, hu⟩, hIn⟩, hcomes, hfn, hleave⟩ := hcall (b.atR { a with defers := [{ target := .collected w.heap.size, args := #[] }] ++ a.defers } (.inRangeFunc (w.heap.size + 1) :: k) :: cs)
  subst hu
  rw [hI] at hIn
  obtain ⟨σ2, H2, t2, R2, hl2, _⟩ := hIn
  have hel := run_endLoop (P := P) hl2 (by rw [hrec]; simp)
  have back := step_leave_returned (c := b.atR { a with defers := [{ target := .collected w.heap.size, args := #[] }] ++ a.defers } (.inRangeFunc (w.heap.size + 1) :: k)) (cs := cs) hleave
  rw [finish_atR_inRangeFunc] at back
  have back2 := stepR_endRangeFunc (P := P) (b := b) (a := { a with defers := [{ target := .collected w.heap.size, args := #[] }] ++ a.defers }) (k := k) (cs := cs) hel
  have hs2l : σ2 (w.heap.size + 1) = none := (t2.keepObj hl1 rfl).2 hsl
  obtain ⟨ex, hex⟩ : ∃ o : Loop, o = { rec .ready none with state := .exhausted } := ⟨_, rfl⟩
  rw [← hex] at back2
  have hpend : (rec .ready none).pending = none := by rw [hrec]
  rw [hpend] at back2
  have tw : Trans n0 σ w σ2 (w2.putObj (w.heap.size + 1) (.loop ex)) := by
    refine ⟨t2.le, putObj_holds t2.holds hs2l, fun bb o hbb => ?_, by rw [putObj_size]; have := t2.size; omega, fun bb hbb hc => ?_, t2.os.trans hstep.os, t2.output.trans hstep.output, t2.tape.trans hstep.tape⟩
    · rcases t2.news bb o hbb with h | h | ⟨h, o', h2, h3⟩
      · exact .inl h
      · exact .inr (.inl (by omega))
      · rcases Nat.lt_or_ge bb w.heap.size with hlt | hge
        · exact .inr (.inr ⟨h, o', by rw [← hstep.block bb hlt]; exact h2, h3⟩)
        · exact .inr (.inl hge)
    · rw [World.putObj_heap_other (by omega), t2.block bb (by omega) (by rw [hstep.block bb hbb]; exact hc), hstep.block bb hbb]
  refine ⟨{ a with defers := [{ target := .collected w.heap.size, args := #[] }] ++ a.defers }, _, σ2, H2, ht.trans tw, R2.world (putObj_holds R2.holds hs2l) ?_ (by rw [putObj_size]; exact Nat.le_refl _) (putObj_cells hl2 rfl) R2.size (fun _ _ _ _ => rfl), ?_⟩
  · refine ⟨⟨w.heap.size, rfl, hR.base, ?_, (t2.keepObj hD1 rfl).2 hsD, defs_fresh hR.defers (Nat.le_refl _)⟩, hR.defers.trans tw⟩
    rw [World.putObj_heap_other (by omega)]; exact (t2.keepObj hD1 rfl).1
  · rw [← Frame.atR_of_none hb]
    rw [← Frame.atR_of_none hb] at hs
    exact (hs.trans (.one hen)).trans ((show Steps P _ _ from hcomes).trans ((Steps.trans (.one back) (.one back2))))

theorem goes_sound (hE : Env P T G) {rs : List ResultVar} {L : Leaf} {r : SV} (h : Goes G T N rs L r) : ∀ {b : Frame} {cs : List Frame} {m : Machine} {σ0 : Store P} {w0 : World}, b.roundOf = none → Rest P T N n0 rs b cs m σ0 w0 L → Final P T N n0 rs b cs m σ0 w0 r := by
  have hfail : ∀ r, ¬ Goes G T N rs .fail r := by intro r h; cases h
  induction h with
  | ret v => intro b cs m σ0 w0 _ h; exact h
  | loop n ks body k st r hg ih =>
    intro b cs m σ0 w0 hb ⟨a, w, σ, H, ht, hR, hs⟩
    obtain ⟨L, ⟨_, hL⟩, hrest⟩ := run_reach (ks := ks) (Φ := fun L => Goes G T N rs L r ∧ ∀ {b : Frame} {cs : List Frame} {m : Machine} {σ0 : Store P} {w0 : World}, b.roundOf = none → Rest P T N n0 rs b cs m σ0 w0 L → Final P T N n0 rs b cs m σ0 w0 r)
      (fun h => hfail r h.1) hE n _ _ a w σ H ht hR hs ⟨hg, ih⟩
    exact hL hb hrest
  | more n ks todo st r hg ih =>
    intro b cs m σ0 w0 hb ⟨a, w, σ, H, ht, hR, hs⟩
    obtain ⟨L, ⟨_, hL⟩, hrest⟩ := run_reach (ks := ks) (Φ := fun L => Goes G T N rs L r ∧ ∀ {b : Frame} {cs : List Frame} {m : Machine} {σ0 : Store P} {w0 : World}, b.roundOf = none → Rest P T N n0 rs b cs m σ0 w0 L → Final P T N n0 rs b cs m σ0 w0 r)
      (fun h => hfail r h.1) hE n _ _ a w σ H ht hR hs ⟨hg, ih⟩
    exact hL hb hrest
  | iter ps S p e L assign body k st r h1 h2 h3 h4 h5 h6 hg ih =>
    intro b cs m σ0 w0 hb hr
    exact ih hb (iter_sound hE hb h1 h2 h3 h4 h5 h6 hr)

/-! results -/
def resRun (tmps : Array Value) : ResultVar → Sem Value
  | .tmp t => pure (tmps.getD t undef)
  | .cell a t => do loadVar t (← asAddr (tmps.getD a undef))

theorem results_eq (fn : Func) (tmps : Array Value) : results fn tmps = (do
    let vs ← fn.results.mapM (resRun tmps)
    pure (if h : vs.size = 1 then vs[0] else .tuple vs)) := by
  unfold results
  have : (fun (r : ResultVar) => (match r with | .tmp t => pure (tmps.getD t undef) | .cell a t => do loadVar t (← asAddr (tmps.getD a undef)) : Sem Value)) = resRun tmps := by
    funext r; cases r <;> rfl
  rw [← this]
  rfl

def Ret1 (σ : Store P) (w : World) (n0 : Nat) (H : Nat → Value) (st : St) (rv : ResultVar) (v : Value) : SV → Prop
  | .tv d => RelV σ d v
  | .own t l => ∃ b tm, rv = .tmp tm ∧ look tm st.sl = some (.ref b) ∧ look b st.bx = some (.vec t l) ∧ v = H b
  | _ => False

theorem ret_one (hE : Env P T G) {st : St} {a : Act} (h : Rel (fun _ => True) N n0 σ H st a w) {rv : ResultVar} {s : SV} (hr : retOne T st rv = some s) :
    ∃ v, (resRun a.tmps rv).run P w = .ok v w ∧ Ret1 σ w n0 H st rv v s := by
  cases rv with
  | tmp t =>
    simp only [retOne, Option.bind_eq_some_iff] at hr
    obtain ⟨sv, hsv, hr⟩ := hr
    have hs := h.slot t sv hsv trivial
    refine ⟨a.tmps.getD t undef, rfl, ?_⟩
    split at hr
    · rename_i b
      split at hr
      · rename_i e l hb
        simp at hr; subst hr
        obtain ⟨_, _, _, h2⟩ := hs
        exact ⟨b, t, rfl, hsv, hb, h2⟩
      · simp at hr
    · simp at hr; subst hr; exact hs
    · simp at hr
  | cell ad t =>
    simp only [retOne, Option.bind_eq_some_iff] at hr
    obtain ⟨ty, hty, sv, hsv, hr⟩ := hr
    have hs := h.slot ad sv hsv trivial
    split at hr
    · rename_i b
      split at hr
      · rename_i d hb
        simp only [Option.map_eq_some_iff] at hr
        obtain ⟨x, hx, rfl⟩ := hr
        have := TD.as_eq hx; subst this
        obtain ⟨d0, e, g, h1, h2, h3, h4⟩ := hs
        rw [hb] at h1; simp at h1; subst h1
        obtain ⟨g', cs, cty, k1, k2, k3, _⟩ := h.box b _ hb
        rw [h3] at k1; simp at k1; subst k1
        have hat : At w ⟨g, 0, none⟩ cs.toList := at_row k2 (p := []) (r := []) (by simp) rfl
        obtain ⟨v, hv1, hv2⟩ := run_loadAt (P := P) (σ := σ) (hE.types _ _ hty) hat k3
        have hv1' : (loadVar t ⟨g, 0, none⟩).run P w = .ok v w := by simpa [Instr.loadAt, Instr.sureAddr] using hv1
        refine ⟨v, ?_, hv2⟩
        have h4' : a.tmps.getD ad undef = .pointer (some ⟨g, 0, none⟩) := by rw [h4]; rfl
        show (do loadVar t (← asAddr (a.tmps.getD ad undef)) : Sem Value).run P w = _
        rw [h4']
        simp only [Sem.run_bind, asAddr, Sem.run_pure, Result.andThen_ok, hv1']
      · simp at hr
    · simp at hr

theorem ret_all (hE : Env P T G) {st : St} {a : Act} (h : Rel (fun _ => True) N n0 σ H st a w) : ∀ {rs : List ResultVar} {l : List SV}, mapO (retOne T st) rs = some l →
    ∃ vs : List Value, (rs.mapM (resRun a.tmps)).run P w = .ok vs w ∧ vs.length = l.length ∧ ∀ (i : Nat) (s : SV) (u : Value), l[i]? = some s → vs[i]? = some u → ∃ rv, rs[i]? = some rv ∧ Ret1 σ w n0 H st rv u s
  | [], l, hm => by
    simp [mapO] at hm; subst hm
    exact ⟨[], by simp, rfl, fun i s u hs => by simp at hs⟩
  | rv :: rs, l, hm => by
    simp only [mapO, Option.bind_eq_some_iff] at hm
    obtain ⟨s, hs, l', hl', hm⟩ := hm
    simp at hm; subst hm
    obtain ⟨v, h1, h2⟩ := ret_one hE h hs
    obtain ⟨vs, g1, g2, g3⟩ := ret_all hE h hl'
    refine ⟨v :: vs, by simp [List.mapM_cons, h1, g1], by simp [g2], fun i s' u hs' hu => ?_⟩
    cases i with
    | zero => simp at hs' hu; subst hs'; subst hu; exact ⟨rv, rfl, h2⟩
    | succ i => simpa using g3 i s' u (by simpa using hs') (by simpa using hu)

theorem retBoxes_inj {st : St} : ∀ {rs : List ResultVar}, (retBoxes st rs).Nodup → ∀ (i j : Nat) (t t' b : Nat), rs[i]? = some (.tmp t) → rs[j]? = some (.tmp t') → look t st.sl = some (.ref b) → look t' st.sl = some (.ref b) → i = j
  | [], _, _, _, _, _, _, h, _, _, _ => by simp at h
  | rv :: rs, hn, i, j, t, t', b, hi, hj, ht, ht' => by
    have mem : ∀ (k tm : Nat), rs[k]? = some (.tmp tm) → look tm st.sl = some (.ref b) → b ∈ retBoxes st rs := by
      clear hn hi hj ht ht'
      induction rs with
      | nil => intro k tm h; simp at h
      | cons r0 rs ih =>
        intro k tm hk hl
        cases k with
        | zero => simp at hk; subst hk; simp [retBoxes, hl]
        | succ k =>
          have := ih k tm (by simpa using hk) hl
          cases r0 with
          | tmp t0 =>
            simp only [retBoxes]
            split
            · exact List.mem_cons_of_mem _ this
            · exact this
          | cell _ _ => simpa [retBoxes] using this
    have tl : (retBoxes st rs).Nodup := by
      cases rv with
      | tmp t0 =>
        simp only [retBoxes] at hn
        split at hn
        · exact (List.nodup_cons.1 hn).2
        · exact hn
      | cell _ _ => simpa [retBoxes] using hn
    cases i with
    | zero =>
      simp at hi; subst hi
      cases j with
      | zero => rfl
      | succ j =>
        simp only [retBoxes, ht] at hn
        exact ((List.nodup_cons.1 hn).1 (mem j t' (by simpa using hj) ht')).elim
    | succ i =>
      cases j with
      | zero =>
        simp at hj; subst hj
        simp only [retBoxes, ht'] at hn
        exact ((List.nodup_cons.1 hn).1 (mem i t (by simpa using hi) ht)).elim
      | succ j => exact congrArg (· + 1) (retBoxes_inj tl i j t t' b (by simpa using hi) (by simpa using hj) ht ht')

theorem run_results (hE : Env P T G) {fn : Func} {st : St} {a : Act} (h : Rel (fun _ => True) N n0 σ H st a w) {r : SV} (hr : retOf T fn.results.toList st = some r) :
    ∃ v, (results fn a.tmps).run P w = .ok v w ∧ RetR σ w n0 r v := by
  rw [results_eq]
  have key : ∀ (l : List SV), mapO (retOne T st) fn.results.toList = some l → ∃ vs : List Value, (fn.results.mapM (resRun a.tmps)).run P w = .ok vs.toArray w ∧ vs.length = l.length ∧
      ∀ (i : Nat) (s : SV) (u : Value), l[i]? = some s → vs[i]? = some u → ∃ rv, fn.results.toList[i]? = some rv ∧ Ret1 σ w n0 H st rv u s := by
    intro l hl
    obtain ⟨vs, h1, h2, h3⟩ := ret_all hE h hl
    exact ⟨vs, by rw [Array.mapM_eq_mapM_toList]; simp [h1], h2, h3⟩
  unfold retOf at hr
  split at hr
  · rename_i rv hrs
    obtain ⟨vs, h1, h2, h3⟩ := key [r] (by rw [hrs]; simp [mapO, hr])
    match vs, h2 with
    | [v], _ =>
      obtain ⟨rv', hrv, h4⟩ := h3 0 r v rfl rfl
      refine ⟨v, by simp [h1], ?_⟩
      cases r with
      | tv d => exact h4
      | own t l => obtain ⟨b, tm, _, _, hb, hv⟩ := h4; rw [hv]; exact h.box b _ hb
      | _ => exact h4.elim
  · rename_i hne
    obtain ⟨hdis, hr⟩ := cond_none hr
    simp only [Option.map_eq_some_iff] at hr
    obtain ⟨l, hl, rfl⟩ := hr
    obtain ⟨vs, h1, h2, h3⟩ := key l hl
    have hlen := (mapO_spec hl).1
    have hsz : ¬ vs.length = 1 := by
      intro e
      rw [h2, hlen] at e
      match hq : fn.results.toList, e with
      | [x], _ => exact hne x hq
    refine ⟨.tuple vs.toArray, by simp [h1, hsz], vs.toArray, rfl, by simp [h2], fun i s u hs hu => ?_, fun i j t t' m m' u u' g hi hj hu hu' hne' hg => ?_⟩
    · obtain ⟨rv, hrv, h4⟩ := h3 i s u hs (by simpa using hu)
      cases s with
      | tv d => exact h4
      | own t l => obtain ⟨b, tm, _, _, hb, hv⟩ := h4; rw [hv]; exact h.box b _ hb
      | _ => exact h4.elim
    · obtain ⟨rv, hrv, b, tm, e1, e2, e3, e4⟩ := h3 i _ u hi (by simpa using hu)
      obtain ⟨rv', hrv', b', tm', e1', e2', e3', e4'⟩ := h3 j _ u' hj (by simpa using hu')
      subst e1; subst e1'
      have hbb : b ≠ b' := fun e => by
        subst e
        exact hne' (retBoxes_inj (distinctB_spec hdis) i j tm tm' b hrv hrv' e2 e2')
      rw [e4] at hg
      rw [e4']
      exact h.apart b b' _ _ g e3 e3' hbb hg

/-! the call -/
theorem look_entry : ∀ (l : List TD) (i k : Nat), look k (entry.go i l) = if i ≤ k then (l[k - i]?).map SV.tv else none
  | [], i, k => by simp [entry.go, look]
  | d :: l, i, k => by
    simp only [entry.go, look]
    by_cases e : i = k
    · subst e; simp
    · simp only [beq_false e, cond_false, look_entry l (i + 1) k]
      by_cases h : i ≤ k
      · have h1 : i + 1 ≤ k := by omega
        rw [if_pos h, if_pos h1, show k - i = (k - (i + 1)) + 1 by omega]
        simp
      · rw [if_neg h, if_neg (by omega)]

/-- a frame on its way out takes the marks of its loops -/
theorem leave_marks {σ : Store P} {n0 : Nat} : ∀ (ds : List Deferred) (w : World) (fr : Frame) (cs : List Frame), fr.mode = .returning → fr.defers = ds → Holds w σ → DefsOK n0 σ w ds →
    ∃ w2, Steps P (lone fr cs w) (lone { fr with defers := [] } cs w2) ∧ Holds w2 σ ∧ w2.heap.size = w.heap.size ∧ (∀ g, g < n0 → w2.heap[g]? = w.heap[g]?) ∧
      (∀ (g : Nat) (o : Obj), w.heap[g]? = some o → noCells o = false → w2.heap[g]? = w.heap[g]?) ∧ w2.os = w.os ∧ w2.output = w.output ∧ w2.tape = w.tape
  | [], w, fr, cs, hm, hd, hh, _ => ⟨w, by rw [show ({ fr with defers := [] } : Frame) = fr by cases fr; simp_all]; exact Steps.refl _ _, hh, rfl, fun _ _ => rfl, fun _ _ _ _ => rfl, rfl, rfl, rfl⟩
  | d :: ds, w, fr, cs, hm, hd, hh, ⟨⟨D, h1, h2, h3, h4, h5⟩, h6⟩ => by
    have hst := step_collected (P := P) (fr := fr) (cs := cs) (by rw [hm]; simp) hd (by rw [h1]) (run_takeDeferred h3)
    have hD' : DefsOK n0 σ (w.putObj D (.deferred none)) ds := by
      clear hst hd
      induction ds with
      | nil => trivial
      | cons e ds ih =>
        obtain ⟨⟨D', k1, k2, k3, k4, k5⟩, k6⟩ := h6
        refine ⟨⟨D', k1, k2, ?_, k4, k5⟩, ih (fun e he => h5 e (.tail _ he)) k6⟩
        rw [World.putObj_heap_other (fun eq => by subst eq; exact h5 e (.head _) (by rw [k1]))]
        exact k3
    obtain ⟨w2, s2, a1, a2, a3, a4, a5, a6, a7⟩ := leave_marks ds (w.putObj D (.deferred none)) { fr with defers := [] ++ ds } cs hm rfl (putObj_holds hh h4) hD'
    refine ⟨w2, Steps.trans (.one hst) s2, a1, by rw [a2, putObj_size], fun g hg => ?_, fun g o hg ho => ?_, a5, a6, a7⟩
    · rw [a3 g hg, World.putObj_heap_other (by omega)]
    · have e := putObj_cells (o' := .deferred none) h3 rfl g o hg ho
      rw [a4 g o (e.trans hg) ho, e]

theorem calls_of_goes (hE : Env P T G) {f : Nat} {fn : Func} {c : Code} (hf : P.funcs[f]? = some fn) (hb : fn.body = some c) {tds : List TD} (hlen : tds.length ≤ fn.ntmps) {r : SV}
    (hg : Goes G T fn.ntmps fn.results.toList (.more [.code c] (entry tds)) r) {vs : Array Value} (hh : Holds w σ) (hargs : ArgsR σ tds vs) :
    Calls P f vs w fun e w' => ∃ v σ', e = .returned v ∧ Step σ w σ' w' ∧ RetR σ' w' w.heap.size r v := by
  intro cs
  let b : Frame := { (default : Frame) with fn := f, kind := .normal }
  have henter : Frame.enter P f vs .normal = b.at { tmps := vs ++ Array.replicate (fn.ntmps - vs.size) undef, defers := [] } [.code c] := by
    simp [Frame.enter, Frame.at, hf, hb, b]
  have hR : Rel (fun _ => True) fn.ntmps w.heap.size σ (fun _ => undef) (entry tds) { tmps := vs ++ Array.replicate (fn.ntmps - vs.size) undef, defers := [] } w := by
    refine ⟨hh, by simp; have := hargs.1; omega, trivial, Nat.le_refl _, fun k b hk => by simp [entry, look] at hk, fun k k' b b' g hk => by simp [entry, look] at hk, fun k s hk _ => ?_⟩
    simp only [entry] at hk
    rw [look_entry] at hk
    simp only [Nat.zero_le, if_true, Nat.sub_zero, Option.map_eq_some_iff] at hk
    obtain ⟨d, hd, rfl⟩ := hk
    have hlt : k < vs.size := by rw [hargs.1]; exact (List.getElem?_eq_some_iff.1 hd).1
    have hv : vs[k]? = some vs[k] := by simp [hlt]
    have := hargs.2 k d vs[k] hd hv
    have e : (vs ++ Array.replicate (fn.ntmps - vs.size) undef).getD k undef = vs[k] := by
      simp [Array.getD_eq_getD_getElem?, Array.getElem?_append, hlt]
    rw [e]; exact this
  have hfin := goes_sound hE hg (b := b) (cs := cs) (m := lone (Frame.enter P f vs .normal) cs w) (σ0 := σ) (w0 := w) (n0 := w.heap.size) rfl
    ⟨_, w, σ, _, Trans.refl hh, hR, by rw [henter]; exact Steps.refl _ _⟩
  obtain ⟨a, w', σ', H, st, todo, hret, htr, hrel, hs⟩ := hfin
  obtain ⟨w2, l1, l2, l3, l4, l5, l6, l7, l8⟩ := leave_marks a.defers w' { b.at a todo with mode := .returning } cs rfl rfl hrel.holds hrel.defers
  have hrel2 : Rel (fun _ => True) fn.ntmps w.heap.size σ' H st { tmps := a.tmps, defers := [] } w2 := hrel.world l2 trivial (by rw [l3]; exact Nat.le_refl _) l5 hrel.size fun _ _ _ _ => rfl
  obtain ⟨v, hv1, hv2⟩ := run_results hE hrel2 hret
  have hst := htr.step
  refine ⟨.returned v, w2, _, ⟨v, σ', rfl, ⟨hst.le, l2, hst.news, by rw [l3]; exact hst.size, fun g hg => (l4 g hg).trans (hst.block g hg), l6.trans hst.os, l7.trans hst.output, l8.trans hst.tape⟩, hv2⟩, hs.trans l1, rfl, rfl, rfl, rfl, fn, hf, hv1⟩

end

/-! one function more -/
def Tbl.add (G : Tbl) (f : Nat) (F : List TD → Option (Bool × SV)) : Tbl := ⟨fun g tds => bif Nat.beq g f then F tds else G.c g tds, G.s, G.m, G.o⟩

def Tbl.none : Tbl := ⟨fun _ _ => Option.none, fun _ _ => Option.none, fun _ => false, fun _ => Option.none⟩

theorem Env.start {P : Program} {T : Nat → Option Ty} (hT : ∀ ty t, T ty = some t → chk P t ty = true) (hm : P.follows .mixedOrders = true) : Env P T Tbl.none :=
  ⟨hT, fun f tds r h => by simp [Tbl.none] at h, fun f tds r h => by simp [Tbl.none] at h, fun f tds r h => by simp [Tbl.none] at h, hm, fun f oc h => by simp [Tbl.none] at h, fun t h => by simp [Tbl.none] at h⟩

theorem Env.add {P : Program} {T : Nat → Option Ty} {G : Tbl} (hE : Env P T G) {f : Nat} {fn : Func} {c : Code} (hf : P.funcs[f]? = some fn) (hb : fn.body = some c) (hn : (fn.name == "runtime.NumGoroutine") = false)
    {F : List TD → Option (Bool × SV)} (h : ∀ tds r, F tds = some (true, r) → tds.length ≤ fn.ntmps ∧ Goes G T fn.ntmps fn.results.toList (.more [.code c] (entry tds)) r) : Env P T (G.add f F) := by
  refine ⟨hE.types, fun g tds r hg => ?_, fun g tds r hg => ?_, hE.seqs, hE.mixed, hE.owns, hE.maps⟩
  · simp only [Tbl.add] at hg
    cases hb' : Nat.beq g f with
    | true => have := Nat.eq_of_beq_eq_true hb'; subst this; exact ⟨fn, hf, by simp [hb], hn⟩
    | false => rw [hb'] at hg; exact hE.fns g tds r hg
  · simp only [Tbl.add] at hg
    cases hb' : Nat.beq g f with
    | true =>
      rw [hb'] at hg
      have := Nat.eq_of_beq_eq_true hb'; subst this
      obtain ⟨h1, h2⟩ := h tds r hg
      intro σ w vs hh hargs
      exact calls_of_goes hE hf hb h1 h2 hh hargs
    | false => rw [hb'] at hg; exact hE.good g tds r hg

end Go.Lift
set_option linter.unusedSimpArgs false
set_option linter.unusedVariables false
namespace Go.Lift
open Go.ChangeShapes Go.WideShapes Go.RowKit

/-! From what the statement reads to typed data -/
/-- no pointers, no functions -/
def Ty.plain : Ty → Bool
  | .slice e => e.plain
  | .cons a b => a.plain && b.plain
  | .ptr _ | .fn _ _ | .seq _ => false
  | _ => true

def Wf : (t : Ty) → t.D → Prop
  | .int k, n => (Lit.int k n).wf = true
  | .str, s => s.size ≤ maxLen
  | .slice e, l => List.length l ≤ maxLen ∧ ∀ (i : Nat) (h : i < List.length l), Wf e (l[i])
  | .cons a b, x => Wf a x.1 ∧ Wf b x.2
  | .bool, _ => True
  | .nil, _ => True
  | .ptr _, _ | .fn _ _, _ | .seq _, _ => True

section
variable {H : Type} {enc : TypeId × Value → H} {P : Program} {w : World}

theorem cellsOf_chk {t : Ty} {ty : Nat} (h : chk P t ty = true) : P.cellsOf ty = t.size := by
  obtain ⟨i, z, h1, h2, _⟩ := infoOK_spec (chk_info h)
  simp [Program.cellsOf, h1, h2]

def MainP (H : Type) (enc : TypeId × Value → H) (P : Program) (w : World) (t : Ty) : Prop :=
  ∀ (fuel ty : Nat) (cs : List Value) (r : DataW H × List MemPlace), chk P t ty = true → DataW.trod enc P w 0 (fun _ => true) true fuel ty cs = some r → t.plain = true → ∃ x : t.D, Enc (heapS (P := P) w) t x cs ∧ Wf t x
def FieldsP (H : Type) (enc : TypeId × Value → H) (P : Program) (w : World) (t : Ty) : Prop :=
  ∀ (fuel : Nat) (fs : List Field) (off : Nat) (cs : List Value) (xs : List (DataW H × List MemPlace)), chkF P t fs off = true →
    (fs.mapM fun f => DataW.trod enc P w 0 (fun _ => true) true fuel f.type ((cs.drop f.offset).take (P.cellsOf f.type))) = some xs → cs.length = off + t.size → t.plain = true → ∃ x : t.D, Enc (heapS (P := P) w) t x (cs.drop off) ∧ Wf t x
def ArrP (H : Type) (enc : TypeId × Value → H) (P : Program) (w : World) (t : Ty) : Prop :=
  ∀ (fuel et n k : Nat) (cs : List Value) (xs : List (DataW H × List MemPlace)), chkA P t et n = true →
    ((List.range' k n).mapM fun i => DataW.trod enc P w 0 (fun _ => true) true fuel et ((cs.drop (i * P.cellsOf et)).take (P.cellsOf et))) = some xs → cs.length = k * P.cellsOf et + t.size → t.plain = true → ∃ x : t.D, Enc (heapS (P := P) w) t x (cs.drop (k * P.cellsOf et)) ∧ Wf t x

theorem lies_cells {a : Addr} {n : Nat} {cs : List Value} (h : w.cells? 0 a n = some cs) : cs.length = n ∧ Lies (heapS (P := P) w) a cs := by
  obtain ⟨_, h2, h3⟩ := World.cells?_some h
  refine ⟨h2, lies_heapS fun j v hv => ?_⟩
  have hj : j < n := by rw [← h2]; exact (List.getElem?_eq_some_iff.1 hv).1
  rw [h3 j hj, hv]

theorem choose_list {α : Type} {n : Nat} {p : Nat → α → Prop} (h : ∀ i, i < n → ∃ x, p i x) : ∃ l : List α, l.length = n ∧ ∀ (i : Nat) (hi : i < l.length), p i l[i] := by
  induction n with
  | zero => exact ⟨[], rfl, fun i hi => by simp at hi⟩
  | succ n ih =>
    obtain ⟨l, h1, h2⟩ := ih fun i hi => h i (Nat.lt_succ_of_lt hi)
    obtain ⟨x, hx⟩ := h n (Nat.lt_succ_self n)
    refine ⟨l ++ [x], by simp [h1], fun i hi => ?_⟩
    by_cases e : i < l.length
    · rw [List.getElem_append_left e]; exact h2 i e
    · have : i = n := by simp at hi; omega
      subst this
      rw [List.getElem_append_right (by omega)]
      simpa [h1] using hx

theorem enc_of_trod_all (t : Ty) : MainP H enc P w t ∧ FieldsP H enc P w t ∧ ArrP H enc P w t := by
  induction t with
  | int k =>
    refine ⟨fun fuel ty cs r hc h hpl => ?_, fun fuel fs off cs xs hc => by simp [chkF] at hc, fun fuel et n k cs xs hc => by simp [chkA] at hc⟩
    have hu := chk_int hc
    cases fuel with
    | zero => simp [DataW.trod] at h
    | succ fuel =>
      unfold DataW.trod at h
      rw [hu] at h
      split at h <;> first | (simp at h; done) | (rename_i h1; simp at h1; done) | skip
      rename_i k' n h1
      simp at h1
      subst h1
      split at h
      · rename_i hk
        obtain ⟨rfl, hwf⟩ := hk
        exact ⟨_, rfl, hwf⟩
      · simp at h
  | bool =>
    refine ⟨fun fuel ty cs r hc h hpl => ?_, fun fuel fs off cs xs hc => by simp [chkF] at hc, fun fuel et n k cs xs hc => by simp [chkA] at hc⟩
    have hu := chk_bool hc
    cases fuel with
    | zero => simp [DataW.trod] at h
    | succ fuel =>
      unfold DataW.trod at h
      rw [hu] at h
      split at h <;> first | (simp at h; done) | (rename_i h1; simp at h1; done) | skip
      all_goals exact ⟨(_ : Bool), rfl, trivial⟩
  | str =>
    refine ⟨fun fuel ty cs r hc h hpl => ?_, fun fuel fs off cs xs hc => by simp [chkF] at hc, fun fuel et n k cs xs hc => by simp [chkA] at hc⟩
    have hu := chk_str hc
    cases fuel with
    | zero => simp [DataW.trod] at h
    | succ fuel =>
      unfold DataW.trod at h
      rw [hu] at h
      split at h <;> simp_all
      exact ⟨_, rfl, h.1⟩
  | slice e ih =>
    refine ⟨fun fuel ty cs r hc h hpl => ?_, fun fuel fs off cs xs hc => by simp [chkF] at hc, fun fuel et n k cs xs hc => by simp [chkA] at hc⟩
    obtain ⟨et, hu, hce, hpos⟩ := chk_slice hc
    rcases Go.Deep.open_slice hu h with ⟨rfl, _⟩ | ⟨a, len, cap, m, n, D, Pl, rfl, _, hl, hm, hmm, _, hx⟩
    · exact ⟨[], ⟨none, 0, rfl, by simp, fun _ => rfl, fun i hi => by simp at hi⟩, by simp, fun i hi => by simp at hi⟩
    · simp at hmm
      subst hmm
      have hce' := cellsOf_chk hce
      have hall : ∀ i, i < len → ∃ x : e.D, Wf e x ∧ ∃ c, c.length = e.size ∧ Lies (heapS (P := P) w) (a.add (i * e.size)) c ∧ Enc (heapS (P := P) w) e x c := by
        intro i hi
        obtain ⟨cs', h1, h2⟩ := hx i (by omega)
        obtain ⟨x, g1, g2⟩ := ih.1 n et cs' _ hce h2 hpl
        rw [hce'] at h1
        obtain ⟨g3, g4⟩ := lies_cells h1
        exact ⟨x, g2, cs', g3, g4, g1⟩
      obtain ⟨l, hlen, hl2⟩ := choose_list hall
      refine ⟨l, ⟨some a, m, by rw [hlen], by omega, by simp, fun i hi => ?_⟩, by omega, fun i hi => (hl2 i hi).1⟩
      obtain ⟨_, c, g1, g2, g3⟩ := hl2 i hi
      exact ⟨a, c, rfl, g1, g2, g3⟩
  | nil =>
    refine ⟨fun fuel ty cs r hc h hpl => ?_, fun fuel fs off cs xs hc h hl _ => ?_, fun fuel et n k cs xs hc h hl _ => ?_⟩
    · have hce := cellsOf_chk hc
      simp only [chk, Bool.and_eq_true] at hc
      have hc2 := hc.2
      split at hc2
      · rename_i fs hu
        cases fuel with
        | zero => simp [DataW.trod] at h
        | succ fuel =>
          unfold DataW.trod at h
          rw [hu] at h
          simp only at h
          split at h
          · rename_i hlen
            rw [hce] at hlen
            exact ⟨(), by simpa [Enc, Ty.size] using hlen, trivial⟩
          · simp at h
      · simp at hc2
    · exact ⟨(), by simp [Enc, Ty.size] at hl ⊢; omega, trivial⟩
    · exact ⟨(), by simp [Enc, Ty.size] at hl ⊢; omega, trivial⟩
  | cons a b iha ihb =>
    have hF : FieldsP H enc P w (.cons a b) := by
      intro fuel fs off cs xs hc h hl hpl
      simp only [Ty.plain, Bool.and_eq_true] at hpl
      simp only [chkF] at hc
      cases fs with
      | nil => simp at hc
      | cons f r =>
        simp only [Bool.and_eq_true, decide_eq_true_eq] at hc
        simp only [List.mapM_cons, Option.bind_eq_bind, Option.bind_eq_some_iff, Option.pure_def, Option.some.injEq] at h
        obtain ⟨y, hy, ys, hys, _⟩ := h
        have hsz := cellsOf_chk hc.1.2
        simp only [Ty.size] at hl
        rw [hc.1.1.1, hsz] at hy
        obtain ⟨x, g1, g2⟩ := iha.1 _ _ _ _ hc.1.2 hy hpl.1
        obtain ⟨z, g3, g4⟩ := ihb.2.1 _ _ _ cs _ hc.2 hys (by omega) hpl.2
        refine ⟨(x, z), ⟨_, _, ?_, g1, g3⟩, g2, g4⟩
        rw [← List.drop_drop, List.take_append_drop]
    have hA : ArrP H enc P w (.cons a b) := by
      intro fuel et n k cs xs hc h hl hpl
      simp only [Ty.plain, Bool.and_eq_true] at hpl
      simp only [chkA, Bool.and_eq_true, decide_eq_true_eq] at hc
      obtain ⟨n, rfl⟩ : ∃ m, n = m + 1 := ⟨n - 1, by omega⟩
      simp only [List.range'_succ, List.mapM_cons, Option.bind_eq_bind, Option.bind_eq_some_iff, Option.pure_def, Option.some.injEq] at h
      obtain ⟨y, hy, ys, hys, _⟩ := h
      have hsz := cellsOf_chk hc.1.2
      simp only [Ty.size] at hl
      obtain ⟨x, g1, g2⟩ := iha.1 _ _ _ _ hc.1.2 hy hpl.1
      obtain ⟨z, g3, g4⟩ := ihb.2.2 _ _ _ (k + 1) cs _ (by simpa using hc.2) (by simpa using hys) (by rw [hl, hsz, Nat.succ_mul]; omega) hpl.2
      refine ⟨(x, z), ⟨_, _, ?_, g1, g3⟩, g2, g4⟩
      rw [show (k + 1) * P.cellsOf et = k * P.cellsOf et + P.cellsOf et by rw [Nat.succ_mul], ← List.drop_drop, List.take_append_drop]
    refine ⟨fun fuel ty cs r hc h hpl => ?_, hF, hA⟩
    have hsz := cellsOf_chk hc
    cases fuel with
    | zero => simp [DataW.trod] at h
    | succ fuel =>
      rcases chk_cons hc with ⟨fs, hu, _, hcF, _⟩ | ⟨n, et, hu, ha, _⟩
      · unfold DataW.trod at h
        rw [hu] at h
        simp only at h
        split at h
        · rename_i hlen
          simp only [Option.map_eq_some_iff] at h
          obtain ⟨xs, hxs, _⟩ := h
          have := hF fuel fs.toList 0 cs xs hcF hxs (by rw [hlen, hsz]; omega) hpl
          simpa using this
        · simp at h
      · subst ha
        simp only [chk, hu, Bool.and_eq_true] at hc
        have hcA := hc.2
        unfold DataW.trod at h
        rw [hu] at h
        simp only at h
        split at h
        · rename_i hlen
          simp only [Option.map_eq_some_iff] at h
          obtain ⟨xs, hxs, _⟩ := h
          rw [List.range_eq_range'] at hxs
          have := ihb.2.2 fuel et n 0 cs xs hcA hxs (by rw [hlen, hsz]; simp [Ty.size]) (by simp only [Ty.plain, Bool.and_eq_true] at hpl; exact hpl.2)
          obtain ⟨z, g1, g2⟩ := this
          exact ⟨((), z), ⟨[], cs, rfl, rfl, by simpa using g1⟩, trivial, g2⟩
        · simp at h
  | ptr e ih =>
    refine ⟨fun fuel ty cs r hc h hpl => ?_, fun fuel fs off cs xs hc => ?_, fun fuel et n k cs xs hc => ?_⟩
    · cases hpl
    · simp [chkF] at hc
    · simp [chkA] at hc
  | fn a r iha ihb =>
    refine ⟨fun fuel ty cs r hc h hpl => ?_, fun fuel fs off cs xs hc => ?_, fun fuel et n k cs xs hc => ?_⟩
    · cases hpl
    · simp [chkF] at hc
    · simp [chkA] at hc
  | seq e ih =>
    refine ⟨fun fuel ty cs r hc h hpl => ?_, fun fuel fs off cs xs hc => ?_, fun fuel et n k cs xs hc => ?_⟩
    · cases hpl
    · simp [chkF] at hc
    · simp [chkA] at hc


theorem enc_of_trod {t : Ty} {ty fuel : Nat} {cs : List Value} {r : DataW H × List MemPlace} (hc : chk P t ty = true) (h : DataW.trod enc P w 0 (fun _ => true) true fuel ty cs = some r) (hp : t.plain = true) : ∃ x : t.D, Enc (heapS (P := P) w) t x cs ∧ Wf t x :=
  (enc_of_trod_all t).1 _ _ _ _ hc h hp

theorem isAgg_okWide {base : Nat} {t : Ty} {ty : Nat} {v : Value} (hc : chk P t ty = true) (h : Value.okWide P w .any base ty v) (hp : t.plain = true) : isAggV v = t.isAgg := by
  cases t with
  | ptr e => cases hp
  | fn a r => cases hp
  | seq e => cases hp
  | int k => obtain ⟨n, rfl⟩ := okWide_int (chk_int hc) h; rfl
  | bool => obtain ⟨n, rfl⟩ := okWide_bool (chk_bool hc) h; rfl
  | str => obtain ⟨n, rfl⟩ := okWide_string (chk_str hc) h; rfl
  | slice e => obtain ⟨et, hu, _⟩ := chk_slice hc; obtain ⟨a, l, c, rfl⟩ := okWide_slice hu h; rfl
  | nil =>
    simp only [chk, Bool.and_eq_true] at hc
    have hc2 := hc.2
    split at hc2
    · rename_i fs hu
      unfold Value.okWide at h
      rw [hu] at h
      obtain ⟨cs, rfl, _⟩ := h
      rfl
    · simp at hc2
  | cons a b =>
    rcases chk_cons hc with ⟨fs, hu, _⟩ | ⟨n, et, hu, _⟩ <;>
    · unfold Value.okWide at h
      rw [hu] at h
      obtain ⟨cs, rfl, _⟩ := h
      rfl

/-- all arguments -/
theorem args_of_trodAll {base : Nat} {T : Nat → Option Ty} (hT : ∀ ty t, T ty = some t → chk P t ty = true) : ∀ (tys : List TypeId) (ts : List Ty) (vs : List Value) (ds : List (DataW H)) (ps : List MemPlace), mapO T tys = some ts → (ts.all Ty.plain) = true →
    DataW.TrodAll enc P w 0 (fun _ => true) true tys vs ds ps → (∀ (j : Nat) t v, tys[j]? = some t → vs[j]? = some v → Value.okWide P w .any base t v) →
    ∃ tds : List TD, tds.map TD.t = ts ∧ vs.length = tds.length ∧ (∀ (i : Nat) (d : TD) (v : Value), tds[i]? = some d → vs[i]? = some v → RelV (heapS (P := P) w) d v) ∧ ∀ d ∈ tds, Wf d.t d.x
  | [], ts, vs, ds, ps, hm, _, h, _ => by
    simp [mapO] at hm; subst hm
    match vs, ds, h with
    | [], [], _ => exact ⟨[], rfl, rfl, fun i d v hd => by simp at hd, fun d hd => by simp at hd⟩
  | ty :: tys, ts, vs, ds, ps, hm, hpl, h, hok => by
    simp only [mapO, Option.bind_eq_some_iff] at hm
    obtain ⟨t, ht, ts', hts', hm⟩ := hm
    simp at hm; subst hm
    simp only [List.all_cons, Bool.and_eq_true] at hpl
    obtain ⟨v, vs', d, ds', p, q, rfl, rfl, rfl, ⟨fuel, h1⟩, h2⟩ := trodAll_cons h
    obtain ⟨tds, g1, g2, g3, g4⟩ := args_of_trodAll hT tys ts' vs' ds' q hts' hpl.2 h2 fun j t' v' hj hv => hok (j + 1) t' v' (by simpa using hj) (by simpa using hv)
    obtain ⟨x, k1, k2⟩ := enc_of_trod (hT _ _ ht) h1 hpl.1
    refine ⟨⟨t, x⟩ :: tds, by simp [g1], by simp [g2], fun i d' v' hd hv => ?_, fun d' hd => ?_⟩
    · cases i with
      | zero => simp at hd hv; subst hd; subst hv; exact ⟨k1, isAgg_okWide (hT _ _ ht) (hok 0 ty v rfl rfl) hpl.1⟩
      | succ i => exact g3 i d' v' (by simpa using hd) (by simpa using hv)
    · simp at hd
      rcases hd with rfl | hd
      · exact k2
      · exact g4 d' hd

end
end Go.Lift
set_option linter.unusedSimpArgs false
set_option linter.unusedVariables false
namespace Go.Lift
open Go.ChangeShapes Go.WideShapes Go.RowKit

section
variable {P : Program} {T : Nat → Option Ty} {G : Tbl}

theorem Step.below {σ σ' : Store P} {w w' : World} (h : Step σ w σ' w') : Below w.heap.size w w' := ⟨h.os, h.tape, h.output, h.size, h.block⟩

theorem trodAll_length {H : Type} {enc : TypeId × Value → H} {w : World} {base : Nat} {spare : Nat → Bool} {held : Bool} : ∀ {tys : List TypeId} {vs : List Value} {ds : List (DataW H)} {ps : List MemPlace},
    DataW.TrodAll enc P w base spare held tys vs ds ps → ds.length = tys.length
  | [], [], [], _, _ => rfl
  | _ :: tys, _ :: vs, _ :: ds, _, ⟨_, _, _, h, _⟩ => by simp [trodAll_length h]
  | [], _ :: _, _, _, h => h.elim
  | [], [], _ :: _, _, h => h.elim
  | _ :: _, [], _, _, h => h.elim
  | _ :: _, _ :: _, [], _, h => h.elim

theorem trodAll_stays {H : Type} {enc : TypeId × Value → H} {W W' : World} {base : Nat} {sp' : Nat → Bool} (hl : laidOutB P = true) (hw : ∀ p : MemPlace, p.block < W.heap.size → W.sameAt W' p) (hs : ∀ b, b < W.heap.size → sp' b = true) : ∀ {tys : List TypeId} {vs : List Value} {ds : List (DataW H)} {ps : List MemPlace},
    (tys.all fun t => P.readableRec t && decide (t < P.types.size)) = true → (∀ p ∈ ps, p.block < W.heap.size) →
    DataW.TrodAll enc P W base (fun _ => true) true tys vs ds ps → DataW.TrodAll enc P W' base sp' true tys vs ds ps
  | [], [], [], _, _, _, h => h
  | _ :: tys, _ :: vs, _ :: ds, _, hr, hp, ⟨p, q, h1, h2, he⟩ => by
    subst he
    simp only [List.all_cons, Bool.and_eq_true, decide_eq_true_eq] at hr
    have a1 := WideElems.Trod_stays (sp' := sp') hl hr.1.1 hr.1.2 h1 (fun x hx => hw x (hp x (List.mem_append.2 (.inl hx)))) (fun x hx => hs _ (hp x (List.mem_append.2 (.inl hx))))
    have a2 := trodAll_stays (sp' := sp') hl hw hs hr.2 (fun x hx => hp x (List.mem_append.2 (.inr hx))) h2
    exact ⟨p, q, a1, a2, rfl⟩
  | [], _ :: _, _, _, _, _, h => h.elim
  | [], [], _ :: _, _, _, _, h => h.elim
  | _ :: _, [], _, _, _, _, h => h.elim
  | _ :: _, _ :: _, [], _, _, _, h => h.elim

/-- THE LAW's CONTRACT: the typed run returns true, whatever well-formed data came in -/
theorem law_contract (hE : Env P T G) {f : Nat} {fn : Func} {s : ChangeSpec} {H : Type} {enc : TypeId × Value → H} {apart fresh handsOn : Bool} {ts : List Ty} {tb : Nat}
    (hts : mapO T fn.params.toList = some ts) (hvars : s.vars = []) (hfn : ∀ ds : List (DataW H), ds.length = ts.length → s.fn H ds = { results := [.lit (.bool true)], args := ds })
    (hr : fn.resultTypes = #[tb]) (hb : P.underlying tb = some .bool) (hl : laidOutB P = true) (hread : (fn.params.toList.all fun t => P.readableRec t && decide (t < P.types.size)) = true)
    (hlaw : ∀ tds : List TD, tds.map TD.t = ts → (∀ d ∈ tds, Wf d.t d.x) → G f tds = some (true, .tv ⟨.bool, true⟩))
    (W : World) (base : Nat) (args : Array Value) (ds gs : List (DataW H)) (before : List MemPlace)
    (hval : ∀ (j : Nat) t v, fn.params[j]? = some t → args[j]? = some v → Value.okWide P W .any base t v)
    (hW : DataW.Whole enc P fn.params.toList s.vars apart W args.toList ds gs before) (hplain : (ts.all Ty.plain) = true := by rfl) :
    Calls P f args W fun e W' => ∃ v, e = .returned v ∧ s.post enc P fn apart fresh handsOn false W args v W' := by
  have hW' := hW
  obtain ⟨p, q, hA, hV, rfl, hfz, hnd⟩ := hW
  rw [hvars] at hV
  obtain ⟨rfl, rfl⟩ := trodVars_none hV
  obtain ⟨tds, g1, g2, g3, g4⟩ := args_of_trodAll (base := base) hE.types _ ts args.toList ds p hts hplain hA fun j t v hj hv => hval j t v (by simpa using hj) (by simpa using hv)
  have hlen : ds.length = ts.length := by
    rw [trodAll_length hA]
    exact ((mapO_spec hts).1).symm
  refine (hE.good f tds _ (hlaw tds g1 g4) (heapS (P := P) W) W args (holds_heapS W) ⟨by simpa using g2, fun i d v hd hv => g3 i d v hd (by simpa using hv)⟩).mono fun e W' ⟨v, σ', he, hst, hret⟩ => ?_
  have hv : v = .bool true := hret.bool
  subst hv
  have hbel := hst.below
  have hlt : ∀ x ∈ p ++ [], x.block < W.heap.size := fun x hx => hW'.lt x hx
  refine ⟨.bool true, he, ds, [], p ++ [], [], p, [], hW', ?_, ?_, ?_, hbel.frame _, fun h => by cases h⟩
  · rw [List.append_nil, hfn ds hlen, hr]
    exact trodAll_cons_mk (shut_bool hb true) trodAll_mk0
  · rw [List.append_nil, hfn ds hlen]
    exact trodAll_stays hl (fun x hx => hbel.same hx) (fun b hb => by simpa using hb) hread (fun x hx => hlt x (by simpa using hx)) hA
  · rw [List.append_nil, hfn ds hlen, hvars]
    rfl

end
end Go.Lift
set_option linter.unusedSimpArgs false
set_option linter.unusedVariables false
namespace Go.Lift

/-! Words for the proofs of functions -/
def Leaf.body : Leaf → Code
  | .loop b _ _ => b
  | _ => .skip
def Leaf.kont : Leaf → List Item
  | .loop _ k _ => k
  | _ => []
def Leaf.todo : Leaf → List Item
  | .more t _ => t
  | _ => []
/-- where a loop's round begins -/
def Leaf.round (L : Leaf) : List Item := .code L.body :: .inLoop L.body :: L.kont
def bod (f : Func) : List Item := [.code (f.body.getD .skip)]

theorem look_mem {α : Type} : ∀ (l : List (Nat × α)) (k : Nat) (v : α), look k l = some v → (k, v) ∈ l
  | [], k, v, h => by simp [look] at h
  | (j, u) :: r, k, v, h => by
    simp only [look] at h
    cases hb : Nat.beq j k with
    | true => rw [hb] at h; simp at h; have := Nat.eq_of_beq_eq_true hb; subst this; subst h; simp
    | false => rw [hb] at h; exact List.mem_cons_of_mem _ (look_mem r k v h)

theorem types_of {P : Program} {tbl : List (Nat × Ty)} (hb : (tbl.all fun p => chk P p.2 p.1) = true) (ty : Nat) (t : Ty) (h : look ty tbl = some t) : chk P t ty = true :=
  List.all_eq_true.1 hb _ (look_mem _ _ _ h)

abbrev I (n : Int) : TD := ⟨.int .i64, n⟩
abbrev B (b : Bool) : TD := ⟨.bool, b⟩
abbrev LI (l : List Int) : TD := ⟨.slice (.int .i64), l⟩
abbrev LB (l : List Bool) : TD := ⟨.slice .bool, l⟩

section
variable {P : Program} {T : Nat → Option Ty} {G G' : Tbl} {N : Nat} {rs : List ResultVar}

theorem Goes.of_eq {L L' : Leaf} {r : SV} (h : L = L') (hg : Goes G T N rs L' r) : Goes G T N rs L r := h ▸ hg

theorem Goes.bif {c : Bool} {A B : Leaf} {r : SV} (h1 : c = true → Goes G T N rs A r) (h2 : c = false → Goes G T N rs B r) : Goes G T N rs (bif c then A else B) r := by
  cases c
  · exact h2 rfl
  · exact h1 rfl

/-- a loop, entered or met again -/
theorem Goes.lp (n : Nat) (ks : Nat → List Nat) {L : Leaf} {st : St} {r : SV} (h : Goes G T N rs (run G T N rs ks n L.round st) r) : Goes G T N rs (.loop L.body L.kont st) r :=
  .loop n ks _ _ _ _ h

theorem Env.congr (h : Env P T G) (he : ∀ f tds, G' f tds = G f tds) (hs : G'.s = G.s := by rfl) (hm : G'.m = G.m := by rfl) (ho : G'.o = G.o := by rfl) : Env P T G' := by
  have : G' = G := by
    cases G; cases G'
    simp only [Tbl.mk.injEq]
    exact ⟨by funext f tds; exact he f tds, hs, hm, ho⟩
  rw [this]; exact h

theorem Env.fun' (hE : Env P T G) {f : Nat} {fn : Func} (hf : P.funcs[f]? = some fn) (hb : fn.body.isSome = true) (hn : (fn.name == "runtime.NumGoroutine") = false)
    {F : List TD → Option (Bool × SV)} (h : ∀ tds r, F tds = some (true, r) → tds.length ≤ fn.ntmps ∧ Goes G T fn.ntmps fn.results.toList (.more (bod fn) (entry tds)) r) : Env P T (G.add f F) := by
  obtain ⟨c, hc⟩ := Option.isSome_iff_exists.1 hb
  refine hE.add hf hc hn fun tds r hr => ?_
  have := h tds r hr
  rw [show bod fn = [.code c] by simp [bod, hc]] at this
  exact this

end

theorem lenOK_le {n : Nat} (h : n ≤ lenBound) : lenOK n = true := by simp [lenOK, h]

theorem inB_nat {i n : Nat} (h : i < n) : inB (i : Int) n = true := by simp [inB, h]

/-- a number that its kind holds is not wrapped -/
theorem wrap_id {n : Int} (h1 : -9223372036854775808 ≤ n) (h2 : n ≤ 9223372036854775807) : IntKind.wrap .i64 n = n := by
  unfold IntKind.wrap
  simp [IntKind.signed, IntKind.bits]
  omega

end Go.Lift
namespace Go.Lift

/-! contracts of a shape: types of the arguments, check, result -/
def FC0 (k : Bool) (r : SV) : List TD → Option (Bool × SV)
  | [] => some (k, r)
  | _ => none
def FC1 (a : Ty) (k : a.D → Bool) (r : a.D → SV) : List TD → Option (Bool × SV)
  | [d] => (d.as a).map fun x => (k x, r x)
  | _ => none
def FC2 (a b : Ty) (k : a.D → b.D → Bool) (r : a.D → b.D → SV) : List TD → Option (Bool × SV)
  | [d, e] => (d.as a).bind fun x => (e.as b).map fun y => (k x y, r x y)
  | _ => none
def FC3 (a b c : Ty) (k : a.D → b.D → c.D → Bool) (r : a.D → b.D → c.D → SV) : List TD → Option (Bool × SV)
  | [d, e, f] => (d.as a).bind fun x => (e.as b).bind fun y => (f.as c).map fun z => (k x y z, r x y z)
  | _ => none
def FC4 (a b c d : Ty) (k : a.D → b.D → c.D → d.D → Bool) (r : a.D → b.D → c.D → d.D → SV) : List TD → Option (Bool × SV)
  | [d1, e, f, g] => (d1.as a).bind fun x => (e.as b).bind fun y => (f.as c).bind fun z => (g.as d).map fun u => (k x y z u, r x y z u)
  | _ => none
def FC5 (a b c d e : Ty) (k : a.D → b.D → c.D → d.D → e.D → Bool) (r : a.D → b.D → c.D → d.D → e.D → SV) : List TD → Option (Bool × SV)
  | [d1, e1, f, g, h] => (d1.as a).bind fun x => (e1.as b).bind fun y => (f.as c).bind fun z => (g.as d).bind fun u => (h.as e).map fun v => (k x y z u v, r x y z u v)
  | _ => none
def FC6 (a b c d e m : Ty) (k : a.D → b.D → c.D → d.D → e.D → m.D → Bool) (r : a.D → b.D → c.D → d.D → e.D → m.D → SV) : List TD → Option (Bool × SV)
  | [d1, e1, f, g, h, i] => (d1.as a).bind fun x => (e1.as b).bind fun y => (f.as c).bind fun z => (g.as d).bind fun u => (h.as e).bind fun v => (i.as m).map fun w => (k x y z u v w, r x y z u v w)
  | _ => none

theorem FC0.inv {k : Bool} {r : SV} {tds : List TD} {s : SV} (h : FC0 k r tds = some (true, s)) : tds = [] ∧ k = true ∧ s = r := by
  unfold FC0 at h
  split at h
  · simp at h; exact ⟨rfl, h.1, h.2.symm⟩
  · simp at h
theorem FC1.inv {a : Ty} {k : a.D → Bool} {r : a.D → SV} {tds : List TD} {s : SV} (h : FC1 a k r tds = some (true, s)) : ∃ x, tds = [⟨a, x⟩] ∧ k x = true ∧ s = r x := by
  unfold FC1 at h
  split at h
  · simp only [Option.map_eq_some_iff, Prod.mk.injEq] at h
    obtain ⟨x, hx, h1, h2⟩ := h
    rw [TD.as_eq hx]; exact ⟨x, rfl, h1, h2.symm⟩
  · simp at h
theorem FC2.inv {a b : Ty} {k : a.D → b.D → Bool} {r : a.D → b.D → SV} {tds : List TD} {s : SV} (h : FC2 a b k r tds = some (true, s)) : ∃ x y, tds = [⟨a, x⟩, ⟨b, y⟩] ∧ k x y = true ∧ s = r x y := by
  unfold FC2 at h
  split at h
  · simp only [Option.bind_eq_some_iff, Option.map_eq_some_iff, Prod.mk.injEq] at h
    obtain ⟨x, hx, y, hy, h1, h2⟩ := h
    rw [TD.as_eq hx, TD.as_eq hy]; exact ⟨x, y, rfl, h1, h2.symm⟩
  · simp at h
theorem FC3.inv {a b c : Ty} {k : a.D → b.D → c.D → Bool} {r : a.D → b.D → c.D → SV} {tds : List TD} {s : SV} (h : FC3 a b c k r tds = some (true, s)) : ∃ x y z, tds = [⟨a, x⟩, ⟨b, y⟩, ⟨c, z⟩] ∧ k x y z = true ∧ s = r x y z := by
  unfold FC3 at h
  split at h
  · simp only [Option.bind_eq_some_iff, Option.map_eq_some_iff, Prod.mk.injEq] at h
    obtain ⟨x, hx, y, hy, z, hz, h1, h2⟩ := h
    rw [TD.as_eq hx, TD.as_eq hy, TD.as_eq hz]; exact ⟨x, y, z, rfl, h1, h2.symm⟩
  · simp at h
theorem FC4.inv {a b c d : Ty} {k : a.D → b.D → c.D → d.D → Bool} {r : a.D → b.D → c.D → d.D → SV} {tds : List TD} {s : SV} (h : FC4 a b c d k r tds = some (true, s)) :
    ∃ x y z u, tds = [⟨a, x⟩, ⟨b, y⟩, ⟨c, z⟩, ⟨d, u⟩] ∧ k x y z u = true ∧ s = r x y z u := by
  unfold FC4 at h
  split at h
  · simp only [Option.bind_eq_some_iff, Option.map_eq_some_iff, Prod.mk.injEq] at h
    obtain ⟨x, hx, y, hy, z, hz, u, hu, h1, h2⟩ := h
    rw [TD.as_eq hx, TD.as_eq hy, TD.as_eq hz, TD.as_eq hu]; exact ⟨x, y, z, u, rfl, h1, h2.symm⟩
  · simp at h
theorem FC5.inv {a b c d e : Ty} {k : a.D → b.D → c.D → d.D → e.D → Bool} {r : a.D → b.D → c.D → d.D → e.D → SV} {tds : List TD} {s : SV} (h : FC5 a b c d e k r tds = some (true, s)) :
    ∃ x y z u v, tds = [⟨a, x⟩, ⟨b, y⟩, ⟨c, z⟩, ⟨d, u⟩, ⟨e, v⟩] ∧ k x y z u v = true ∧ s = r x y z u v := by
  unfold FC5 at h
  split at h
  · simp only [Option.bind_eq_some_iff, Option.map_eq_some_iff, Prod.mk.injEq] at h
    obtain ⟨x, hx, y, hy, z, hz, u, hu, v, hv, h1, h2⟩ := h
    rw [TD.as_eq hx, TD.as_eq hy, TD.as_eq hz, TD.as_eq hu, TD.as_eq hv]; exact ⟨x, y, z, u, v, rfl, h1, h2.symm⟩
  · simp at h
theorem FC6.inv {a b c d e m : Ty} {k : a.D → b.D → c.D → d.D → e.D → m.D → Bool} {r : a.D → b.D → c.D → d.D → e.D → m.D → SV} {tds : List TD} {s : SV} (h : FC6 a b c d e m k r tds = some (true, s)) :
    ∃ x y z u v w, tds = [⟨a, x⟩, ⟨b, y⟩, ⟨c, z⟩, ⟨d, u⟩, ⟨e, v⟩, ⟨m, w⟩] ∧ k x y z u v w = true ∧ s = r x y z u v w := by
  unfold FC6 at h
  split at h
  · simp only [Option.bind_eq_some_iff, Option.map_eq_some_iff, Prod.mk.injEq] at h
    obtain ⟨x, hx, y, hy, z, hz, u, hu, v, hv, w, hw, h1, h2⟩ := h
    rw [TD.as_eq hx, TD.as_eq hy, TD.as_eq hz, TD.as_eq hu, TD.as_eq hv, TD.as_eq hw]; exact ⟨x, y, z, u, v, w, rfl, h1, h2.symm⟩
  · simp at h

section
variable {P : Program} {T : Nat → Option Ty} {G G' : Tbl} {N : Nat} {rs : List ResultVar}
theorem Goes.ret' {v r : SV} (h : v = r) : Goes G T N rs (.ret v) r := h ▸ .ret v
theorem Goes.no {r : SV} (h : False) : Goes G T N rs .fail r := h.elim
/-- from the entry -/
theorem Goes.run0 {f : Func} {n : Nat} {ks : List Nat} {tds : List TD} {L : Leaf} {r : SV} (he : run G T f.ntmps f.results.toList (fun _ => ks) n (bod f) (entry tds) = L)
    (h : Goes G T f.ntmps f.results.toList L r) : Goes G T f.ntmps f.results.toList (.more (bod f) (entry tds)) r := .more n (fun _ => ks) _ _ _ (.of_eq he h)
end


section
variable {P : Program} {T : Nat → Option Ty} {G : Tbl} {f : Nat} {fn : Func}
theorem Env.fc0 {k : Bool} {r : SV} (hE : Env P T G) (hf : P.funcs[f]? = some fn) (hb : fn.body.isSome = true) (hn : (fn.name == "runtime.NumGoroutine") = false) (hl : Nat.ble 0 fn.ntmps = true)
    (h : k = true → Goes G T fn.ntmps fn.results.toList (.more (bod fn) (entry [])) (r)) : Env P T (G.add f (FC0  k r)) := by
  refine hE.fun' hf hb hn fun tds s hs => ?_
  obtain ⟨rfl, hk, rfl⟩ := FC0.inv hs
  exact ⟨Nat.le_of_ble_eq_true hl, h hk⟩
theorem Env.fc1 {a0 : Ty} {k : a0.D → Bool} {r : a0.D → SV} (hE : Env P T G) (hf : P.funcs[f]? = some fn) (hb : fn.body.isSome = true) (hn : (fn.name == "runtime.NumGoroutine") = false) (hl : Nat.ble 1 fn.ntmps = true)
    (h : ∀ x, k x = true → Goes G T fn.ntmps fn.results.toList (.more (bod fn) (entry [⟨a0, x⟩])) (r x)) : Env P T (G.add f (FC1 a0 k r)) := by
  refine hE.fun' hf hb hn fun tds s hs => ?_
  obtain ⟨x, rfl, hk, rfl⟩ := FC1.inv hs
  exact ⟨Nat.le_of_ble_eq_true hl, h x hk⟩
theorem Env.fc2 {a0 a1 : Ty} {k : a0.D → a1.D → Bool} {r : a0.D → a1.D → SV} (hE : Env P T G) (hf : P.funcs[f]? = some fn) (hb : fn.body.isSome = true) (hn : (fn.name == "runtime.NumGoroutine") = false) (hl : Nat.ble 2 fn.ntmps = true)
    (h : ∀ x y, k x y = true → Goes G T fn.ntmps fn.results.toList (.more (bod fn) (entry [⟨a0, x⟩, ⟨a1, y⟩])) (r x y)) : Env P T (G.add f (FC2 a0 a1 k r)) := by
  refine hE.fun' hf hb hn fun tds s hs => ?_
  obtain ⟨x, y, rfl, hk, rfl⟩ := FC2.inv hs
  exact ⟨Nat.le_of_ble_eq_true hl, h x y hk⟩
theorem Env.fc3 {a0 a1 a2 : Ty} {k : a0.D → a1.D → a2.D → Bool} {r : a0.D → a1.D → a2.D → SV} (hE : Env P T G) (hf : P.funcs[f]? = some fn) (hb : fn.body.isSome = true) (hn : (fn.name == "runtime.NumGoroutine") = false) (hl : Nat.ble 3 fn.ntmps = true)
    (h : ∀ x y z, k x y z = true → Goes G T fn.ntmps fn.results.toList (.more (bod fn) (entry [⟨a0, x⟩, ⟨a1, y⟩, ⟨a2, z⟩])) (r x y z)) : Env P T (G.add f (FC3 a0 a1 a2 k r)) := by
  refine hE.fun' hf hb hn fun tds s hs => ?_
  obtain ⟨x, y, z, rfl, hk, rfl⟩ := FC3.inv hs
  exact ⟨Nat.le_of_ble_eq_true hl, h x y z hk⟩
theorem Env.fc4 {a0 a1 a2 a3 : Ty} {k : a0.D → a1.D → a2.D → a3.D → Bool} {r : a0.D → a1.D → a2.D → a3.D → SV} (hE : Env P T G) (hf : P.funcs[f]? = some fn) (hb : fn.body.isSome = true) (hn : (fn.name == "runtime.NumGoroutine") = false) (hl : Nat.ble 4 fn.ntmps = true)
    (h : ∀ x y z u, k x y z u = true → Goes G T fn.ntmps fn.results.toList (.more (bod fn) (entry [⟨a0, x⟩, ⟨a1, y⟩, ⟨a2, z⟩, ⟨a3, u⟩])) (r x y z u)) : Env P T (G.add f (FC4 a0 a1 a2 a3 k r)) := by
  refine hE.fun' hf hb hn fun tds s hs => ?_
  obtain ⟨x, y, z, u, rfl, hk, rfl⟩ := FC4.inv hs
  exact ⟨Nat.le_of_ble_eq_true hl, h x y z u hk⟩
theorem Env.fc5 {a0 a1 a2 a3 a4 : Ty} {k : a0.D → a1.D → a2.D → a3.D → a4.D → Bool} {r : a0.D → a1.D → a2.D → a3.D → a4.D → SV} (hE : Env P T G) (hf : P.funcs[f]? = some fn) (hb : fn.body.isSome = true) (hn : (fn.name == "runtime.NumGoroutine") = false) (hl : Nat.ble 5 fn.ntmps = true)
    (h : ∀ x y z u v, k x y z u v = true → Goes G T fn.ntmps fn.results.toList (.more (bod fn) (entry [⟨a0, x⟩, ⟨a1, y⟩, ⟨a2, z⟩, ⟨a3, u⟩, ⟨a4, v⟩])) (r x y z u v)) : Env P T (G.add f (FC5 a0 a1 a2 a3 a4 k r)) := by
  refine hE.fun' hf hb hn fun tds s hs => ?_
  obtain ⟨x, y, z, u, v, rfl, hk, rfl⟩ := FC5.inv hs
  exact ⟨Nat.le_of_ble_eq_true hl, h x y z u v hk⟩
theorem Env.fc6 {a0 a1 a2 a3 a4 a5 : Ty} {k : a0.D → a1.D → a2.D → a3.D → a4.D → a5.D → Bool} {r : a0.D → a1.D → a2.D → a3.D → a4.D → a5.D → SV} (hE : Env P T G) (hf : P.funcs[f]? = some fn) (hb : fn.body.isSome = true) (hn : (fn.name == "runtime.NumGoroutine") = false) (hl : Nat.ble 6 fn.ntmps = true)
    (h : ∀ x y z u v w, k x y z u v w = true → Goes G T fn.ntmps fn.results.toList (.more (bod fn) (entry [⟨a0, x⟩, ⟨a1, y⟩, ⟨a2, z⟩, ⟨a3, u⟩, ⟨a4, v⟩, ⟨a5, w⟩])) (r x y z u v w)) : Env P T (G.add f (FC6 a0 a1 a2 a3 a4 a5 k r)) := by
  refine hE.fun' hf hb hn fun tds s hs => ?_
  obtain ⟨x, y, z, u, v, w, rfl, hk, rfl⟩ := FC6.inv hs
  exact ⟨Nat.le_of_ble_eq_true hl, h x y z u v w hk⟩
end

end Go.Lift
