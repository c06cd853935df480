/- A part of the proof that the law returns true for every input: no condition. -/
import Derived.Test.YtincaojcmkklbaaE14
set_option linter.unusedSimpArgs false
namespace Go.Lift

section
variable {P : Program} {T : Nat → Option Ty} {G : Tbl} {w w' : World} {σ σ' τ : Store} {bx bx' : List (Nat × Box)} {H H' : Nat → Value} {n0 N : Nat} {C : Nat → Prop}

theorem eff_store_e {o : Oper} {a : Act} {st : St} (h : Rel C N n0 σ H st a w) {t b i : Nat} {ad x : Operand} (ho : o.op = .store t ad x) (hd : o.dst = none) {ty : Ty} (ht : chk P ty t = true) {y : ty.D}
    (hx : RelV σ ⟨ty, y⟩ (a.eval x)) {p : List Nat} {e : Ty} {l : List e.D} (hb : look b st.bx = some (.vec e l)) (hp : SVR σ st.bx H (.ptr b (some i) p) (a.eval ad)) {x' : e.D} (hs : setPath ⟨e, l.getD i e.zero⟩ p ⟨ty, y⟩ = some x') :
    EffOK P C N n0 o a w σ ⟨st.sl, ins b (.vec e (l.set i x')) st.bx⟩ := by
  intro next Q hn
  obtain ⟨e0, l0, d1, g, n, cc, h1, h2, h3, h4, h5⟩ := hp
  rw [hb] at h1
  simp only [Option.some.injEq, Box.vec.injEq] at h1
  obtain ⟨rfl, h1⟩ := h1
  have h1 := eq_of_heq h1
  subst h1
  obtain ⟨ety, xs, hown, henc, hsig, hpos⟩ := h.box b _ hb
  obtain ⟨g', cap, cur, k1, k2, k3, k4, k5, k6⟩ := ownsRow_inv hown (by omega)
  rw [h4] at k1; simp at k1; obtain ⟨rfl, rfl, rfl⟩ := k1
  have hsg := hsig g (by rw [h4]; rfl)
  obtain ⟨p1, c1, r1, q1, q2, q3, q4⟩ := henc.get l xs i h2
  have hgd : l[i] = l.getD i e.zero := by simp [List.getD, List.getElem?_eq_getElem h2]
  rw [hgd] at q3
  obtain ⟨e', z0, z1, pa, c, r, z2, z3, z4, z5⟩ := Enc.setPath p ⟨e, l.getD i e.zero⟩ ⟨ty, y⟩ x' c1 hs q3
  have hcur : cur.toList = (p1 ++ pa) ++ c ++ (r ++ r1 ++ cur.toList.drop (l.length * e.size)) := by
    have h0 := List.take_append_drop (l.length * e.size) cur.toList
    rw [k5, q1, z2] at h0
    simpa using h0.symm
  have hst := run_storeAt (P := P) ht hx (off := i * e.size + offPath ⟨e, l.getD i e.zero⟩ p) k2 hcur (by simp [q2, z3]) (by rw [z4.length, ← z1])
  have hr : (execOp a.eval o).run P w = .ok .skip (w.setRow g ((p1 ++ pa) ++ (a.eval x).cells.toList ++ (r ++ r1 ++ cur.toList.drop (l.length * e.size))).toArray) := by
    generalize i * e.size + offPath ⟨e, l.getD i e.zero⟩ p = off at h5 hst
    simp [execOp, ho, h5, hst]
  unfold Oper.wp
  rw [hr, Oper.upon_skip]
  have ht' := step_setRow (n0 := n0) h.holds k6 hsg ((p1 ++ pa) ++ (a.eval x).cells.toList ++ (r ++ r1 ++ cur.toList.drop (l.length * e.size))).toArray
  refine hn _ σ _ ht' ⟨H, ?_⟩
  rw [hd]
  have hother : ∀ k g', hBlock (H k) = some g' → k ≠ b → (∃ b', look k st.bx = some b') →
      (w.setRow g ((p1 ++ pa) ++ (a.eval x).cells.toList ++ (r ++ r1 ++ cur.toList.drop (l.length * e.size))).toArray).heap[g']? = w.heap[g']? := by
    intro k g' hg' hk ⟨b', hb'⟩
    refine setRow_other w g g' _ fun eq => ?_
    subst eq
    exact h.apart b k _ b' g' hb hb' (Ne.symm hk) (by rw [h4]; rfl) hg'
  have hlc : (a.eval x).cells.toList.length = c.length := by rw [hx.1.length, z4.length]; exact congrArg _ z1
  refine ⟨ht'.holds, h.size, h.defers, Nat.le_trans h.base ht'.size, fun k b' hk => ?_, fun k k' b1 b2 g1 hk hk' => ?_, fun k s hk hc => ?_⟩
  · simp only [look_ins] at hk
    split at hk
    · rename_i ek; subst ek
      simp at hk; subst hk
      have hl1 : c1.length = e.size := q3.length
      have hsz : ((p1 ++ pa) ++ (a.eval x).cells.toList ++ (r ++ r1)).length = l.length * e.size := by
        have : xs.length = l.length * e.size := hown.1
        rw [q1, z2] at this
        simp at this ⊢
        have hlc' : (a.eval x).cells.size = c.length := by simpa using hlc
        omega
      refine ⟨ety, (p1 ++ pa) ++ (a.eval x).cells.toList ++ (r ++ r1), ⟨by simpa using hsz, .inr ⟨g, cc, _, by simpa using h4, k6, setRow_heap w g cur _ ety _ k2, by simpa using k3, ?_, ?_, ?_⟩⟩, ?_, hsig, hpos⟩
      · rcases hown.2 with ⟨e1, _⟩ | ⟨g2, cap2, cur2, e1, _, _, _, e2, _⟩
        · rw [h4] at e1; simp at e1
        · rw [h4] at e1; simp at e1; obtain ⟨_, rfl⟩ := e1; exact e2
      · rw [← k4]
        have : cur.toList.length = cur.size := by simp
        rw [hcur] at this
        simp at this ⊢
        have hlc' : (a.eval x).cells.size = c.length := by simpa using hlc
        omega
      · simp only [List.length_set]
        have gen : ∀ (A B : List Value) (n : Nat), A.length = n → (A ++ B).take n = A := by intro A B n h; subst h; exact List.take_left
        have := gen ((p1 ++ pa) ++ (a.eval x).cells.toList ++ (r ++ r1)) (cur.toList.drop (l.length * e.size)) _ hsz
        simpa using this
      · have := q4 x' _ (z5 _ hx.1)
        simpa using this
    · rename_i ek
      exact (h.box k b' hk).keep (Store.le.refl σ) fun g' hg' => ⟨hother k g' hg' ek ⟨b', hk⟩, ((h.box k b' hk).block g' hg').2.2.1⟩
  · simp only [look_ins] at hk hk'
    have f : ∀ k b1, (if k = b then some (Box.vec e (l.set i x')) else look k st.bx) = some b1 → ∃ b0, look k st.bx = some b0 := by
      intro k b1 hk; split at hk
      · rename_i ek; subst ek; exact ⟨_, hb⟩
      · exact ⟨_, hk⟩
    obtain ⟨_, e1⟩ := f k b1 hk
    obtain ⟨_, e2⟩ := f k' b2 hk'
    exact h.apart k k' _ _ g1 e1 e2
  · refine SVR.shape (fun c => ?_) (h.slot k s hk hc)
    simp only [look_ins]
    split
    · rename_i ek; subst ek; right; right; exact ⟨e, l, l.set i x', hb, rfl, by simp⟩
    · exact .inl rfl

/-! buildSlice -/
theorem fillV_spec {e : Ty} {st : St} {a : Act} : ∀ (parts : List (Nat × Operand)) (l l' : List e.D) (cells : Array Value), fillV e bx st l parts = some l' → EncL σ e l cells.toList →
    (∀ (i : Nat) (x : Operand), (i, x) ∈ parts → ∀ (s : SV) (y : e.D), opd st x = some s → s.isRef = false → s.data bx e = some y → RelV σ ⟨e, y⟩ (a.eval x)) →
    ∃ cs, Instr.fill (fun i => some (i * e.size, e.size)) cells (parts.map fun p => (p.1, a.eval p.2)) = some cs ∧ EncL σ e l' cs.toList ∧ l'.length = l.length
  | [], l, l', cells, h, he, _ => by
    simp [fillV] at h; subst h
    exact ⟨cells, rfl, he, rfl⟩
  | (i, x) :: parts, l, l', cells, h, he, hp => by
    simp only [fillV, Option.bind_eq_some_iff] at h
    obtain ⟨s, hs, y, hy, h⟩ := h
    obtain ⟨hr, hy⟩ := cond_none' hy
    obtain ⟨hi, h⟩ := cond_none h
    have hi := blt_lt hi
    have hrel := hp i x (by simp) s y hs hr hy
    obtain ⟨p, c, r, g1, g2, g3, g4⟩ := he.get l cells.toList i hi
    have hlen : (a.eval x).cells.toList.length = c.length := by rw [hrel.1.length, g3.length]
    obtain ⟨cs, k1, k2, k3⟩ := fillV_spec parts (l.set i y) l' (p ++ (a.eval x).cells.toList ++ r).toArray h (by simpa using g4 y _ hrel.1) (fun j z hz => hp j z (by simp [hz]))
    refine ⟨cs, ?_, k2, by simpa using k3⟩
    rw [List.map_cons, fill_cells _ cells i (i * e.size) (a.eval x) _ p c r (by rw [g3.length]) g1 g2 hlen]
    exact k1

theorem eff_buildSlice {o : Oper} {a : Act} {st : St} (h : Rel C N n0 σ H st a w) {t d len : Nat} {parts : Array (Nat × Operand)} (ho : o.op = .buildSlice t len parts) (hd : o.dst = some d) (hN : d < N) {e : Ty}
    (ht : chk P (.slice e) t = true) (hb : Nat.ble (len * e.size) 16777216 = true) (hC : ∀ i x, (i, x) ∈ parts.toList → ∀ k, x = .tmp k → C k) {l : List e.D} (hf : fillV e st.bx st (zeros e len) parts.toList = some l) :
    EffOK P C N n0 o a w σ (st.newBox d (.vec e l) (.ref d)) := by
  intro next Q hn
  obtain ⟨et, hu, hce, hpos⟩ := chk_slice ht
  obtain ⟨i, z, k1, k2, k3, k4, k5, k6⟩ := enc_zero hce σ
  have hble : len * e.size ≤ 16777216 := Nat.le_of_ble_eq_true hb
  have hz0 := encL_zeros k4 hpos len
  obtain ⟨cs, f1, f2, f3⟩ := fillV_spec (σ := σ) (a := a) parts.toList (zeros e len) l ((Array.range (len * e.size)).map fun k => z.cells[k % z.cells.size]!) hf (by simpa using hz0)
    (fun i x hix s y hs hr hy => by
      have := h.opd (hC i x hix) hs
      exact (data_rel h.holds h.box hy this).1 hr)
  have hlen : l.length = len := by rw [f3]; simp [zeros]
  have hcsz : cs.size = len * e.size := by have := f2.length; rw [hlen] at this; simpa using this
  have f1' : Instr.fill (fun i => some (i * e.size, e.size)) ((Array.range (len * e.size)).map fun k => z.cells[k % z.cells.size]!) ((parts.map fun (x : Nat × Operand) => (x.1, a.eval x.2)).toList) = some cs := by
    simpa using f1
  have hrun : (Instr.buildSlice t len (parts.map fun (x : Nat × Operand) => (x.1, a.eval x.2))).run P w = .ok (.slice (some ⟨w.heap.size, 0, none⟩) len len) (w.alloc (.cells cs et)) := by
    unfold Instr.buildSlice
    rcases Nat.eq_zero_or_pos (len * e.size) with hz | hz
    · have hrng : ∀ q : Array Value, ((Array.range (len * e.size)).map fun k => q[k % q.size]!) = #[] := by intro q; rw [hz]; simp [Array.range_zero']
      rw [hrng] at f1'
      simp only [Sem.run_bind, run_underlying hu, Result.andThen_ok, run_sizeOf hce, show ¬ (len * e.size > 2 ^ 24) from by omega, if_false, if_pos hz, Sem.run_pure, hrng, f1', newRow, run_newObj, World.alloc_eq]
    · have hne : ¬ len * e.size = 0 := by omega
      simp only [Sem.run_bind, run_underlying hu, Result.andThen_ok, run_sizeOf hce, show ¬ (len * e.size > 2 ^ 24) from by omega, if_false, if_neg hne, Sem.run_pure, zeroValue, typeInfo, run_program, k1, k3, f1', newRow, run_newObj, World.alloc_eq]
  have hr : (execOp a.eval o).run P w = .ok (.value (.slice (some ⟨w.heap.size, 0, none⟩) len len)) (w.alloc (.cells cs et)) := by
    simp only [execOp, ho, Sem.run_bind, hrun, Result.andThen_ok, Sem.run_pure]
  have hs := step_alloc h.holds (.cells cs et)
  have hmax : len ≤ maxLen := by
    have : len * 1 ≤ len * e.size := Nat.mul_le_mul_left _ hpos
    simp [maxLen]; omega
  have hR := h.newBox (a := a) (v := .slice (some ⟨w.heap.size, 0, none⟩) len len) (s := .ref d) hs hN (b := .vec e l) (u := .slice (some ⟨w.heap.size, 0, none⟩) len len)
    ⟨et, cs.toList, by rw [hlen]; exact World.ownsRow_lit w cs len h.base hmax hcsz, f2, fun g hg => by simp [hBlock] at hg; subst hg; exact holds_new h.holds, hpos⟩ (fun g hg => by simp [hBlock] at hg; omega)
    fun bx' H' h1 h2 => ⟨_, _, h1, h2.symm⟩
  exact wp_val hr (hn _ σ _ (hs.trans' h.base) ⟨_, by rw [hd]; exact hR⟩)

/-! append -/
theorem ownsRow_view {et n : Nat} {v : Value} {size : Nat} {xs : List Value} (h : w.ownsRow n0 et size v n xs) {k : Nat} (hk : k ≤ n) : w.ownsRow n0 et size (viewV v 0 k size) k (xs.take (k * size)) := by
  refine ⟨?_, ?_⟩
  · rw [List.length_take, h.1]; exact Nat.min_eq_left (Nat.mul_le_mul_right _ hk)
  · rcases h.2 with ⟨rfl, rfl⟩ | ⟨g, cap, cur, rfl, h1, h2, h3, h4, h5, h6⟩
    · left; have : k = 0 := by omega
      subst this; exact ⟨by simp [viewV], rfl⟩
    · right
      refine ⟨g, cap, cur, by simp [viewV, addr_add_zero], h1, h2, by omega, h4, h5, ?_⟩
      rw [← h6, List.take_take, Nat.min_eq_left (Nat.mul_le_mul_right _ hk)]

theorem hBlock_view (v : Value) (k size : Nat) : hBlock (viewV v 0 k size) = hBlock v := by
  cases v with
  | slice ad n cap => cases ad <;> simp [viewV, hBlock, addr_add_zero]
  | _ => rfl

/-- the append itself: the box that gives its row away is gone already -/
theorem eff_append {o : Oper} {a : Act} {st : St} (h : Rel C N n0 σ H st a w) {d t : Nat} {x y : Operand} {c : Call} (ho : o.op = .call c) (hc : c.callee = .builtin .append) (hargs : c.args = #[x, y]) (htys : c.argTypes = #[t, t])
    (hd : o.dst = some d) (hN : d < N) {e : Ty} (ht : chk P (.slice e) t = true) {et tag : Nat} {v : Value} {l ys : List e.D} {xs : List Value} (hu : P.underlying t = some (.slice et)) (hce : chk P e et = true)
    (hx : a.eval x = v) (hown : w.ownsRow n0 tag e.size v l.length xs) (henc : EncL σ e l xs) (hsig : ∀ g, hBlock v = some g → σ g = none) (hap : ∀ k b' g, look k st.bx = some b' → hBlock v = some g → hBlock (H k) ≠ some g)
    {ad : Option Addr} {m cy : Nat} {news : List Value} (hy : a.eval y = .slice ad m cy) (hm : m = ys.length) (hency : EncL σ e ys news) (hnews : ∀ a, ad = some a → At w a news) (had : 0 < ys.length → ∃ a, ad = some a)
    (hlen : lenOK (l.length + ys.length) = true) : EffOK P C N n0 o a w σ (st.newBox d (.vec e (l ++ ys)) (.ref d)) := by
  intro next Q hn
  subst hm
  obtain ⟨_, _, _, hpos⟩ := chk_slice ht
  obtain ⟨i, z, k1, k2, k3, k4, k5, k6⟩ := enc_zero hce σ
  have hl : l.length + ys.length ≤ lenBound := by simpa [lenOK] using hlen
  obtain ⟨v', w', tag', hr, hown', hgrow, hblk⟩ := run_append_mine (P := P) (ty := o.type) hu k1 k3 k2 k5 k6 hown (m := ys.length) (c := cy) hency.length hnews had (hency.one _ _) hl h.base
  have hr' : (execOp a.eval o).run P w = .ok (.value v') w' := by
    simp [execOp, ho, resolve, hc, invoke, builtin, hargs, htys, hx, hy, hr]
  have hrow : ∀ g, hBlock v = some g → n0 ≤ g ∧ g < w.heap.size := by
    intro g hg
    rcases hown.2 with ⟨e1, _⟩ | ⟨g', cap, cur, e1, e2, e3, _⟩
    · rw [e1] at hg; simp [hBlock] at hg
    · rw [e1] at hg; simp [hBlock] at hg; subst hg; exact ⟨e2, (Array.getElem?_eq_some_iff.1 e3).1⟩
  have hholds : Holds w' σ := by
    intro b ob hb
    have hb' := h.holds b ob hb
    rw [hgrow.block b (Array.getElem?_eq_some_iff.1 hb').1 (fun e => by have := hsig b e.symm; rw [hb] at this; simp at this)]
    exact hb'
  have htr : Trans n0 σ w σ w' := ⟨Store.le.refl σ, hholds, fun _ _ h => .inl h, hgrow.size, fun b hb => hgrow.block b (Nat.lt_of_lt_of_le hb h.base) (fun e => by have := (hrow b e.symm).1; omega), hgrow.os, hgrow.output, hgrow.tape⟩
  refine wp_val hr' (hn _ σ _ htr ?_)
  rw [hd]
  have hRel' : Rel C N n0 σ H st a w' := by
    refine ⟨hholds, h.size, h.defers, Nat.le_trans h.base hgrow.size, fun k b hk => (h.box k b hk).keep (Store.le.refl σ) fun g hg => ⟨?_, ((h.box k b hk).block g hg).2.2.1⟩, h.apart, h.slot⟩
    exact hgrow.block g ((h.box k b hk).block g hg).1 (fun e => hap k b g hk e.symm hg)
  have h1 := hRel'.kill (d := d)
  have hsg' : ∀ g, hBlock v' = some g → σ g = none := by
    intro g hg
    rcases hblk g hg with e1 | e1
    · exact hsig g e1
    · rw [e1]; exact holds_new h.holds
  have hap' : ∀ k b', look k st.bx = some b' → ∀ g, hBlock v' = some g → hBlock (H k) ≠ some g := by
    intro k b' hk g hg hkg
    rcases hblk g hg with e1 | e1
    · exact hap k b' g hk e1 hkg
    · have := ((h.box k b' hk).block g hkg).1; omega
  refine ⟨fun k => if k = d then v' else H k, hholds, by rw [put_size]; exact h.size, by rw [put_defers]; exact h.defers, h1.base, fun k b' hk => ?_, fun k k' b1 b2 g hk hk' hne hg hg' => ?_, fun k s' hk hc => ?_⟩
  · simp only [St.newBox, look_ins] at hk
    by_cases ek : k = d
    · simp [ek] at hk ⊢; subst hk
      exact ⟨tag', _, by simpa using hown', EncL.app _ _ _ _ henc hency, hsg', hpos⟩
    · simp [ek] at hk ⊢; exact h1.box k b' hk
  · simp only [St.newBox, look_ins] at hk hk'
    by_cases ek : k = d
    · by_cases ek' : k' = d
      · exact hne (ek.trans ek'.symm)
      · simp [ek, ek'] at hk hk' hg hg'
        exact hap' k' b2 (by simpa [St.kill, look_del, ek'] using hk') g hg hg'
    · by_cases ek' : k' = d
      · simp [ek, ek'] at hk hk' hg hg'
        exact hap' k b1 (by simpa [St.kill, look_del, ek] using hk) g hg' hg
      · simp [ek, ek'] at hk hk' hg hg'
        exact h1.apart k k' b1 b2 g hk hk' hne hg hg'
  · simp only [St.newBox, look_ins] at hk ⊢
    rw [getD_put (by rw [h.size]; exact hN)]
    by_cases ek : k = d
    · rw [if_pos ek]
      simp [ek] at hk; subst hk
      exact ⟨e, l ++ ys, by simp [look_ins], by simp⟩
    · rw [if_neg ek]
      simp [ek] at hk
      refine SVR.off (d := d) (kill_not hk) (fun c hc' => ?_) (h1.slot k s' hk hc)
      simp [look_ins, hc']

end
end Go.Lift
