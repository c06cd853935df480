/- A part of the proof that the law returns true for every input: no condition. -/
import Derived.Test.YtincaojcmkklbaaE11
set_option linter.unusedSimpArgs false
namespace Go.Lift

section
variable {w w' : World} {σ σ' τ : Store} {bx bx' : List (Nat × Box)} {H H' : Nat → Value} {n0 N : Nat} {C : Nat → Prop}

theorem box_slice' {e : Ty} {l : List e.D} {v : Value} (hle : Store.le σ τ) (hg : ∀ g, hBlock v = some g → τ g = w.heap[g]?) (h : BoxR σ w n0 (.vec e l) v) : RelV τ ⟨.slice e, l⟩ v := by
  obtain ⟨ety, xs, hown, henc, _⟩ := h
  rcases Nat.eq_zero_or_pos l.length with h0 | hpos
  · have hl : l = [] := List.eq_nil_of_length_eq_zero h0
    subst hl
    rcases hown.2 with ⟨rfl, _⟩ | ⟨g, cap, cur, rfl, _, hg, h1, _, h3, h4⟩
    · exact relV_nil _ _
    · exact ⟨⟨some ⟨g, 0, none⟩, cap, by simp [Value.cells], by simp, by simp, fun i hi => by simp at hi⟩, rfl⟩
  · obtain ⟨g, cap, cur, rfl, hgh, hcap, hcs, htake, _⟩ := ownsRow_inv hown hpos
    refine ⟨⟨some ⟨g, 0, none⟩, cap, by simp [Value.cells], hcap, by simp, ?_⟩, rfl⟩
    refine EncL.toSlice l xs (EncL.mono hle _ _ henc) ⟨g, 0, none⟩ ?_
    intro j v hv
    have := hown.cells (g := g) rfl j v hv
    have hgb := hg g rfl
    unfold World.cell? at this
    unfold Store.cell?
    rw [addr_add_block] at this ⊢
    simp only at this ⊢
    rw [hgb]; exact this

theorem store_cell_block {g : Nat} (hg : τ g = w.heap[g]?) (off : Nat) : τ.cell? ⟨g, off, none⟩ = w.cell? ⟨g, off, none⟩ := by
  unfold Store.cell? World.cell?
  simp only [hg]
  cases w.heap[g]? with
  | none => rfl
  | some o => cases o <;> rfl

theorem froz1_rel {t : Ty} {l : List t.D} {b : Nat} (hb : look b bx = some (.vec t l)) (hB : BoxR σ w n0 (.vec t l) (H b)) (hle : Store.le σ τ) (hg : ∀ g, hBlock (H b) = some g → τ g = w.heap[g]?)
    {s : SV} {v : Value} (h : SVR1 σ bx H s v) : SVR1 τ (del b bx) H (s.froz1 b t l) v := by
  have hoff : ∀ s' : SV, s'.mentions1 b = false → SVR1 σ bx H s' v → SVR1 τ (del b bx) H s' v := fun s' hm hs =>
    (hs.mono hle).off hm (fun c hc => ⟨by simp [look_del, hc], rfl⟩)
  have inj : ∀ (t' : Ty) (l' : List t'.D), look b bx = some (.vec t' l') → (⟨.slice t', l'⟩ : TD) = ⟨.slice t, l⟩ := by
    intro t' l' h'
    rw [hb] at h'
    simp only [Option.some.injEq, Box.vec.injEq] at h'
    obtain ⟨rfl, h'⟩ := h'
    rw [eq_of_heq h']
  cases s with
  | ref c =>
    simp only [SV.froz1]
    by_cases hc : c = b
    · subst hc
      simp only [beq_self, cond_true]
      obtain ⟨t', l', h1, h2⟩ := h
      subst h2
      exact box_slice' hle hg hB
    · simp only [beq_false hc, cond_false]
      exact hoff _ (beq_false hc) h
  | view c lo hi =>
    simp only [SV.froz1]
    by_cases hc : c = b
    · subst hc
      simp only [beq_self, cond_true]
      obtain ⟨t', l', h1, h2, h3, h4⟩ := h
      rw [hb] at h1
      simp only [Option.some.injEq, Box.vec.injEq] at h1
      obtain ⟨rfl, h1⟩ := h1
      have h1 := eq_of_heq h1
      subst h1
      rw [h4]
      exact relV_view (box_slice' hle hg hB) lo hi h2 h3
    · simp only [beq_false hc, cond_false]
      exact hoff _ (beq_false hc) h
  | ptr c ix p =>
    cases ix with
    | none =>
      simp only [SV.froz1]
      by_cases hc : c = b
      · subst hc
        obtain ⟨d0, e, g, h1, _⟩ := h
        rw [hb] at h1; simp at h1
      · exact hoff _ (beq_false hc) h
    | some i =>
      simp only [SV.froz1]
      by_cases hc : c = b
      · subst hc
        simp only [beq_self, cond_true]
        obtain ⟨t', l', e, g, n, cc, h1, h2, h3, h4, h5⟩ := h
        rw [hb] at h1
        simp only [Option.some.injEq, Box.vec.injEq] at h1
        obtain ⟨rfl, h1⟩ := h1
        have h1 := eq_of_heq h1
        subst h1
        rw [h3]
        obtain ⟨ety, xs, hown, henc, _⟩ := hB
        obtain ⟨g', cap, cur, k1, k2, k3, k4, k5, _⟩ := ownsRow_inv hown (by omega)
        rw [h4] at k1; simp at k1; obtain ⟨rfl, rfl, rfl⟩ := k1
        obtain ⟨p1, c1, r1, q1, q2, q3, _⟩ := (EncL.mono hle _ _ henc).get l xs i h2
        have hgd : l[i] = l.getD i t.zero := by simp [List.getD, List.getElem?_eq_getElem h2]
        rw [hgd] at q3
        obtain ⟨p2, c2, r2, z1, z2, z3⟩ := Enc.path p _ _ c1 h3 q3
        refine ⟨_, c2, h5, fun j u hu => ?_, z3⟩
        rw [addr_lit, store_cell_block (w := w) (hg g (by rw [h4]; rfl)), ← addr_lit]
        have hcur : cur.toList = (p1 ++ p2) ++ c2 ++ (r2 ++ r1 ++ cur.toList.drop (l.length * t.size)) := by
          have h0 := List.take_append_drop (l.length * t.size) cur.toList
          rw [k5, q1, z1] at h0
          simpa using h0.symm
        exact at_row k2 hcur (by simp [q2, z2]) j u hu
      · simp only [beq_false hc, cond_false]
        exact hoff _ (beq_false hc) h
  | tv d => exact RelV.mono hle h
  | nils => exact h
  | cptr d => exact hoff _ rfl h
  | gone => trivial
  | own _ _ => exact h
  | tup _ => exact h

theorem froz_rel {t : Ty} {l : List t.D} {b : Nat} (hb : look b bx = some (.vec t l)) (hB : BoxR σ w n0 (.vec t l) (H b)) (hle : Store.le σ τ) (hg : ∀ g, hBlock (H b) = some g → τ g = w.heap[g]?)
    {s : SV} {v : Value} (h : SVR σ bx H s v) : SVR τ (del b bx) H (s.froz b t l) v := by
  rcases tup_or s with ⟨m, rfl⟩ | hs
  · obtain ⟨vs, h1, h2, h3⟩ := h
    refine ⟨vs, h1, by simp [h2], fun i s' u hs' hu => ?_⟩
    simp only [List.getElem?_map, Option.map_eq_some_iff] at hs'
    obtain ⟨s0, e1, rfl⟩ := hs'
    exact froz1_rel hb hB hle hg (h3 i s0 u e1 hu)
  · have e : s.froz b t l = s.froz1 b t l := by cases s <;> first | rfl | exact (hs _ rfl).elim
    rw [e]
    have h' := froz1_rel hb hB hle hg ((svr_iff hs v).1 h)
    exact svr_of_svr1 h'

theorem Rel.freeze {st : St} {a : Act} (h : Rel C N n0 σ H st a w) (b : Nat) : ∃ σ', Trans n0 σ w σ' w ∧ Rel C N n0 σ' H (st.freeze b) a w := by
  have hrefl : Trans n0 σ w σ w := ⟨Store.le.refl σ, h.holds, fun _ _ h => .inl h, Nat.le_refl _, fun _ _ => rfl, rfl, rfl, rfl⟩
  unfold St.freeze
  cases hb : look b st.bx with
  | none => exact ⟨σ, hrefl, h⟩
  | some bb =>
    cases bb with
    | var d => exact ⟨σ, hrefl, h⟩
    | vec t l =>
      have hB := h.box b _ hb
      have hblk := hB.block
      have hle : Store.le σ (fun k => if hBlock (H b) = some k then w.heap[k]? else σ k) := by
        intro k o hk
        show (if hBlock (H b) = some k then w.heap[k]? else σ k) = some o
        split
        · rename_i e; have := (hblk k e).2.2.1; rw [hk] at this; simp at this
        · exact hk
      have hg : ∀ g, hBlock (H b) = some g → (fun k => if hBlock (H b) = some k then w.heap[k]? else σ k) g = w.heap[g]? := fun g e => by simp [e]
      have hholds : Holds w (fun k => if hBlock (H b) = some k then w.heap[k]? else σ k) := by
        intro k o hk
        change (if hBlock (H b) = some k then w.heap[k]? else σ k) = some o at hk
        split at hk
        · exact hk
        · exact h.holds k o hk
      refine ⟨_, ⟨hle, hholds, fun k o hk => ?_, Nat.le_refl _, fun _ _ => rfl, rfl, rfl, rfl⟩, hholds, h.size, h.defers, h.base, fun k b' hk => ?_, fun k k' b1 b2 g hk hk' => ?_, fun k s hk hc => ?_⟩
      · change (if hBlock (H b) = some k then w.heap[k]? else σ k) = some o at hk
        split at hk
        · rename_i e; exact .inr (hblk k e).2.1
        · exact .inl hk
      · simp only [look_del] at hk
        split at hk
        · simp at hk
        · rename_i hne
          refine (h.box k b' hk).keep hle fun g hg' => ⟨rfl, ?_⟩
          have h1 := h.apart b k _ b' g hb hk (Ne.symm hne)
          have h2 : ¬ hBlock (H b) = some g := fun e => h1 e hg'
          simp only [h2, if_false]
          exact ((h.box k b' hk).block g hg').2.2.1
      · simp only [look_del] at hk hk'
        split at hk
        · simp at hk
        · split at hk'
          · simp at hk'
          · exact h.apart k k' b1 b2 g hk hk'
      · simp only [look_mapS, Option.map_eq_some_iff] at hk
        obtain ⟨s0, e, rfl⟩ := hk
        exact froz_rel hb hB hle hg (h.slot k s0 e hc)

theorem Trans.refl (hh : Holds w σ) : Trans n0 σ w σ w := ⟨Store.le.refl σ, hh, fun _ _ h => .inl h, Nat.le_refl _, fun _ _ => rfl, rfl, rfl, rfl⟩

theorem Rel.freezeOps {a : Act} : ∀ (xs : List Operand) (st : St) (σ : Store), Rel C N n0 σ H st a w → ∃ σ', Trans n0 σ w σ' w ∧ Rel C N n0 σ' H (freezeOps st xs) a w
  | [], st, σ, h => ⟨σ, Trans.refl h.holds, h⟩
  | x :: xs, st, σ, h => by
    simp only [Lift.freezeOps]
    split
    · rename_i b _
      obtain ⟨σ1, t1, h1⟩ := h.freeze b
      obtain ⟨σ2, t2, h2⟩ := Rel.freezeOps xs _ σ1 h1
      exact ⟨σ2, t1.trans t2, h2⟩
    · rename_i b _ _ _
      obtain ⟨σ1, t1, h1⟩ := h.freeze b
      obtain ⟨σ2, t2, h2⟩ := Rel.freezeOps xs _ σ1 h1
      exact ⟨σ2, t1.trans t2, h2⟩
    · exact Rel.freezeOps xs st σ h

/-! renaming -/
theorem ren1_rel {b d : Nat} (hbd : b ≠ d) {x : Box} (hx : look b bx = some x) {s : SV} {v : Value} (hm : s.mentions1 d = false) (h : SVR1 σ bx H s v) :
    SVR1 σ (ins d x (del b bx)) (fun k => if k = d then H b else H k) (s.ren1 b d) v := by
  have hne : ∀ c, Nat.beq c d = false → c ≠ d := fun c hc e => by subst e; simp at hc
  have hlk : ∀ c, c ≠ d → c ≠ b → look c (ins d x (del b bx)) = look c bx := fun c h1 h2 => by simp [look_ins, look_del, h1, h2]
  have hld : look d (ins d x (del b bx)) = some x := by simp [look_ins]
  cases s with
  | ref c =>
    obtain ⟨t, l, h1, h2⟩ := h
    simp only [SV.ren1]
    by_cases hc : c = b
    · subst hc
      rw [hx] at h1
      simp only [beq_self, cond_true]
      exact ⟨t, l, by rw [hld, h1], by simp [h2]⟩
    · have hcd := hne c hm
      simp only [beq_false hc, cond_false]
      exact ⟨t, l, (hlk c hcd hc).trans h1, by simp [hcd, h2]⟩
  | view c lo hi =>
    obtain ⟨t, l, h1, h2, h3, h4⟩ := h
    simp only [SV.ren1]
    by_cases hc : c = b
    · subst hc
      rw [hx] at h1
      simp only [beq_self, cond_true]
      exact ⟨t, l, by rw [hld, h1], h2, h3, by simp [h4]⟩
    · have hcd := hne c hm
      simp only [beq_false hc, cond_false]
      exact ⟨t, l, (hlk c hcd hc).trans h1, h2, h3, by simp [hcd, h4]⟩
  | ptr c ix p =>
    simp only [SV.ren1]
    by_cases hc : c = b
    · subst hc
      simp only [beq_self, cond_true]
      cases ix with
      | none =>
        obtain ⟨d0, e, g, h1, h2, h3, h4⟩ := h
        rw [hx] at h1
        exact ⟨d0, e, g, by rw [hld, h1], h2, by simp [h3], h4⟩
      | some i =>
        obtain ⟨t, l, e, g, n, cc, h1, h2, h3, h4, h5⟩ := h
        rw [hx] at h1
        exact ⟨t, l, e, g, n, cc, by rw [hld, h1], h2, h3, by simp [h4], h5⟩
    · have hcd := hne c hm
      simp only [beq_false hc, cond_false]
      cases ix with
      | none =>
        obtain ⟨d0, e, g, h1, h2, h3, h4⟩ := h
        exact ⟨d0, e, g, (hlk c hcd hc).trans h1, h2, by simp [hcd, h3], h4⟩
      | some i =>
        obtain ⟨t, l, e, g, n, cc, h1, h2, h3, h4, h5⟩ := h
        exact ⟨t, l, e, g, n, cc, (hlk c hcd hc).trans h1, h2, h3, by simp [hcd, h4], h5⟩
  | tv d => exact h
  | nils => exact h
  | cptr d => exact h
  | gone => trivial
  | own _ _ => exact h
  | tup _ => exact h

theorem Rel.rename {st : St} {a : Act} {b d : Nat} (h : Rel C N n0 σ H st a w) (hbd : b ≠ d) {x : Box} (hx : look b st.bx = some x) :
    Rel C N n0 σ (fun k => if k = d then H b else H k) (st.rename b d) a w := by
  have hk := h.kill (d := d)
  have hxb : look b (st.kill d).bx = some x := by simp [St.kill, look_del, hbd, hx]
  have e : st.rename b d = ⟨mapS (SV.ren b d) (st.kill d).sl, ins d x (del b (st.kill d).bx)⟩ := by
    unfold St.rename
    simp only [beq_false hbd, cond_false, hx]
  rw [e]
  refine ⟨h.holds, h.size, h.defers, h.base, fun k b' hkk => ?_, fun k k' b1 b2 g h1 h2 hne hg hg' => ?_, fun k s hs hc => ?_⟩
  · simp only [look_ins] at hkk
    by_cases ek : k = d
    · simp [ek] at hkk ⊢; subst hkk; exact hk.box b _ hxb
    · simp [ek, look_del] at hkk ⊢
      exact hk.box k b' hkk.2
  · simp only [look_ins] at h1 h2
    by_cases ek : k = d
    · by_cases ek' : k' = d
      · exact hne (ek.trans ek'.symm)
      · simp [ek, ek', look_del] at h1 h2 hg hg'
        subst h1
        exact hk.apart b k' _ b2 g hxb h2.2 (Ne.symm h2.1) hg hg'
    · by_cases ek' : k' = d
      · simp [ek, ek', look_del] at h1 h2 hg hg'
        subst h2
        exact hk.apart k b b1 _ g h1.2 hxb h1.1 hg hg'
      · simp [ek, ek', look_del] at h1 h2 hg hg'
        exact hk.apart k k' b1 b2 g h1.2 h2.2 hne hg hg'
  · simp only [look_mapS, Option.map_eq_some_iff] at hs
    obtain ⟨s0, e0, rfl⟩ := hs
    have hm := kill_not e0
    have hr := hk.slot k s0 e0 hc
    rcases tup_or s0 with ⟨m, rfl⟩ | hs
    · obtain ⟨vs, h1, h2, h3⟩ := hr
      refine ⟨vs, h1, by simp [h2], fun i s' u hs' hu => ?_⟩
      simp only [List.getElem?_map, Option.map_eq_some_iff] at hs'
      obtain ⟨s1, e1, rfl⟩ := hs'
      simp only [SV.mentions, List.any_eq_false] at hm
      exact ren1_rel hbd hxb (by simpa using hm s1 (List.mem_of_getElem? e1)) (h3 i s1 u e1 hu)
    · have e : s0.ren b d = s0.ren1 b d := by cases s0 <;> first | rfl | exact (hs _ rfl).elim
      rw [e]
      exact svr_of_svr1 (ren1_rel hbd hxb (by rw [← mentions_eq hs]; exact hm) ((svr_iff hs _).1 hr))

end
end Go.Lift
