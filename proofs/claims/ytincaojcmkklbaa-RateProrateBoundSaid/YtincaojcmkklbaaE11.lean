/- A part of the proof that the law returns true for every input: no condition. -/
import Derived.Test.YtincaojcmkklbaaE10
set_option linter.unusedSimpArgs false
namespace Go.Lift

theorem beq_false {j k : Nat} (h : j ≠ k) : Nat.beq j k = false := by
  cases hb : Nat.beq j k with
  | false => rfl
  | true => exact (h (Nat.eq_of_beq_eq_true hb)).elim
theorem beq_self (j : Nat) : Nat.beq j j = true := by simp

theorem look_ins {α : Type} (k : Nat) (v : α) : ∀ (l : List (Nat × α)) (j : Nat), look j (ins k v l) = if j = k then some v else look j l
  | [], j => by
    by_cases h : j = k
    · subst h; simp [ins, look, beq_self]
    · simp [ins, look, h, beq_false (Ne.symm h)]
  | (i, u) :: r, j => by
    by_cases hik : i = k
    · subst hik
      simp only [ins, beq_self, cond_true, look]
      by_cases h : j = i
      · subst h; simp [beq_self]
      · simp [h, beq_false (Ne.symm h)]
    · simp only [ins, beq_false hik, cond_false]
      cases hb : Nat.blt k i with
      | true =>
        simp only [cond_true, look]
        by_cases h : j = k
        · subst h; simp [beq_self]
        · simp [h, beq_false (Ne.symm h)]
      | false =>
        simp only [cond_false, look]
        by_cases h : i = j
        · subst h; simp [beq_self, hik]
        · simp only [beq_false h, cond_false]
          exact look_ins k v r j

theorem look_del {α : Type} (k : Nat) : ∀ (l : List (Nat × α)) (j : Nat), look j (del k l) = if j = k then none else look j l
  | [], j => by simp [del, look]
  | (i, u) :: r, j => by
    simp only [del]
    by_cases hik : i = k
    · subst hik
      simp only [beq_self, cond_true, look_del i r j]
      by_cases h : j = i
      · simp [h]
      · simp [h, look, beq_false (Ne.symm h)]
    · simp only [beq_false hik, cond_false, look]
      by_cases h : i = j
      · subst h; simp [beq_self, hik]
      · simp only [beq_false h, cond_false]
        exact look_del k r j

theorem look_mapS {α β : Type} (f : α → β) : ∀ (l : List (Nat × α)) (j : Nat), look j (mapS f l) = (look j l).map f
  | [], j => rfl
  | (i, u) :: r, j => by
    simp only [mapS, look]
    cases Nat.beq i j
    · simp only [cond_false]; exact look_mapS f r j
    · rfl

theorem look_filter {α : Type} (p : Nat → Bool) : ∀ (l : List (Nat × α)) (j : Nat), look j (l.filter fun x => p x.1) = if p j then look j l else none
  | [], j => by simp [look]
  | (i, u) :: r, j => by
    simp only [List.filter_cons]
    by_cases hij : i = j
    · subst hij
      cases hp : p i with
      | true => simp [look, beq_self]
      | false => simp [look_filter p r i, hp]
    · cases hp : p i with
      | true => simp only [if_true, look, beq_false hij, cond_false]; exact look_filter p r j
      | false => simp only [Bool.false_eq_true, if_false, look, beq_false hij, cond_false]; exact look_filter p r j

structure Trans (n0 : Nat) (σ : Store) (w : World) (σ' : Store) (w' : World) : Prop where
  le : Store.le σ σ'
  holds : Holds w' σ'
  news : ∀ b o, σ' b = some o → σ b = some o ∨ n0 ≤ b
  size : w.heap.size ≤ w'.heap.size
  block : ∀ b, b < n0 → w'.heap[b]? = w.heap[b]?
  os : w'.os = w.os
  output : w'.output = w.output
  tape : w'.tape = w.tape

theorem Trans.trans {n0 : Nat} {σ σ' σ'' : Store} {w w' w'' : World} (h : Trans n0 σ w σ' w') (h' : Trans n0 σ' w' σ'' w'') : Trans n0 σ w σ'' w'' :=
  ⟨h.le.trans h'.le, h'.holds, fun b o hb => (h'.news b o hb).elim (fun h1 => h.news b o h1) .inr, Nat.le_trans h.size h'.size, fun b hb => (h'.block b hb).trans (h.block b hb),
    h'.os.trans h.os, h'.output.trans h.output, h'.tape.trans h.tape⟩

theorem Step.trans' {n0 : Nat} {σ σ' : Store} {w w' : World} (hn : n0 ≤ w.heap.size) (h : Step σ w σ' w') : Trans n0 σ w σ' w' :=
  ⟨h.le, h.holds, fun b o hb => (h.news b o hb).imp id (fun h1 => Nat.le_trans hn h1), h.size, fun b hb => h.block b (Nat.lt_of_lt_of_le hb hn), h.os, h.output, h.tape⟩

theorem Trans.step {σ σ' : Store} {w w' : World} (h : Trans w.heap.size σ w σ' w') : Step σ w σ' w' := ⟨h.le, h.holds, h.news, h.size, h.block, h.os, h.output, h.tape⟩

section
variable {w w' : World} {σ σ' : Store} {bx bx' : List (Nat × Box)} {H H' : Nat → Value} {n0 N : Nat} {C : Nat → Prop}

theorem BoxR.block {b : Box} {v : Value} (h : BoxR σ w n0 b v) : ∀ g, hBlock v = some g → g < w.heap.size ∧ n0 ≤ g ∧ σ g = none ∧ ∃ c t, w.heap[g]? = some (.cells c t (0, 0)) := by
  intro g hg
  cases b with
  | var d =>
    obtain ⟨g', cs, ty, h1, h2, _, h4, h5⟩ := h
    subst h1; simp [hBlock] at hg; subst hg
    exact ⟨(Array.getElem?_eq_some_iff.1 h2).1, h4, h5, _, _, h2⟩
  | vec t l =>
    obtain ⟨ety, xs, h1, _, h3, _⟩ := h
    have hs := h3 g hg
    rcases h1.2 with ⟨rfl, _⟩ | ⟨g', cap, cur, rfl, hb, hg', _⟩
    · simp [hBlock] at hg
    · simp [hBlock] at hg; subst hg
      exact ⟨(Array.getElem?_eq_some_iff.1 hg').1, hb, hs, _, _, hg'⟩

/-- a box keeps its content where its block and its cells' meaning stay -/
theorem BoxR.keep {b : Box} {v : Value} (h : BoxR σ w n0 b v) (hle : Store.le σ σ') (hb : ∀ g, hBlock v = some g → w'.heap[g]? = w.heap[g]? ∧ σ' g = none) : BoxR σ' w' n0 b v := by
  cases b with
  | var d =>
    obtain ⟨g', cs, ty, h1, h2, h3, h4, h5⟩ := h
    obtain ⟨k1, k2⟩ := hb g' (by rw [h1]; rfl)
    exact ⟨g', cs, ty, h1, k1.trans h2, h3.mono hle, h4, k2⟩
  | vec t l =>
    obtain ⟨ety, xs, h1, h2, h3, h4⟩ := h
    refine ⟨ety, xs, ⟨h1.1, ?_⟩, EncL.mono hle _ _ h2, fun g hg => (hb g hg).2, h4⟩
    rcases h1.2 with hn | ⟨g', cap, cur, e1, e2, e3, rest⟩
    · exact .inl hn
    · exact .inr ⟨g', cap, cur, e1, e2, ((hb g' (by rw [e1]; rfl)).1).trans e3, rest⟩

theorem SVR1.mono {s : SV} {v : Value} (h : SVR1 σ bx H s v) (hle : Store.le σ σ') : SVR1 σ' bx H s v := by
  cases s with
  | tv d => exact RelV.mono hle h
  | cptr d => obtain ⟨a, cs, h1, h2, h3⟩ := h; exact ⟨a, cs, h1, h2.mono hle, h3.mono hle⟩
  | ptr b ix p => cases ix <;> exact h
  | _ => exact h

theorem tup_or (s : SV) : (∃ l, s = .tup l) ∨ (∀ l, s ≠ .tup l) := by cases s <;> first | exact .inl ⟨_, rfl⟩ | (right; intro l h; cases h)
theorem svr_iff {s : SV} (hs : ∀ l, s ≠ .tup l) (v : Value) : SVR σ bx H s v ↔ SVR1 σ bx H s v := by
  cases s <;> first | exact Iff.rfl | exact (hs _ rfl).elim
theorem mentions_eq {s : SV} (hs : ∀ l, s ≠ .tup l) (d : Nat) : s.mentions d = s.mentions1 d := by
  cases s <;> first | rfl | exact (hs _ rfl).elim

theorem SVR.mono {s : SV} {v : Value} (h : SVR σ bx H s v) (hle : Store.le σ σ') : SVR σ' bx H s v := by
  rcases tup_or s with ⟨l, rfl⟩ | hs
  · obtain ⟨vs, h1, h2, h3⟩ := h; exact ⟨vs, h1, h2, fun i s u hs hu => (h3 i s u hs hu).mono hle⟩
  · exact (svr_iff hs v).2 (((svr_iff hs v).1 h).mono hle)

theorem SVR1.off {s : SV} {v : Value} {d : Nat} (hd : s.mentions1 d = false) (hb : ∀ c, c ≠ d → look c bx' = look c bx ∧ H' c = H c) (h : SVR1 σ bx H s v) : SVR1 σ bx' H' s v := by
  have hne : ∀ c, Nat.beq c d = false → c ≠ d := fun c hc e => by subst e; simp at hc
  cases s with
  | tv d => exact h
  | nils => exact h
  | cptr d => exact h
  | gone => trivial
  | own t l => exact h
  | tup l => exact h
  | ref b =>
    obtain ⟨t, l, h1, h2⟩ := h
    have := hb b (hne b hd)
    exact ⟨t, l, this.1.trans h1, h2.trans this.2.symm⟩
  | view b lo hi =>
    obtain ⟨t, l, h1, h2, h3, h4⟩ := h
    have := hb b (hne b hd)
    exact ⟨t, l, this.1.trans h1, h2, h3, by rw [this.2]; exact h4⟩
  | ptr b ix p =>
    have := hb b (hne b hd)
    cases ix with
    | none =>
      obtain ⟨d0, e, g, h1, h2, h3, h4⟩ := h
      exact ⟨d0, e, g, this.1.trans h1, h2, this.2.trans h3, h4⟩
    | some i =>
      obtain ⟨t, l, e, g, n, c, h1, h2, h3, h4, h5⟩ := h
      exact ⟨t, l, e, g, n, c, this.1.trans h1, h2, h3, this.2.trans h4, h5⟩

theorem SVR.off {s : SV} {v : Value} {d : Nat} (hd : s.mentions d = false) (hb : ∀ c, c ≠ d → look c bx' = look c bx ∧ H' c = H c) (h : SVR σ bx H s v) : SVR σ bx' H' s v := by
  rcases tup_or s with ⟨l, rfl⟩ | hs
  · obtain ⟨vs, h1, h2, h3⟩ := h
    simp only [SV.mentions, List.any_eq_false] at hd
    exact ⟨vs, h1, h2, fun i s u hs hu => (h3 i s u hs hu).off (by simpa using hd s (List.mem_of_getElem? hs)) hb⟩
  · exact (svr_iff hs v).2 (((svr_iff hs v).1 h).off (by rw [← mentions_eq hs]; exact hd) hb)

theorem SVR.dead {s : SV} {v : Value} {d : Nat} (hb : ∀ c, c ≠ d → look c bx' = look c bx ∧ H' c = H c) (h : SVR σ bx H s v) : SVR σ bx' H' (s.dead d) v := by
  unfold SV.dead
  cases hd : s.mentions d with
  | true => trivial
  | false => exact SVR.off hd hb h

/-- a change of memory below which all boxes stay -/
theorem Rel.step {st : St} {a : Act} (h : Rel C N n0 σ H st a w) (hs : Step σ w σ' w') : Rel C N n0 σ' H st a w' where
  holds := hs.holds
  size := h.size
  defers := h.defers
  base := Nat.le_trans h.base hs.size
  box := fun k b hk => (h.box k b hk).keep hs.le fun g hg => by
    obtain ⟨h1, h2, h3, _⟩ := (h.box k b hk).block g hg
    refine ⟨hs.block g h1, ?_⟩
    cases hn : σ' g with
    | none => rfl
    | some o => rcases hs.news g o hn with h4 | h4 <;> first | (rw [h3] at h4; simp at h4) | omega
  apart := h.apart
  slot := fun k s hk hc => (h.slot k s hk hc).mono hs.le

theorem getD_put {a : Act} {d : Nat} {v : Value} (hd : d < a.tmps.size) (k : Nat) : (a.put (some d) v).tmps.getD k undef = if k = d then v else a.tmps.getD k undef := by
  simp only [Act.put, Array.getD_eq_getD_getElem?, Array.getElem?_setIfInBounds]
  by_cases h : d = k
  · subst h; simp [hd]
  · simp [h, Ne.symm h]

theorem put_size {a : Act} {d : Option Nat} {v : Value} : (a.put d v).tmps.size = a.tmps.size := by
  cases d <;> simp [Act.put]
theorem put_defers {a : Act} {d : Option Nat} {v : Value} : (a.put d v).defers = a.defers := by
  cases d <;> rfl

def dstOK (N : Nat) (d : Option Nat) : Prop := ∀ k, d = some k → k < N

theorem Rel.put {st : St} {a : Act} {d : Option Nat} {s : SV} {v : Value} (h : Rel C N n0 σ H st a w) (hd : dstOK N d) (hs : SVR σ st.bx H s v) : Rel C N n0 σ H (st.put d s) (a.put d v) w := by
  cases d with
  | none => exact h
  | some d =>
    refine ⟨h.holds, by rw [put_size]; exact h.size, by rw [put_defers]; exact h.defers, h.base, h.box, h.apart, fun k s' hk hc => ?_⟩
    simp only [St.put, look_ins] at hk ⊢
    rw [getD_put (by rw [h.size]; exact hd d rfl)]
    split at hk
    · simp at hk; subst hk; rename_i e; rw [if_pos e]; exact hs
    · rename_i e; rw [if_neg e]; exact h.slot k s' hk hc

theorem Rel.unput {st : St} {a : Act} {d : Option Nat} {v : Value} (h : Rel C N n0 σ H st a w) (hd : dstOK N d) : Rel C N n0 σ H (st.unput d) (a.put d v) w := by
  cases d with
  | none => exact h
  | some d =>
    refine ⟨h.holds, by rw [put_size]; exact h.size, by rw [put_defers]; exact h.defers, h.base, h.box, h.apart, fun k s' hk hc => ?_⟩
    simp only [St.unput, look_del] at hk ⊢
    rw [getD_put (by rw [h.size]; exact hd d rfl)]
    split at hk
    · simp at hk
    · rename_i e; rw [if_neg e]; exact h.slot k s' hk hc

theorem Rel.kill {st : St} {a : Act} {d : Nat} (h : Rel C N n0 σ H st a w) : Rel C N n0 σ H (st.kill d) a w := by
  refine ⟨h.holds, h.size, h.defers, h.base, fun k b hk => ?_, fun k k' b b' g hk hk' => ?_, fun k s hk hc => ?_⟩
  · simp only [St.kill, look_del] at hk
    split at hk
    · simp at hk
    · exact h.box k b hk
  · simp only [St.kill, look_del] at hk hk'
    split at hk
    · simp at hk
    · split at hk'
      · simp at hk'
      · exact h.apart k k' b b' g hk hk'
  · simp only [St.kill, look_mapS, Option.map_eq_some_iff] at hk
    obtain ⟨s0, h1, rfl⟩ := hk
    exact SVR.dead (fun c hc => ⟨by simp [St.kill, look_del, hc], rfl⟩) (h.slot k s0 h1 hc)

theorem Rel.killAll {a : Act} : ∀ (bs : List Nat) {st : St}, Rel C N n0 σ H st a w → Rel C N n0 σ H (Lift.killAll bs st) a w
  | [], _, h => h
  | _ :: bs, _, h => Rel.killAll bs h.kill

theorem look_pickS {α : Type} {ks : List Nat} {k : Nat} {v : α} : ∀ {l : List (Nat × α)}, (∀ j, (∃ u, look j (pickS ks l) = some u) → ks.any (Nat.beq j) = true) ∧ (look k (pickS ks l) = some v → look k l = some v)
  | [] => ⟨fun j ⟨u, h⟩ => by simp [pickS, look] at h, fun h => by simp [pickS, look] at h⟩
  | (i, u) :: r => by
    obtain ⟨h1, h2⟩ := look_pickS (ks := ks) (k := k) (v := v) (l := r)
    cases hc : ks.any (Nat.beq i) with
    | true =>
      simp only [pickS, hc, cond_true]
      refine ⟨fun j hj => ?_, fun h => ?_⟩
      · obtain ⟨u', hj⟩ := hj
        simp only [look] at hj
        cases hb : Nat.beq i j with
        | true => have := Nat.eq_of_beq_eq_true hb; subst this; exact hc
        | false => rw [hb] at hj; exact h1 j ⟨u', hj⟩
      · simp only [look] at h ⊢
        cases hb : Nat.beq i k with
        | true => rw [hb] at h; exact h
        | false => rw [hb] at h; exact h2 h
    | false =>
      simp only [pickS, hc, cond_false]
      refine ⟨h1, fun h => ?_⟩
      have hk := h1 k
      simp only [look]
      cases hb : Nat.beq i k with
      | true =>
        have := Nat.eq_of_beq_eq_true hb; subst this
        cases hq : look i (pickS ks r) with
        | none => rw [hq] at h; simp at h
        | some q => rw [h1 i ⟨q, hq⟩] at hc; simp at hc
      | false => exact h2 h

theorem Rel.keep {st : St} {a : Act} {ks : List Nat} (h : Rel C N n0 σ H st a w) : Rel C N n0 σ H (keep ks st) a w := by
  have h' := Rel.killAll (outS ks st.bx) h
  refine ⟨h'.holds, h'.size, h'.defers, h'.base, h'.box, h'.apart, fun k s hk hc => ?_⟩
  simp only [Lift.keep] at hk
  exact h'.slot k s (look_pickS.2 hk) hc

theorem kill_not {st : St} {d k : Nat} {s : SV} (h : look k (st.kill d).sl = some s) : s.mentions d = false := by
  simp only [St.kill, look_mapS, Option.map_eq_some_iff] at h
  obtain ⟨s0, _, rfl⟩ := h
  unfold SV.dead
  cases hm : s0.mentions d with
  | true => rfl
  | false => exact hm

/-- a new block becomes a new box -/
theorem Rel.newBox {st : St} {a : Act} {d : Nat} {b : Box} {s : SV} {v u : Value} (h : Rel C N n0 σ H st a w) (hs : Step σ w σ' w') (hd : d < N)
    (hb : BoxR σ' w' n0 b u) (hnew : ∀ g, hBlock u = some g → w.heap.size ≤ g) (hv : ∀ bx' H', look d bx' = some b → H' d = u → SVR σ' bx' H' s v) :
    Rel C N n0 σ' (fun k => if k = d then u else H k) (st.newBox d b s) (a.put (some d) v) w' := by
  have h1 := (h.step hs).kill (d := d)
  refine ⟨hs.holds, by rw [put_size]; exact h.size, by rw [put_defers]; exact h.defers, h1.base, fun k b' hk => ?_, fun k k' b1 b2 g hk hk' hne hg hg' => ?_, fun k s' hk hc => ?_⟩
  · simp only [St.newBox, look_ins] at hk
    by_cases e : k = d
    · simp [e] at hk ⊢; subst hk; exact hb
    · simp [e] at hk ⊢; exact h1.box k b' hk
  · simp only [St.newBox, look_ins] at hk hk'
    by_cases e : k = d
    · by_cases e' : k' = d
      · exact hne (e.trans e'.symm)
      · simp [e, e'] at hk hk' hg hg'
        have hold : look k' st.bx = some b2 := by simpa [St.kill, look_del, e'] using hk'
        have := ((h.box k' b2 hold).block g hg').1
        have := hnew g hg
        omega
    · by_cases e' : k' = d
      · simp [e, e'] at hk hk' hg hg'
        have hold : look k st.bx = some b1 := by simpa [St.kill, look_del, e] using hk
        have := ((h.box k b1 hold).block g hg).1
        have := hnew g hg'
        omega
      · simp [e, e'] at hk hk' hg hg'
        exact h1.apart k k' b1 b2 g hk hk' hne hg hg'
  · simp only [St.newBox, look_ins] at hk ⊢
    rw [getD_put (by rw [h.size]; exact hd)]
    by_cases e : k = d
    · rw [if_pos e]
      simp [e] at hk; subst hk
      exact hv _ _ (by simp [look_ins]) (by simp)
    · rw [if_neg e]
      simp [e] at hk
      refine SVR.off (d := d) (kill_not hk) (fun c hc' => ?_) (h1.slot k s' hk hc)
      simp [look_ins, hc']

end
end Go.Lift
