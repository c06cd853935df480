/- A part of the proof that the law returns true for every input: no condition. -/
import Derived.Test.YtincaojcmkklbaaE17
set_option linter.unusedSimpArgs false
namespace Go.Lift

/-! what the static looks say -/
theorem gds_spec : ∀ (l : List Oper) (k j : Nat) (o : Oper) (g : Nat × Bool) (d : Nat), l[j]? = some o → o.guard = some g → o.dst = some d → (d, k + j, g) ∈ gds k l
  | [], _, _, _, _, _, h, _, _ => by simp at h
  | o' :: r, k, j, o, g, d, h, hg, hd => by
    simp only [gds]
    cases j with
    | zero =>
      simp at h; subst h
      simp [hg, hd]
    | succ j =>
      have := gds_spec r (k + 1) j o g d (by simpa using h) hg hd
      rw [show k + (j + 1) = k + 1 + j by omega]
      split
      · exact List.mem_cons_of_mem _ this
      · exact this

theorem okOpers_spec {all : List Oper} {gs : List (Nat × Nat × Nat × Bool)} : ∀ (l : List Oper) (k : Nat), okOpers all gs k l = true → ∀ (j : Nat) (o : Oper), l[j]? = some o → okOper all gs (k + j) o = true
  | [], _, _, _, _, h => by simp at h
  | o' :: r, k, h, j, o, hj => by
    simp only [okOpers, Bool.and_eq_true] at h
    cases j with
    | zero => simp at hj; subst hj; exact h.1
    | succ j => rw [show k + (j + 1) = k + 1 + j by omega]; exact okOpers_spec r (k + 1) h.2 j o (by simpa using hj)

theorem distinctB_spec : ∀ {l : List Nat}, distinctB l = true → l.Nodup
  | [], _ => List.nodup_nil
  | a :: r, h => by
    simp only [distinctB, Bool.and_eq_true, Bool.not_eq_true', List.any_eq_false] at h
    refine List.nodup_cons.2 ⟨fun hm => ?_, distinctB_spec h.2⟩
    have := h.1 a hm
    simp at this

theorem dst_inj : ∀ {l : List Oper}, (l.filterMap (·.dst)).Nodup → ∀ (i j : Nat) (o o' : Oper) (d : Nat), l[i]? = some o → l[j]? = some o' → o.dst = some d → o'.dst = some d → i = j
  | [], _, _, _, _, _, _, h, _, _, _ => by simp at h
  | x :: r, hn, i, j, o, o', d, hi, hj, ho, ho' => by
    have mem : ∀ (k : Nat) (p : Oper), r[k]? = some p → p.dst = some d → d ∈ r.filterMap (·.dst) := fun k p hk hp => List.mem_filterMap.2 ⟨p, List.mem_of_getElem? hk, hp⟩
    simp only [List.filterMap_cons] at hn
    cases i with
    | zero =>
      simp at hi; subst hi
      cases j with
      | zero => rfl
      | succ j =>
        simp only [ho] at hn
        exact ((List.nodup_cons.1 hn).1 (mem j o' (by simpa using hj) ho')).elim
    | succ i =>
      cases j with
      | zero =>
        simp at hj; subst hj
        simp only [ho'] at hn
        exact ((List.nodup_cons.1 hn).1 (mem i o (by simpa using hi) ho)).elim
      | succ j =>
        have hn' : (r.filterMap (·.dst)).Nodup := by
          split at hn
          · exact hn
          · exact (List.nodup_cons.1 hn).2
        exact congrArg (· + 1) (dst_inj hn' i j o o' d (by simpa using hi) (by simpa using hj) ho ho')

section
variable {P : Program} {T : Nat → Option Ty} {G : Tbl} {w w' : World} {σ σ' τ : Store} {H H' : Nat → Value} {n0 N : Nat} {ops : Array Oper}

def want (ops : Array Oper) (o : Oper) (a : Act) : Bool := Region.wanted o (yielded ops a.tmps)

/-- of which slots the state speaks: of those whose operation, if it has been done, was not passed over -/
def Cn (ops : Array Oper) (D : Nat → Prop) (a : Act) : Nat → Prop := fun k => ∀ (j : Nat) (o : Oper), D j → ops.toList[j]? = some o → o.dst = some k → want ops o a = true

structure Inv (ops : Array Oper) (D : Nat → Prop) (N n0 : Nat) (σ : Store) (H : Nat → Value) (st : St) (a : Act) (w : World) : Prop where
  rel : Rel (Cn ops D a) N n0 σ H st a w
  skip : ∀ (j : Nat) (o : Oper) (k : Nat), D j → ops.toList[j]? = some o → o.dst = some k → want ops o a = false → a.tmps.getD k undef = undef

structure Static (N : Nat) (ops : Array Oper) : Prop where
  inj : ∀ (i j : Nat) (o o' : Oper) (d : Nat), ops.toList[i]? = some o → ops.toList[j]? = some o' → o.dst = some d → o'.dst = some d → i = j
  lt : ∀ (i : Nat) (o : Oper) (d : Nat), ops.toList[i]? = some o → o.dst = some d → d < N
  ok : ∀ (i : Nat) (o : Oper), ops.toList[i]? = some o → okOper ops.toList (gds 0 ops.toList) i o = true

theorem static_of {N : Nat} {ops : Array Oper} (h : guardsOK N ops.toList = true) : Static N ops := by
  simp only [guardsOK, Bool.and_eq_true] at h
  obtain ⟨⟨h1, h2⟩, h3⟩ := h
  refine ⟨dst_inj (distinctB_spec h2), fun i o d hi hd => ?_, fun i o hi => by simpa using okOpers_spec ops.toList 0 h1 i o hi⟩
  have := List.all_eq_true.1 h3 o (List.mem_of_getElem? hi)
  rw [hd] at this
  exact blt_lt this

theorem want_none {o : Oper} {a : Act} (h : o.guard = none) : want ops o a = true := by simp [want, Region.wanted, h]
theorem want_some {o : Oper} {a : Act} {m : Nat} {b : Bool} (h : o.guard = some (m, b)) : want ops o a = (yielded ops a.tmps m == some b) := by simp [want, Region.wanted, h]

theorem yielded_bool {a : Act} {m d : Nat} {om : Oper} {b : Bool} (hm : ops.toList[m]? = some om) (hd : om.dst = some d) (hv : a.tmps.getD d undef = .bool b) : yielded ops a.tmps m = some b := by
  have h1 : ops[m]? = some om := by simpa using hm
  have h2 : a.tmps[d]? = some (.bool b) := by
    rcases Nat.lt_or_ge d a.tmps.size with h | h
    · simp [Array.getD, h] at hv; simp [h, hv]
    · simp [Array.getD, Nat.not_lt.2 h, undef] at hv
  simp [yielded, h1, hd, h2]

theorem yielded_undef {a : Act} {m d : Nat} {om : Oper} (hm : ops.toList[m]? = some om) (hd : om.dst = some d) (hv : a.tmps.getD d undef = undef) : yielded ops a.tmps m = none := by
  have h1 : ops[m]? = some om := by simpa using hm
  unfold yielded
  simp only [h1, Option.bind_some, hd]
  cases h2 : a.tmps[d]? with
  | none => rfl
  | some v =>
    have : a.tmps.getD d undef = v := by simp [Array.getD, (Array.getElem?_eq_some_iff.1 h2).1, (Array.getElem?_eq_some_iff.1 h2).2]
    rw [this] at hv
    subst hv; rfl

/-- what an operation's guard asks depends on its guard's own slot -/
theorem want_put (hS : Static N ops) {a : Act} {i : Nat} {o o' : Oper} {v : Value} (hi : ops.toList[i]? = some o) (hg : ∀ m b, o'.guard = some (m, b) → m ≠ i) :
    want ops o' (a.put o.dst v) = want ops o' a := by
  cases hgd : o'.guard with
  | none => rw [want_none hgd, want_none hgd]
  | some g =>
    obtain ⟨m, b⟩ := g
    rw [want_some hgd, want_some hgd]
    congr 1
    unfold yielded
    cases hm : ops[m]? with
    | none => rfl
    | some om =>
      simp only [Option.bind_some]
      cases hd : om.dst with
      | none => rfl
      | some d =>
        simp only [Option.bind_some]
        cases ho : o.dst with
        | none => rfl
        | some d' =>
          have hne : d' ≠ d := fun e => hg m b hgd (hS.inj m i om o d (by simpa using hm) hi hd (by rw [ho, e]))
          simp [Act.put, Array.getElem?_setIfInBounds, hne]

/-- the guard's answer in the state is the guard's answer in the run -/
theorem guardVal_want (hS : Static N ops) {D : Nat → Prop} {st : St} {a : Act} (hI : Inv ops D N n0 σ H st a w) : ∀ (n m : Nat) (b : Bool) (g : Bool), guardVal ops.toList st n (m, b) = some g →
    D m → (∀ (j : Nat) (p : Oper) (m : Nat) (b : Bool), D j → ops.toList[j]? = some p → p.guard = some (m, b) → D m) → (yielded ops a.tmps m == some b) = g
  | 0, _, _, _, h, _, _ => by simp [guardVal] at h
  | n + 1, m, b, g, h, hDm, hcl => by
    simp only [guardVal, Option.bind_eq_some_iff] at h
    obtain ⟨om, hm, d, hd, v, hv, vb, hvb, h⟩ := h
    have hval : want ops om a = true → a.tmps.getD d undef = .bool vb := by
      intro hw
      have := hI.rel.slot d v hv (fun j o hj ho hod => by
        have := hS.inj j m o om d ho hm hod hd
        subst this
        rw [hm] at ho; simp at ho; subst ho; exact hw)
      rw [boolean_inv hvb] at this
      exact svr_bool this
    have hb : ∀ vb : Bool, (some vb == some b) = (bif b then vb else !vb) := by intro vb; cases vb <;> cases b <;> rfl
    split at h
    · rename_i hg
      simp at h; subst h
      rw [yielded_bool hm hd (hval (want_none hg))]
      exact hb vb
    · rename_i g' hg
      obtain ⟨m', b'⟩ := g'
      simp only [Option.map_eq_some_iff] at h
      obtain ⟨r, hr, rfl⟩ := h
      have ih := guardVal_want hS hI n m' b' r hr (hcl m om m' b' hDm hm hg) hcl
      have hwm : want ops om a = r := by rw [want_some hg]; exact ih
      cases hrr : r with
      | true =>
        rw [yielded_bool hm hd (hval (by rw [hwm, hrr]))]
        simpa using hb vb
      | false =>
        rw [yielded_undef hm hd (hI.skip m om d hDm hm hd (by rw [hwm, hrr]))]
        rfl

theorem implG_want (hS : Static N ops) {D : Nat → Prop} {st : St} {a : Act} (hI : Inv ops D N n0 σ H st a w) : ∀ (n : Nat) (o : Oper) (g : Nat × Bool), implG ops.toList n o.guard g = true → want ops o a = true →
    (∀ m b, o.guard = some (m, b) → D m) → (∀ (j : Nat) (p : Oper) (m : Nat) (b : Bool), D j → ops.toList[j]? = some p → p.guard = some (m, b) → D m) →
    (yielded ops a.tmps g.1 == some g.2) = true
  | 0, _, _, h, _, _, _ => by simp [implG] at h
  | n + 1, o, g, h, hw, hD, hcl => by
    cases hg : o.guard with
    | none => simp [hg, implG] at h
    | some mb =>
      obtain ⟨m, b⟩ := mb
      simp only [hg, implG, Bool.or_eq_true, Bool.and_eq_true, beq_iff_eq] at h
      have hw' : (yielded ops a.tmps m == some b) = true := by rw [← want_some hg]; exact hw
      rcases h with ⟨h1, h2⟩ | h
      · have h1 : m = g.1 := Nat.eq_of_beq_eq_true h1
        rw [← h1, ← h2]; exact hw'
      · split at h
        · rename_i om hm
          refine implG_want hS hI n om g h ?_ (fun m' b' hg' => hcl m om m' b' (hD m b hg) hm hg') hcl
          cases hwm : want ops om a with
          | true => rfl
          | false =>
            have hdst : ∃ d, om.dst = some d := by
              have hy : yielded ops a.tmps m = some b := by simpa using hw'
              unfold yielded at hy
              have : ops[m]? = some om := by simpa using hm
              simp only [this, Option.bind_some] at hy
              cases hd : om.dst with
              | none => simp [hd] at hy
              | some d => exact ⟨d, rfl⟩
            obtain ⟨d, hd⟩ := hdst
            have := yielded_undef hm hd (hI.skip m om d (hD m b hg) hm hd hwm)
            rw [this] at hw'
            simp at hw'
        · simp at h

theorem tmps_mem {o : Oper} {t : Nat} (h : Operand.tmp t ∈ o.op.operands.toList) : t ∈ tmpsOf o := List.mem_filterMap.2 ⟨_, h, rfl⟩

/-- the operands that an operation reads are told of -/
theorem read_ok (hS : Static N ops) {D : Nat → Prop} {st : St} {a : Act} (hI : Inv ops D N n0 σ H st a w) {i : Nat} {o : Oper} (_ : ops.toList[i]? = some o) (hw : want ops o a = true)
    (hD : ∀ m b, o.guard = some (m, b) → D m) (hcl : ∀ (j : Nat) (p : Oper) (m : Nat) (b : Bool), D j → ops.toList[j]? = some p → p.guard = some (m, b) → D m)
    {t : Nat} (h : okRead ops.toList (gds 0 ops.toList) i o t = true) : Cn ops D a t := by
  intro j p hj hp hpd
  cases hg : p.guard with
  | none => exact want_none hg
  | some g =>
    have hmem := gds_spec ops.toList 0 j p g t hp hg hpd
    have := List.all_eq_true.1 h _ hmem
    simp only [beq_self, Bool.not_true, Bool.false_or, Bool.and_eq_true] at this
    rw [want_some (m := g.1) (b := g.2) hg]
    exact implG_want hS hI _ o g this.2 hw hD hcl

theorem opd_ok (hS : Static N ops) {D : Nat → Prop} {st : St} {a : Act} (hI : Inv ops D N n0 σ H st a w) {i : Nat} {o : Oper} (hi : ops.toList[i]? = some o) (hw : want ops o a = true)
    (hD : ∀ m b, o.guard = some (m, b) → D m) (hcl : ∀ (j : Nat) (p : Oper) (m : Nat) (b : Bool), D j → ops.toList[j]? = some p → p.guard = some (m, b) → D m) :
    OpdR (opd st) o a σ st.bx H ∧ ((∀ c x y, o.op ≠ .pick c x y) → ∀ x ∈ o.op.operands.toList, ∀ k, x = .tmp k → Cn ops D a k) := by
  have hok := hS.ok i o hi
  simp only [okOper, Bool.and_eq_true] at hok
  obtain ⟨_, hok⟩ := hok
  have gen : (tmpsOf o).all (okRead ops.toList (gds 0 ops.toList) i o) = true → ∀ x ∈ o.op.operands.toList, ∀ k, x = .tmp k → Cn ops D a k := by
    intro h x hx k hk
    subst hk
    exact read_ok hS hI hi hw hD hcl (List.all_eq_true.1 h k (tmps_mem hx))
  have genR : (tmpsOf o).all (okRead ops.toList (gds 0 ops.toList) i o) = true → ∀ x ∈ o.op.operands.toList, ∀ s, opd st x = some s → SVR σ st.bx H s (a.eval x) :=
    fun h x hx s hs => hI.rel.opd (gen h x hx) hs
  by_cases hp : ∃ c x y, o.op = .pick c x y
  · obtain ⟨c, x, y, ho⟩ := hp
    refine ⟨?_, fun h => (h c x y ho).elim⟩
    simp only [OpdR, ho]
    rw [ho] at hok
    simp only at hok
    have hmem : ∀ z, (z = c ∨ z = x ∨ z = y) → z ∈ o.op.operands.toList := by intro z hz; rw [ho]; simp [Op.operands]; rcases hz with h | h | h <;> simp [h]
    split at hok
    · rename_i tc
      simp only [Bool.and_eq_true] at hok
      obtain ⟨⟨h1, h2⟩, h3⟩ := hok
      have hCc := read_ok hS hI hi hw hD hcl h1
      have branch : ∀ (z : Operand) (b : Bool), (match z with | .tmp t => okPick ops.toList (gds 0 ops.toList) i o tc b t | _ => true) = true → a.eval (.tmp tc) = .bool b → ∀ s, opd st z = some s → SVR σ st.bx H s (a.eval z) := by
        intro z b hz hev s hs
        refine hI.rel.opd (fun k hk => ?_) hs
        subst hk
        simp only at hz
        intro j p hj hp hpd
        cases hg : p.guard with
        | none => exact want_none hg
        | some g =>
          have hm := gds_spec ops.toList 0 j p g k hp hg hpd
          have := List.all_eq_true.1 hz _ hm
          simp only [beq_self, Bool.not_true, Bool.false_or, Bool.and_eq_true, Bool.or_eq_true, beq_iff_eq] at this
          rw [want_some (m := g.1) (b := g.2) hg]
          rcases this.2 with h | ⟨h4, h5⟩
          · exact implG_want hS hI _ o g h hw hD hcl
          · split at h5
            · rename_i om hom
              split at h5
              · rename_i d hd
                have hdc : d = tc := Nat.eq_of_beq_eq_true h5
                subst hdc
                rw [yielded_bool hom hd hev, h4]
                simp
              · simp at h5
            · simp at h5
      exact ⟨fun s hs => hI.rel.opd (fun k hk => by simp at hk; subst hk; exact hCc) hs, fun he s hs => branch x true h2 he s hs, fun he s hs => branch y false h3 he s hs⟩
    · exact ⟨fun s hs => genR hok c (hmem c (.inl rfl)) s hs, fun _ s hs => genR hok x (hmem x (.inr (.inl rfl))) s hs, fun _ s hs => genR hok y (hmem y (.inr (.inr rfl))) s hs⟩
  · have hne : ∀ c x y, o.op ≠ .pick c x y := fun c x y h => hp ⟨c, x, y, h⟩
    have hok' : (tmpsOf o).all (okRead ops.toList (gds 0 ops.toList) i o) = true := by
      split at hok
      · rename_i c x y ho; exact (hne c x y ho).elim
      · exact hok
    refine ⟨?_, fun _ => gen hok'⟩
    have hr := genR hok'
    unfold OpdR
    split
    · rename_i c x y ho; exact (hne c x y ho).elim
    · exact hr

end
end Go.Lift
