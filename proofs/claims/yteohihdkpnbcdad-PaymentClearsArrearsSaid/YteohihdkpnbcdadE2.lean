/- A part of the proof that the law returns true for every input: no condition. -/
import Derived.Test.YteohihdkpnbcdadE1
import Derived.Carry
import Derived.Deep.Slices
import Derived.WalkKit
import Derived.ProofKit
import Derived.OpenShut
set_option linter.unusedSimpArgs false
namespace Go.Lift

/-! what the static looks say -/
theorem gds_spec : ∀ (l : List Oper) (k j : Nat) (o : Oper) (g : Nat × Bool) (d : Nat), l[j]? = some o → o.guard = some g → o.dst = some d → (d, k + j, g) ∈ gds k l
  | [], _, _, _, _, _, h, _, _ => by simp at h
  | o' :: r, k, j, o, g, d, h, hg, hd => by
    simp only [gds]
    cases j with
    | zero =>
      simp at h; subst h
      simp [hg, hd]
    | succ j =>
      have := gds_spec r (k + 1) j o g d (by simpa using h) hg hd
      rw [show k + (j + 1) = k + 1 + j by omega]
      split
      · exact List.mem_cons_of_mem _ this
      · exact this

theorem okOpers_spec {all : List Oper} {gs : List (Nat × Nat × Nat × Bool)} : ∀ (l : List Oper) (k : Nat), okOpers all gs k l = true → ∀ (j : Nat) (o : Oper), l[j]? = some o → okOper all gs (k + j) o = true
  | [], _, _, _, _, h => by simp at h
  | o' :: r, k, h, j, o, hj => by
    simp only [okOpers, Bool.and_eq_true] at h
    cases j with
    | zero => simp at hj; subst hj; exact h.1
    | succ j => rw [show k + (j + 1) = k + 1 + j by omega]; exact okOpers_spec r (k + 1) h.2 j o (by simpa using hj)

theorem distinctB_spec : ∀ {l : List Nat}, distinctB l = true → l.Nodup
  | [], _ => List.nodup_nil
  | a :: r, h => by
    simp only [distinctB, Bool.and_eq_true, Bool.not_eq_true', List.any_eq_false] at h
    refine List.nodup_cons.2 ⟨fun hm => ?_, distinctB_spec h.2⟩
    have := h.1 a hm
    simp at this

theorem dst_inj : ∀ {l : List Oper}, (l.filterMap (·.dst)).Nodup → ∀ (i j : Nat) (o o' : Oper) (d : Nat), l[i]? = some o → l[j]? = some o' → o.dst = some d → o'.dst = some d → i = j
  | [], _, _, _, _, _, _, h, _, _, _ => by simp at h
  | x :: r, hn, i, j, o, o', d, hi, hj, ho, ho' => by
    have mem : ∀ (k : Nat) (p : Oper), r[k]? = some p → p.dst = some d → d ∈ r.filterMap (·.dst) := fun k p hk hp => List.mem_filterMap.2 ⟨p, List.mem_of_getElem? hk, hp⟩
    simp only [List.filterMap_cons] at hn
    cases i with
    | zero =>
      simp at hi; subst hi
      cases j with
      | zero => rfl
      | succ j =>
        simp only [ho] at hn
        exact ((List.nodup_cons.1 hn).1 (mem j o' (by simpa using hj) ho')).elim
    | succ i =>
      cases j with
      | zero =>
        simp at hj; subst hj
        simp only [ho'] at hn
        exact ((List.nodup_cons.1 hn).1 (mem i o (by simpa using hi) ho)).elim
      | succ j =>
        have hn' : (r.filterMap (·.dst)).Nodup := by
          split at hn
          · exact hn
          · exact (List.nodup_cons.1 hn).2
        exact congrArg (· + 1) (dst_inj hn' i j o o' d (by simpa using hi) (by simpa using hj) ho ho')

section
variable {P : Program} {T : Nat → Option Ty} {G : Tbl} {w w' : World} {σ σ' τ : Store} {H H' : Nat → Value} {n0 N : Nat} {ops : Array Oper}

def want (ops : Array Oper) (o : Oper) (a : Act) : Bool := Region.wanted o (yielded ops a.tmps)

/-- of which slots the state speaks: of those whose operation, if it has been done, was not passed over -/
def Cn (ops : Array Oper) (D : Nat → Prop) (a : Act) : Nat → Prop := fun k => ∀ (j : Nat) (o : Oper), D j → ops.toList[j]? = some o → o.dst = some k → want ops o a = true

structure Inv (ops : Array Oper) (D : Nat → Prop) (N n0 : Nat) (σ : Store) (H : Nat → Value) (st : St) (a : Act) (w : World) : Prop where
  rel : Rel (Cn ops D a) N n0 σ H st a w
  skip : ∀ (j : Nat) (o : Oper) (k : Nat), D j → ops.toList[j]? = some o → o.dst = some k → want ops o a = false → a.tmps.getD k undef = undef

structure Static (N : Nat) (ops : Array Oper) : Prop where
  inj : ∀ (i j : Nat) (o o' : Oper) (d : Nat), ops.toList[i]? = some o → ops.toList[j]? = some o' → o.dst = some d → o'.dst = some d → i = j
  lt : ∀ (i : Nat) (o : Oper) (d : Nat), ops.toList[i]? = some o → o.dst = some d → d < N
  ok : ∀ (i : Nat) (o : Oper), ops.toList[i]? = some o → okOper ops.toList (gds 0 ops.toList) i o = true

theorem static_of {N : Nat} {ops : Array Oper} (h : guardsOK N ops.toList = true) : Static N ops := by
  simp only [guardsOK, Bool.and_eq_true] at h
  obtain ⟨⟨h1, h2⟩, h3⟩ := h
  refine ⟨dst_inj (distinctB_spec h2), fun i o d hi hd => ?_, fun i o hi => by simpa using okOpers_spec ops.toList 0 h1 i o hi⟩
  have := List.all_eq_true.1 h3 o (List.mem_of_getElem? hi)
  rw [hd] at this
  exact blt_lt this

theorem want_none {o : Oper} {a : Act} (h : o.guard = none) : want ops o a = true := by simp [want, Region.wanted, h]
theorem want_some {o : Oper} {a : Act} {m : Nat} {b : Bool} (h : o.guard = some (m, b)) : want ops o a = (yielded ops a.tmps m == some b) := by simp [want, Region.wanted, h]

theorem yielded_bool {a : Act} {m d : Nat} {om : Oper} {b : Bool} (hm : ops.toList[m]? = some om) (hd : om.dst = some d) (hv : a.tmps.getD d undef = .bool b) : yielded ops a.tmps m = some b := by
  have h1 : ops[m]? = some om := by simpa using hm
  have h2 : a.tmps[d]? = some (.bool b) := by
    rcases Nat.lt_or_ge d a.tmps.size with h | h
    · simp [Array.getD, h] at hv; simp [h, hv]
    · simp [Array.getD, Nat.not_lt.2 h, undef] at hv
  simp [yielded, h1, hd, h2]

theorem yielded_undef {a : Act} {m d : Nat} {om : Oper} (hm : ops.toList[m]? = some om) (hd : om.dst = some d) (hv : a.tmps.getD d undef = undef) : yielded ops a.tmps m = none := by
  have h1 : ops[m]? = some om := by simpa using hm
  unfold yielded
  simp only [h1, Option.bind_some, hd]
  cases h2 : a.tmps[d]? with
  | none => rfl
  | some v =>
    have : a.tmps.getD d undef = v := by simp [Array.getD, (Array.getElem?_eq_some_iff.1 h2).1, (Array.getElem?_eq_some_iff.1 h2).2]
    rw [this] at hv
    subst hv; rfl

/-- what an operation's guard asks depends on its guard's own slot -/
theorem want_put (hS : Static N ops) {a : Act} {i : Nat} {o o' : Oper} {v : Value} (hi : ops.toList[i]? = some o) (hg : ∀ m b, o'.guard = some (m, b) → m ≠ i) :
    want ops o' (a.put o.dst v) = want ops o' a := by
  cases hgd : o'.guard with
  | none => rw [want_none hgd, want_none hgd]
  | some g =>
    obtain ⟨m, b⟩ := g
    rw [want_some hgd, want_some hgd]
    congr 1
    unfold yielded
    cases hm : ops[m]? with
    | none => rfl
    | some om =>
      simp only [Option.bind_some]
      cases hd : om.dst with
      | none => rfl
      | some d =>
        simp only [Option.bind_some]
        cases ho : o.dst with
        | none => rfl
        | some d' =>
          have hne : d' ≠ d := fun e => hg m b hgd (hS.inj m i om o d (by simpa using hm) hi hd (by rw [ho, e]))
          simp [Act.put, Array.getElem?_setIfInBounds, hne]

/-- the guard's answer in the state is the guard's answer in the run -/
theorem guardVal_want (hS : Static N ops) {D : Nat → Prop} {st : St} {a : Act} (hI : Inv ops D N n0 σ H st a w) : ∀ (n m : Nat) (b : Bool) (g : Bool), guardVal ops.toList st n (m, b) = some g →
    D m → (∀ (j : Nat) (p : Oper) (m : Nat) (b : Bool), D j → ops.toList[j]? = some p → p.guard = some (m, b) → D m) → (yielded ops a.tmps m == some b) = g
  | 0, _, _, _, h, _, _ => by simp [guardVal] at h
  | n + 1, m, b, g, h, hDm, hcl => by
    simp only [guardVal, Option.bind_eq_some_iff] at h
    obtain ⟨om, hm, d, hd, v, hv, vb, hvb, h⟩ := h
    have hval : want ops om a = true → a.tmps.getD d undef = .bool vb := by
      intro hw
      have := hI.rel.slot d v hv (fun j o hj ho hod => by
        have := hS.inj j m o om d ho hm hod hd
        subst this
        rw [hm] at ho; simp at ho; subst ho; exact hw)
      rw [boolean_inv hvb] at this
      exact svr_bool this
    have hb : ∀ vb : Bool, (some vb == some b) = (bif b then vb else !vb) := by intro vb; cases vb <;> cases b <;> rfl
    split at h
    · rename_i hg
      simp at h; subst h
      rw [yielded_bool hm hd (hval (want_none hg))]
      exact hb vb
    · rename_i g' hg
      obtain ⟨m', b'⟩ := g'
      simp only [Option.map_eq_some_iff] at h
      obtain ⟨r, hr, rfl⟩ := h
      have ih := guardVal_want hS hI n m' b' r hr (hcl m om m' b' hDm hm hg) hcl
      have hwm : want ops om a = r := by rw [want_some hg]; exact ih
      cases hrr : r with
      | true =>
        rw [yielded_bool hm hd (hval (by rw [hwm, hrr]))]
        simpa using hb vb
      | false =>
        rw [yielded_undef hm hd (hI.skip m om d hDm hm hd (by rw [hwm, hrr]))]
        rfl

theorem implG_want (hS : Static N ops) {D : Nat → Prop} {st : St} {a : Act} (hI : Inv ops D N n0 σ H st a w) : ∀ (n : Nat) (o : Oper) (g : Nat × Bool), implG ops.toList n o.guard g = true → want ops o a = true →
    (∀ m b, o.guard = some (m, b) → D m) → (∀ (j : Nat) (p : Oper) (m : Nat) (b : Bool), D j → ops.toList[j]? = some p → p.guard = some (m, b) → D m) →
    (yielded ops a.tmps g.1 == some g.2) = true
  | 0, _, _, h, _, _, _ => by simp [implG] at h
  | n + 1, o, g, h, hw, hD, hcl => by
    cases hg : o.guard with
    | none => simp [hg, implG] at h
    | some mb =>
      obtain ⟨m, b⟩ := mb
      simp only [hg, implG, Bool.or_eq_true, Bool.and_eq_true, beq_iff_eq] at h
      have hw' : (yielded ops a.tmps m == some b) = true := by rw [← want_some hg]; exact hw
      rcases h with ⟨h1, h2⟩ | h
      · have h1 : m = g.1 := Nat.eq_of_beq_eq_true h1
        rw [← h1, ← h2]; exact hw'
      · split at h
        · rename_i om hm
          refine implG_want hS hI n om g h ?_ (fun m' b' hg' => hcl m om m' b' (hD m b hg) hm hg') hcl
          cases hwm : want ops om a with
          | true => rfl
          | false =>
            have hdst : ∃ d, om.dst = some d := by
              have hy : yielded ops a.tmps m = some b := by simpa using hw'
              unfold yielded at hy
              have : ops[m]? = some om := by simpa using hm
              simp only [this, Option.bind_some] at hy
              cases hd : om.dst with
              | none => simp [hd] at hy
              | some d => exact ⟨d, rfl⟩
            obtain ⟨d, hd⟩ := hdst
            have := yielded_undef hm hd (hI.skip m om d (hD m b hg) hm hd hwm)
            rw [this] at hw'
            simp at hw'
        · simp at h

theorem tmps_mem {o : Oper} {t : Nat} (h : Operand.tmp t ∈ o.op.operands.toList) : t ∈ tmpsOf o := List.mem_filterMap.2 ⟨_, h, rfl⟩

/-- the operands that an operation reads are told of -/
theorem read_ok (hS : Static N ops) {D : Nat → Prop} {st : St} {a : Act} (hI : Inv ops D N n0 σ H st a w) {i : Nat} {o : Oper} (_ : ops.toList[i]? = some o) (hw : want ops o a = true)
    (hD : ∀ m b, o.guard = some (m, b) → D m) (hcl : ∀ (j : Nat) (p : Oper) (m : Nat) (b : Bool), D j → ops.toList[j]? = some p → p.guard = some (m, b) → D m)
    {t : Nat} (h : okRead ops.toList (gds 0 ops.toList) i o t = true) : Cn ops D a t := by
  intro j p hj hp hpd
  cases hg : p.guard with
  | none => exact want_none hg
  | some g =>
    have hmem := gds_spec ops.toList 0 j p g t hp hg hpd
    have := List.all_eq_true.1 h _ hmem
    simp only [beq_self, Bool.not_true, Bool.false_or, Bool.and_eq_true] at this
    rw [want_some (m := g.1) (b := g.2) hg]
    exact implG_want hS hI _ o g this.2 hw hD hcl

theorem opd_ok (hS : Static N ops) {D : Nat → Prop} {st : St} {a : Act} (hI : Inv ops D N n0 σ H st a w) {i : Nat} {o : Oper} (hi : ops.toList[i]? = some o) (hw : want ops o a = true)
    (hD : ∀ m b, o.guard = some (m, b) → D m) (hcl : ∀ (j : Nat) (p : Oper) (m : Nat) (b : Bool), D j → ops.toList[j]? = some p → p.guard = some (m, b) → D m) :
    OpdR (opd st) o a σ st.bx H ∧ ((∀ c x y, o.op ≠ .pick c x y) → ∀ x ∈ o.op.operands.toList, ∀ k, x = .tmp k → Cn ops D a k) := by
  have hok := hS.ok i o hi
  simp only [okOper, Bool.and_eq_true] at hok
  obtain ⟨_, hok⟩ := hok
  have gen : (tmpsOf o).all (okRead ops.toList (gds 0 ops.toList) i o) = true → ∀ x ∈ o.op.operands.toList, ∀ k, x = .tmp k → Cn ops D a k := by
    intro h x hx k hk
    subst hk
    exact read_ok hS hI hi hw hD hcl (List.all_eq_true.1 h k (tmps_mem hx))
  have genR : (tmpsOf o).all (okRead ops.toList (gds 0 ops.toList) i o) = true → ∀ x ∈ o.op.operands.toList, ∀ s, opd st x = some s → SVR σ st.bx H s (a.eval x) :=
    fun h x hx s hs => hI.rel.opd (gen h x hx) hs
  by_cases hp : ∃ c x y, o.op = .pick c x y
  · obtain ⟨c, x, y, ho⟩ := hp
    refine ⟨?_, fun h => (h c x y ho).elim⟩
    simp only [OpdR, ho]
    rw [ho] at hok
    simp only at hok
    have hmem : ∀ z, (z = c ∨ z = x ∨ z = y) → z ∈ o.op.operands.toList := by intro z hz; rw [ho]; simp [Op.operands]; rcases hz with h | h | h <;> simp [h]
    split at hok
    · rename_i tc
      simp only [Bool.and_eq_true] at hok
      obtain ⟨⟨h1, h2⟩, h3⟩ := hok
      have hCc := read_ok hS hI hi hw hD hcl h1
      have branch : ∀ (z : Operand) (b : Bool), (match z with | .tmp t => okPick ops.toList (gds 0 ops.toList) i o tc b t | _ => true) = true → a.eval (.tmp tc) = .bool b → ∀ s, opd st z = some s → SVR σ st.bx H s (a.eval z) := by
        intro z b hz hev s hs
        refine hI.rel.opd (fun k hk => ?_) hs
        subst hk
        simp only at hz
        intro j p hj hp hpd
        cases hg : p.guard with
        | none => exact want_none hg
        | some g =>
          have hm := gds_spec ops.toList 0 j p g k hp hg hpd
          have := List.all_eq_true.1 hz _ hm
          simp only [beq_self, Bool.not_true, Bool.false_or, Bool.and_eq_true, Bool.or_eq_true, beq_iff_eq] at this
          rw [want_some (m := g.1) (b := g.2) hg]
          rcases this.2 with h | ⟨h4, h5⟩
          · exact implG_want hS hI _ o g h hw hD hcl
          · split at h5
            · rename_i om hom
              split at h5
              · rename_i d hd
                have hdc : d = tc := Nat.eq_of_beq_eq_true h5
                subst hdc
                rw [yielded_bool hom hd hev, h4]
                simp
              · simp at h5
            · simp at h5
      exact ⟨fun s hs => hI.rel.opd (fun k hk => by simp at hk; subst hk; exact hCc) hs, fun he s hs => branch x true h2 he s hs, fun he s hs => branch y false h3 he s hs⟩
    · exact ⟨fun s hs => genR hok c (hmem c (.inl rfl)) s hs, fun _ s hs => genR hok x (hmem x (.inr (.inl rfl))) s hs, fun _ s hs => genR hok y (hmem y (.inr (.inr rfl))) s hs⟩
  · have hne : ∀ c x y, o.op ≠ .pick c x y := fun c x y h => hp ⟨c, x, y, h⟩
    have hok' : (tmpsOf o).all (okRead ops.toList (gds 0 ops.toList) i o) = true := by
      split at hok
      · rename_i c x y ho; exact (hne c x y ho).elim
      · exact hok
    refine ⟨?_, fun _ => gen hok'⟩
    have hr := genR hok'
    unfold OpdR
    split
    · rename_i c x y ho; exact (hne c x y ho).elim
    · exact hr

end
end Go.Lift
set_option linter.unusedSimpArgs false
set_option linter.unusedVariables false
namespace Go.Lift

section
variable {P : Program} {T : Nat → Option Ty} {G : Tbl} {w w' : World} {σ σ' τ : Store} {H H' : Nat → Value} {n0 N : Nat} {ops : Array Oper} {C C' : Nat → Prop}

theorem Rel.weaken {st : St} {a : Act} (h : Rel C N n0 σ H st a w) (hc : ∀ k, C' k → C k) : Rel C' N n0 σ H st a w :=
  ⟨h.holds, h.size, h.defers, h.base, h.box, h.apart, fun k s hk hck => h.slot k s hk (hc k hck)⟩

theorem Rel.putAny {st : St} {a : Act} {d : Option Nat} {s : SV} {v : Value} (h : Rel C N n0 σ H st a w) (hd : dstOK N d) (hc : ∀ k, C' k → C k ∧ d ≠ some k) : Rel C' N n0 σ H (st.put d s) (a.put d v) w := by
  cases d with
  | none => exact h.weaken fun k hk => (hc k hk).1
  | some d =>
    refine ⟨h.holds, by rw [put_size]; exact h.size, by rw [put_defers]; exact h.defers, h.base, h.box, h.apart, fun k s' hk hck => ?_⟩
    have hne : ¬ k = d := fun e => (hc k hck).2 (by rw [e])
    simp only [St.put, look_ins, if_neg hne] at hk ⊢
    rw [getD_put (by rw [h.size]; exact hd d rfl), if_neg hne]
    exact h.slot k s' hk (hc k hck).1

def Closed (ops : Array Oper) (D : Nat → Prop) : Prop := ∀ (j : Nat) (p : Oper) (m : Nat) (b : Bool), D j → ops.toList[j]? = some p → p.guard = some (m, b) → D m

structure Ready (ops : Array Oper) (D : Nat → Prop) (i : Nat) (o : Oper) : Prop where
  at_ : ops.toList[i]? = some o
  fresh : ¬ D i
  guard : ∀ m b, o.guard = some (m, b) → D m
  closed : Closed ops D

theorem Ready.want_put (hS : Static N ops) {D : Nat → Prop} {i : Nat} {o : Oper} (hR : Ready ops D i o) {a : Act} {v : Value} {j : Nat} {p : Oper} (hj : D j ∨ j = i) (hp : ops.toList[j]? = some p) :
    want ops p (a.put o.dst v) = want ops p a := by
  refine Lift.want_put hS hR.at_ fun m b hg e => ?_
  subst e
  rcases hj with hj | rfl
  · exact hR.fresh (hR.closed j p _ b hj hp hg)
  · have := hR.at_; rw [hp] at this; simp at this; subst this
    exact hR.fresh (hR.guard _ b hg)

/-- the frame of a done operation -/
theorem inv_done (hS : Static N ops) {D : Nat → Prop} {i : Nat} {o : Oper} (hR : Ready ops D i o) {st st' : St} {a : Act} {v : Value} (hI : Inv ops D N n0 σ H st a w)
    (hrel : Rel (Cn ops D a) N n0 σ' H' st' (a.put o.dst v) w') (hw : want ops o a = true) : Inv ops (fun j => D j ∨ j = i) N n0 σ' H' st' (a.put o.dst v) w' where
  rel := hrel.weaken fun k hk j p hj hp hd => by
    have := hk j p (.inl hj) hp hd
    rwa [hR.want_put hS (.inl hj) hp] at this
  skip := fun j p k hj hp hd hww => by
    rw [hR.want_put hS hj hp] at hww
    rcases hj with hj | rfl
    · have hk := hI.skip j p k hj hp hd hww
      cases hod : o.dst with
      | none => exact hk
      | some d =>
        have hne : ¬ k = d := fun e => by
          have := hS.inj j i p o d hp hR.at_ (by rw [hd, e]) hod
          subst this; exact hR.fresh hj
        rw [getD_put (by rw [hI.rel.size]; exact hS.lt i o d hR.at_ hod), if_neg hne]
        exact hk
    · have := hR.at_; rw [hp] at this; simp at this; subst this
      rw [hw] at hww; simp at hww

/-- the frame of an operation that is passed over -/
theorem inv_skip (hS : Static N ops) {D : Nat → Prop} {i : Nat} {o : Oper} (hR : Ready ops D i o) {st : St} {a : Act} (hI : Inv ops D N n0 σ H st a w) (hw : want ops o a = false) {st' : St}
    (hst : ∀ (C' : Nat → Prop), (∀ k, C' k → Cn ops D a k ∧ o.dst ≠ some k) → Rel C' N n0 σ H st' (a.put o.dst undef) w) : Inv ops (fun j => D j ∨ j = i) N n0 σ H st' (a.put o.dst undef) w where
  rel := hst _ fun k hk => by
    refine ⟨fun j p hj hp hd => ?_, fun e => ?_⟩
    · have := hk j p (.inl hj) hp hd
      rwa [hR.want_put hS (.inl hj) hp] at this
    · have := hk i o (.inr rfl) hR.at_ e
      rw [hR.want_put hS (.inr rfl) hR.at_, hw] at this
      simp at this
  skip := fun j p k hj hp hd hww => by
    rw [hR.want_put hS hj hp] at hww
    rcases hj with hj | rfl
    · have hk := hI.skip j p k hj hp hd hww
      cases hod : o.dst with
      | none => exact hk
      | some d =>
        have hne : ¬ k = d := fun e => by
          have := hS.inj j i p o d hp hR.at_ (by rw [hd, e]) hod
          subst this; exact hR.fresh hj
        rw [getD_put (by rw [hI.rel.size]; exact hS.lt i o d hR.at_ hod), if_neg hne]
        exact hk
    · have := hR.at_; rw [hp] at this; simp at this; subst this
      rw [hd, getD_put (by rw [hI.rel.size]; exact hS.lt j p k hp hd), if_pos rfl]

def GuardIs (ops : Array Oper) (st : St) (o : Oper) (g : Bool) : Prop :=
  (o.guard = none ∧ g = true) ∨ ∃ mb, o.guard = some mb ∧ guardVal ops.toList st ops.toList.length mb = some g

theorem GuardIs.want (hS : Static N ops) {D : Nat → Prop} {i : Nat} {o : Oper} (hR : Ready ops D i o) {st : St} {a : Act} (hI : Inv ops D N n0 σ H st a w) {g : Bool} (hg : GuardIs ops st o g) : want ops o a = g := by
  rcases hg with ⟨h1, rfl⟩ | ⟨⟨m, b⟩, h1, h2⟩
  · exact want_none h1
  · rw [want_some h1]
    exact guardVal_want hS hI _ m b g h2 (hR.guard m b h1) hR.closed

theorem dst_ok (hS : Static N ops) {i : Nat} {o : Oper} (hi : ops.toList[i]? = some o) : dstOK N o.dst := fun k hk => hS.lt i o k hi hk

theorem wpOp_run {i : Nat} {o : Oper} (hi : ops.toList[i]? = some o) {K : Act → World → Prop} {Q : Exit → Act → World → Prop} {a : Act} (hw : want ops o a = true) (h : o.wp P a w K Q) : wpOp P ops Q i K a w := by
  have h1 : ops[i]? = some o := by simpa using hi
  unfold want at hw
  simp only [wpOp, h1, hw, if_true]
  exact .inl h

theorem wpOp_pass {i : Nat} {o : Oper} (hi : ops.toList[i]? = some o) {K : Act → World → Prop} {Q : Exit → Act → World → Prop} {a : Act} (hw : want ops o a = false) (h : K (a.put o.dst undef) w) : wpOp P ops Q i K a w := by
  have h1 : ops[i]? = some o := by simpa using hi
  unfold want at hw
  simp only [wpOp, h1, hw, Bool.false_eq_true, if_false]
  exact h

theorem inv_value (hE : Env P T G) (hS : Static N ops) {D : Nat → Prop} {i : Nat} {o : Oper} (hR : Ready ops D i o) {st : St} {a : Act} (hI : Inv ops D N n0 σ H st a w) {g c : Bool} {v : SV} (hg : GuardIs ops st o g)
    (hv : opVal G T st.bx (opd st) o = some (c, v)) (hc : (c || !g) = true) {K : Act → World → Prop} {Q : Exit → Act → World → Prop}
    (hK : ∀ σ' a' w', Trans n0 σ w σ' w' → Inv ops (fun j => D j ∨ j = i) N n0 σ' H (st.put o.dst v) a' w' → K a' w') : wpOp P ops Q i K a w := by
  have hw := hg.want hS hR hI
  cases g with
  | true =>
    simp at hc; subst hc
    have hρ := (opd_ok hS hI hR.at_ hw hR.guard hR.closed).1
    refine wpOp_run hR.at_ hw (opVal_yields hE hI.rel.holds hI.rel.box hρ hv K Q fun v' σ' w' hst hsv => ?_)
    exact hK σ' _ w' (hst.trans' hI.rel.base) (inv_done hS hR hI ((hI.rel.step hst).put (dst_ok hS hR.at_) hsv) hw)
  | false =>
    refine wpOp_pass hR.at_ hw (hK σ _ w (Trans.refl hI.rel.holds) (inv_skip hS hR hI hw fun C' hC' => hI.rel.putAny (dst_ok hS hR.at_) hC'))

theorem Rel.lit {st : St} {a : Act} {d : Nat} {b : Bool} (h : Rel C N n0 σ H st a w) (hv : a.tmps.getD d undef = .bool b) : Rel C N n0 σ H ⟨ins d (.tv ⟨.bool, b⟩) st.sl, st.bx⟩ a w := by
  refine ⟨h.holds, h.size, h.defers, h.base, h.box, h.apart, fun k s hk hc => ?_⟩
  simp only [look_ins] at hk
  split at hk
  · rename_i e; subst e
    simp at hk; subst hk
    rw [hv]; exact relV_bool σ b
  · exact h.slot k s hk hc

theorem inv_lit (hS : Static N ops) {D : Nat → Prop} {i : Nat} {o : Oper} (hR : Ready ops D i o) {st : St} {a : Act} (hI : Inv ops D N n0 σ H st a w) {m : Nat} {b g : Bool} (hg : o.guard = some (m, b))
    (hv : guardVal ops.toList st ops.toList.length (m, b) = some g) : Inv ops D N n0 σ H (setLit ops.toList m (bif g then b else !b) st) a w := by
  unfold setLit
  split
  · rename_i d _ _ _ _ hm
    have hm' : ∃ om : Oper, ops.toList[m]? = some om ∧ om.guard = none ∧ om.dst = some d := ⟨_, hm, rfl, rfl⟩
    obtain ⟨om, hm, hgn, hd⟩ := hm'
    refine ⟨hI.rel.lit ?_, hI.skip⟩
    cases hn : ops.toList.length with
    | zero => rw [hn] at hv; simp [guardVal] at hv
    | succ n =>
      rw [hn] at hv
      simp only [guardVal, hm, Option.bind_some, hd, Option.bind_eq_some_iff, hgn] at hv
      obtain ⟨v, hv1, vb, hvb, hv⟩ := hv
      simp at hv
      have hs := hI.rel.slot d v hv1 (fun j p hj hp hpd => by
        have := hS.inj j m p om d hp hm hpd hd
        subst this; rw [hm] at hp; simp at hp; subst hp; exact want_none hgn)
      rw [boolean_inv hvb] at hs
      rw [svr_bool hs, ← hv]
      cases b <;> cases vb <;> rfl
  · exact hI

theorem inv_eff (hE : Env P T G) (hS : Static N ops) {D : Nat → Prop} {i : Nat} {o : Oper} (hR : Ready ops D i o) {st st' : St} {a : Act} (hI : Inv ops D N n0 σ H st a w) (hw : want ops o a = true) (hnv : opVal G T st.bx (opd st) o = none ∨ True)
    (hv : opStep G T o st = some (true, st') ∨ (opEff G T o st = some (true, st') ∧ ∀ c x y, o.op ≠ .pick c x y)) {K : Act → World → Prop} {Q : Exit → Act → World → Prop}
    (hK : ∀ σ' H' a' w', Trans n0 σ w σ' w' → Inv ops (fun j => D j ∨ j = i) N n0 σ' H' st' a' w' → K a' w') : wpOp P ops Q i K a w := by
  obtain ⟨hρ, hC⟩ := opd_ok hS hI hR.at_ hw hR.guard hR.closed
  have hpick : (∃ c x y, o.op = .pick c x y) ∨ ∀ c x y, o.op ≠ .pick c x y := by
    cases o.op <;> first | (left; exact ⟨_, _, _, rfl⟩) | (right; intro c x y h; cases h)
  have heff : EffOK P (Cn ops D a) N n0 o a w σ st' := by
    rcases hpick with ⟨c, x, y, ho⟩ | hp
    · rcases hv with hv | ⟨_, h2⟩
      · unfold opStep at hv
        split at hv
        · rename_i cc vv hov
          simp at hv
          obtain ⟨rfl, rfl⟩ := hv
          intro next Q' hn
          exact opVal_yields hE hI.rel.holds hI.rel.box hρ hov next Q' fun v' σ2 w2 hst hsv => hn v' σ2 w2 (hst.trans' hI.rel.base) ⟨H, (hI.rel.step hst).put (dst_ok hS hR.at_) hsv⟩
        · cases hd : o.dst <;> simp [opEff, ho, hd] at hv
      · exact (h2 c x y ho).elim
    · rcases hv with hv | ⟨hv, _⟩
      · exact opStep_ok hE hI.rel hρ (hC hp) (dst_ok hS hR.at_) hv
      · exact opEff_ok hE hI.rel (hC hp) (dst_ok hS hR.at_) hv
  refine wpOp_run hR.at_ hw (heff K Q fun v σ' w' ht ⟨H', hrel⟩ => ?_)
  exact hK σ' H' _ w' ht (inv_done hS hR hI hrel hw)

end
end Go.Lift
set_option linter.unusedSimpArgs false
set_option linter.unusedVariables false
namespace Go.Lift

section
variable {P : Program} {T : Nat → Option Ty} {G : Tbl} {w w' : World} {σ σ' τ : Store} {H H' : Nat → Value} {n0 N : Nat} {ops : Array Oper} {C C' : Nat → Prop}

theorem Inv.congr {D D' : Nat → Prop} {st : St} {a : Act} (h : Inv ops D N n0 σ H st a w) (hd : ∀ (j : Nat) (o : Oper), ops.toList[j]? = some o → (D j ↔ D' j)) : Inv ops D' N n0 σ H st a w :=
  ⟨h.rel.weaken fun k hk j o hj ho hod => hk j o ((hd j o ho).1 hj) ho hod, fun j o k hj ho hod hw => h.skip j o k ((hd j o ho).2 hj) ho hod hw⟩

theorem guard_lt (hS : Static N ops) {i : Nat} {o : Oper} (hi : ops.toList[i]? = some o) {m : Nat} {b : Bool} (hg : o.guard = some (m, b)) : m < i := by
  have hok := hS.ok i o hi
  simp only [okOper, hg, Bool.and_eq_true] at hok
  exact blt_lt hok.1.1.2

theorem ready_lt (hS : Static N ops) {i : Nat} {o : Oper} (hi : ops.toList[i]? = some o) : Ready ops (· < i) i o :=
  ⟨hi, Nat.lt_irrefl i, fun m b hg => guard_lt hS hi hg, fun j p m b hj hp hg => Nat.lt_trans (guard_lt hS hp hg) hj⟩

theorem lt_succ_eq (i : Nat) : (fun j => j < i ∨ j = i) = (fun j => j < i + 1) := by funext j; apply propext; omega

theorem execR_one {Φ : Leaf → Prop} (hfail : ¬ Φ .fail) (hE : Env P T G) (hS : Static N ops) (k : St → Leaf) {o : Oper} {l : List Oper} {i : Nat} {st : St} {a : Act} (hi : ops.toList[i]? = some o)
    (hI : Inv ops (· < i) N n0 σ H st a w) (hΦ : Φ (execR G T false ops.toList (o :: l) st k)) {K : Act → World → Prop} {Q : Exit → Act → World → Prop}
    (step : ∀ st', Φ (execR G T false ops.toList l st' k) → ∀ σ1 H1 a1 w1, Trans n0 σ w σ1 w1 → Inv ops (fun j => j < i ∨ j = i) N n0 σ1 H1 st' a1 w1 → K a1 w1) : wpOp P ops Q i K a w := by
  have hR := ready_lt hS hi
  simp only [execR, Bool.false_and, cond_false, Bool.not_false, Bool.true_or, cond_true] at hΦ
  cases hg : o.guard with
  | none =>
    simp only [hg] at hΦ
    cases hop : opStep G T o st with
    | none => simp only [hop] at hΦ; exact (hfail hΦ).elim
    | some r =>
      obtain ⟨c, st'⟩ := r
      simp only [hop] at hΦ
      cases c with
      | false => exact (hfail hΦ).elim
      | true =>
        simp only [cond_true] at hΦ
        exact inv_eff hE hS hR hI (want_none hg) (.inr trivial) (.inl hop) fun σ1 H1 a1 w1 ht hI1 => step st' hΦ σ1 H1 a1 w1 ht hI1
  | some mb =>
    obtain ⟨m, b⟩ := mb
    simp only [hg] at hΦ
    cases hgv : guardVal ops.toList st ops.toList.length (m, b) with
    | none => simp only [hgv] at hΦ; exact (hfail hΦ).elim
    | some g =>
      simp only [hgv] at hΦ
      have hG : GuardIs ops st o g := .inr ⟨(m, b), hg, hgv⟩
      cases hov : opVal G T st.bx (opd st) o with
      | some r =>
        obtain ⟨c, v⟩ := r
        simp only [hov] at hΦ
        cases hc : (c || !g) with
        | false => simp only [hc, cond_false] at hΦ; exact (hfail hΦ).elim
        | true =>
          simp only [hc, cond_true] at hΦ
          exact inv_value hE hS hR hI hG hov hc fun σ1 a1 w1 ht hI1 => step _ hΦ σ1 H a1 w1 ht hI1
      | none =>
        simp only [hov] at hΦ
        have hlit := inv_lit hS hR hI hg hgv
        have hw := hG.want hS hR hI
        cases g with
        | true =>
          simp only [cond_true] at hΦ hlit
          cases hop : opEff G T o (setLit ops.toList m b st) with
          | none => simp only [hop] at hΦ; exact (hfail hΦ).elim
          | some r =>
            obtain ⟨c, st'⟩ := r
            simp only [hop] at hΦ
            cases c with
            | false => exact (hfail hΦ).elim
            | true =>
              simp only [cond_true] at hΦ
              refine inv_eff hE hS hR hlit hw (.inr trivial) (.inr ⟨hop, fun c x y ho => ?_⟩) fun σ1 H1 a1 w1 ht hI1 => step st' hΦ σ1 H1 a1 w1 ht hI1
              cases hd : o.dst <;> simp [opEff, ho, hd] at hop
        | false =>
          simp only [cond_false] at hΦ hlit
          refine wpOp_pass hi hw ?_
          refine step _ hΦ σ H _ w (Trans.refl hI.rel.holds) (inv_skip hS hR hlit hw fun C' hC' => ?_)
          have h1 := (hlit.rel.weaken (C' := C') fun k hk => (hC' k hk).1).unput (d := o.dst) (v := undef) (dst_ok hS hi)
          exact h1


theorem execR_seq {Φ : Leaf → Prop} (hfail : ¬ Φ .fail) (hE : Env P T G) (hS : Static N ops) (k : St → Leaf) : ∀ (l : List Oper) (i : Nat) (st : St) (a : Act) (w : World) (σ : Store) (H : Nat → Value),
    ops.toList.drop i = l → Inv ops (· < i) N n0 σ H st a w → Φ (execR G T false ops.toList l st k) →
    ∀ (Q : Exit → Act → World → Prop), (∀ σ' H' st' a' w', Trans n0 σ w σ' w' → Inv ops (fun j => j < ops.toList.length) N n0 σ' H' st' a' w' → Φ (k st') → Q .normal a' w') → wpOps P ops Q (List.range' i l.length) a w
  | [], i, st, a, w, σ, H, hd, hI, hΦ, Q, hQ => by
    have hlen : ops.toList.length ≤ i := by
      have := congrArg List.length hd
      simp at this ⊢; omega
    simp only [List.length_nil, List.range'_zero, wpOps]
    exact hQ σ H st a w (Trans.refl hI.rel.holds) (hI.congr fun j o hj => by have := (List.getElem?_eq_some_iff.1 hj).1; omega) hΦ
  | o :: l, i, st, a, w, σ, H, hd, hI, hΦ, Q, hQ => by
    have hi : ops.toList[i]? = some o := by
      have := congrArg (·[0]?) hd
      simpa using this
    have hd' : ops.toList.drop (i + 1) = l := by
      have := congrArg List.tail hd
      simpa using this
    rw [List.length_cons, List.range'_succ, wpOps_cons]
    refine execR_one hfail hE hS k hi hI hΦ fun st' hΦ' σ1 H1 a1 w1 ht hI1 => ?_
    rw [lt_succ_eq] at hI1
    exact execR_seq hfail hE hS k l (i + 1) st' a1 w1 σ1 H1 hd' hI1 hΦ' Q fun σ2 H2 st2 a2 w2 ht2 hI2 hk => hQ σ2 H2 st2 a2 w2 (ht.trans ht2) hI2 hk

end
end Go.Lift
set_option linter.unusedSimpArgs false
set_option linter.unusedVariables false
namespace Go.Lift

/-! an operation looks at its operands alone -/
section
variable {G : Tbl} {T : Nat → Option Ty} {bx : List (Nat × Box)}

theorem mapO_congr {α β : Type} {f g : α → Option β} : ∀ {l : List α}, (∀ x ∈ l, f x = g x) → mapO f l = mapO g l
  | [], _ => rfl
  | a :: l, h => by
    simp only [mapO]
    rw [h a (by simp), mapO_congr fun x hx => h x (by simp [hx])]

theorem callVal_congr {ρ ρ' : Operand → Option SV} {c : Call} (h : ∀ x ∈ c.args.toList, ρ x = ρ' x) : callVal G T bx ρ c = callVal G T bx ρ' c := by
  have hm := mapO_congr h
  unfold callVal
  split
  · rw [hm]
  · split
    · rename_i x t hargs htys
      rw [h x (by simp [hargs])]
    · rfl
  · rw [hm]
  · rw [hm]
  · rfl

theorem buildV_congr {ρ ρ' : Operand → Option SV} {ty : Ty} : ∀ (parts : List (Nat × Operand)) (x : ty.D), (∀ p ∈ parts, ρ p.2 = ρ' p.2) → opVal.buildV bx ρ ty x parts = opVal.buildV bx ρ' ty x parts
  | [], _, _ => rfl
  | (i, v) :: r, x, h => by
    simp only [opVal.buildV]
    rw [h (i, v) (by simp)]
    simp only [buildV_congr r _ fun p hp => h p (by simp [hp])]

theorem optI_congr {ρ ρ' : Operand → Option SV} {x : Option Operand} (h : ∀ y ∈ x.toArray.toList, ρ y = ρ' y) : optI ρ x = optI ρ' x := by
  cases x with
  | none => rfl
  | some y => simp only [optI]; rw [h y (by simp)]

theorem opVal_congr {ρ ρ' : Operand → Option SV} {o : Oper} (h : ∀ x ∈ o.op.operands.toList, ρ x = ρ' x) : opVal G T bx ρ o = opVal G T bx ρ' o := by
  unfold opVal
  cases ho : o.op <;> rw [ho] at h <;> simp only [Op.operands] at h
  case call c => exact callVal_congr fun x hx => h x (by simp [Call.operands]; right; simpa using hx)
  case build t parts =>
    simp only
    congr 1; funext ty
    congr 1
    exact buildV_congr _ _ fun p hp => h p.2 (by simp; exact ⟨p.1, by simpa using hp⟩)
  case slice t x lo hi mx =>
    cases mx with
    | some m =>
      cases lo with
      | none => rfl
      | some lo =>
        cases hi with
        | none => rfl
        | some hi => simp only; rw [h x (by simp), h lo (by simp), h hi (by simp), h m (by simp)]
    | none =>
      simp only
      rw [h x (by simp), optI_congr fun y hy => h y (by simp at hy ⊢; simp [hy]), optI_congr (x := hi) fun y hy => h y (by simp at hy ⊢; simp [hy])]
  all_goals first
    | rfl
    | (simp only; rw [h _ (by simp)]; done)
    | (simp only; rw [h _ (List.mem_cons_self ..), h _ (List.mem_cons_of_mem _ (List.mem_cons_self ..))]; done)
    | (simp only; rw [h _ (List.mem_cons_self ..), h _ (List.mem_cons_of_mem _ (List.mem_cons_self ..)), h _ (List.mem_cons_of_mem _ (List.mem_cons_of_mem _ (List.mem_cons_self ..)))]; done)
end
end Go.Lift
set_option linter.unusedSimpArgs false
set_option linter.unusedVariables false
namespace Go.Lift

theorem dsi_spec : ∀ (l : List Oper) (k j : Nat) (o : Oper) (d : Nat), l[j]? = some o → o.dst = some d → (d, k + j, o) ∈ dsi k l
  | [], _, _, _, _, h, _ => by simp at h
  | o' :: r, k, j, o, d, h, hd => by
    simp only [dsi]
    cases j with
    | zero => simp at h; subst h; simp [hd]
    | succ j =>
      have := dsi_spec r (k + 1) j o d (by simpa using h) hd
      rw [show k + (j + 1) = k + 1 + j by omega]
      split
      · exact List.mem_cons_of_mem _ this
      · exact this

theorem drawOpers_spec {all : List Oper} {ds : List (Nat × Nat × Oper)} : ∀ (l : List Oper) (k : Nat), drawOpers all ds k l = true → ∀ (j : Nat) (o : Oper), l[j]? = some o →
    drawOper all ds (k + j) o = true ∧ ∀ e ∈ o.after.toList, Region.binds .any e = true → e.on < k + j
  | [], _, _, _, _, h => by simp at h
  | o' :: r, k, h, j, o, hj => by
    simp only [drawOpers, Bool.and_eq_true] at h
    cases j with
    | zero =>
      simp at hj; subst hj
      refine ⟨h.1.1, fun e he hb => ?_⟩
      have := List.all_eq_true.1 h.1.2 e he
      simp only [hb, Bool.not_true, Bool.false_or] at this
      exact blt_lt this
    | succ j => rw [show k + (j + 1) = k + 1 + j by omega]; exact drawOpers_spec r (k + 1) h.2 j o (by simpa using hj)

theorem hasEdge_spec {o : Oper} {j : Nat} (h : hasEdge o j = true) : ∃ e ∈ o.after.toList, e.on = j ∧ Region.binds .any e = true := by
  simp only [hasEdge, List.any_eq_true, Bool.and_eq_true] at h
  obtain ⟨e, he, h1, h2⟩ := h
  exact ⟨e, he, Nat.eq_of_beq_eq_true h1, h2⟩

structure Drawn (ops : Array Oper) : Prop where
  looks : ∀ (i j : Nat) (o p : Oper) (d : Nat), ops.toList[i]? = some o → ops.toList[j]? = some p → p.dst = some d → d ∈ looksOf ops.toList o → j = i ∨ (j < i ∧ hasEdge o j = true) ∨ (i < j ∧ hasEdge p i = true)
  back : ∀ (i : Nat) (o : Oper) (e : Edge), ops.toList[i]? = some o → e ∈ o.after.toList → Region.binds .any e = true → e.on < i

theorem drawn_of {ops : Array Oper} (h : drawOK ops.toList = true) : Drawn ops := by
  refine ⟨fun i j o p d hi hj hd ht => ?_, fun i o e hi he hb => by simpa using (drawOpers_spec ops.toList 0 h i o hi).2 e he hb⟩
  have h1 := (drawOpers_spec ops.toList 0 h i o hi).1
  have h2 := List.all_eq_true.1 h1 d ht
  have h3 := List.all_eq_true.1 h2 _ (dsi_spec ops.toList 0 j p d hj hd)
  simp only [beq_self, Bool.not_true, Bool.false_or, Bool.or_eq_true, Nat.zero_add] at h3
  rcases h3 with h3 | h3
  · exact .inl (Nat.eq_of_beq_eq_true h3)
  · right
    cases hb : Nat.blt j i with
    | true => rw [hb] at h3; exact .inl ⟨blt_lt hb, h3⟩
    | false =>
      rw [hb] at h3
      by_cases e : j = i
      · subst e; simp only [cond_false] at h3
        obtain ⟨e', he', h4, h5⟩ := hasEdge_spec h3
        have := (drawOpers_spec ops.toList 0 h j p hj).2 e' he' h5
        omega
      · right
        have hge : ¬ j < i := fun hlt => by
          have : Nat.blt j i = true := by simpa [Nat.blt, Nat.lt_iff_add_one_le] using hlt
          rw [this] at hb; simp at hb
        exact ⟨by omega, h3⟩

section
variable {P : Program} {T : Nat → Option Ty} {G : Tbl} {w w' : World} {σ σ' τ : Store} {H H' : Nat → Value} {n0 N : Nat} {ops : Array Oper} {C C' : Nat → Prop}

/-- the state after the operations in D, by what they yield -/
structure SpecSt (ops : Array Oper) (vs : Nat → SV) (D : Nat → Prop) (st0 st : St) : Prop where
  bx : st.bx = st0.bx
  done : ∀ (j : Nat) (o : Oper) (k : Nat), D j → ops.toList[j]? = some o → o.dst = some k → look k st.sl = some (vs j)
  rest : ∀ k, (∀ (j : Nat) (o : Oper), D j → ops.toList[j]? = some o → o.dst ≠ some k) → look k st.sl = look k st0.sl

theorem SpecSt.put (hS : Static N ops) {vs : Nat → SV} {D : Nat → Prop} {st0 st : St} (h : SpecSt ops vs D st0 st) {i : Nat} {o : Oper} (hi : ops.toList[i]? = some o) :
    SpecSt ops vs (fun j => D j ∨ j = i) st0 (st.put o.dst (vs i)) := by
  cases hd : o.dst with
  | none =>
    refine ⟨h.bx, fun j p k hj hp hk => ?_, fun k hk => h.rest k fun j p hj => hk j p (.inl hj)⟩
    rcases hj with hj | rfl
    · exact h.done j p k hj hp hk
    · rw [hi] at hp; simp at hp; subst hp; rw [hd] at hk; simp at hk
  | some d =>
    refine ⟨h.bx, fun j p k hj hp hk => ?_, fun k hk => ?_⟩
    · simp only [St.put, look_ins]
      rcases hj with hj | rfl
      · by_cases e : k = d
        · subst e
          have := hS.inj j i p o k hp hi hk hd
          subst this; simp
        · rw [if_neg e]; exact h.done j p k hj hp hk
      · rw [hi] at hp; simp at hp; subst hp; rw [hd] at hk; simp at hk; subst hk; simp
    · have hne : ¬ k = d := fun e => hk i o (.inr rfl) hi (by rw [hd, e])
      simp only [St.put, look_ins, if_neg hne]
      exact h.rest k fun j p hj => hk j p (.inl hj)

def EdgeClosed (ops : Array Oper) (D : Nat → Prop) : Prop := ∀ (j : Nat) (o : Oper) (e : Edge), D j → ops.toList[j]? = some o → e ∈ o.after.toList → Region.binds .any e = true → D e.on

theorem agree_look (hS : Static N ops) (hW : Drawn ops) {vs : Nat → SV} {D : Nat → Prop} {st0 st st' : St} (h : SpecSt ops vs D st0 st) {i : Nat} {o : Oper} (hi : ops.toList[i]? = some o) (h' : SpecSt ops vs (· < i) st0 st')
    (hD : EdgeClosed ops D) (hready : ∀ e ∈ o.after.toList, Region.binds .any e = true → D e.on) (hiD : ¬ D i) {t : Nat} (ht : t ∈ looksOf ops.toList o) : look t st.sl = look t st'.sl := by
  by_cases hex : ∃ (j : Nat) (p : Oper), ops.toList[j]? = some p ∧ p.dst = some t
  · obtain ⟨j, p, hp, hd⟩ := hex
    have uniq : ∀ (D' : Nat → Prop), ¬ D' j → ∀ (q : Nat) (r : Oper), D' q → ops.toList[q]? = some r → r.dst ≠ some t := by
      intro D' hn q r hq hr e
      have := hS.inj q j r p t hr hp e hd
      subst this; exact hn hq
    rcases hW.looks i j o p t hi hp hd ht with e | ⟨h1, h2⟩ | ⟨h1, h2⟩
    · subst e
      rw [hi] at hp; simp at hp; subst hp
      rw [h.rest t (uniq D hiD), h'.rest t (uniq (· < j) (Nat.lt_irrefl j))]
    · obtain ⟨e, he, h3, h4⟩ := hasEdge_spec h2
      have hj : D j := h3 ▸ hready e he h4
      rw [h.done j p t hj hp hd, h'.done j p t h1 hp hd]
    · obtain ⟨e, he, h3, h4⟩ := hasEdge_spec h2
      by_cases hj : D j
      · have hii : D i := h3 ▸ hD j p e hj hp he h4
        exact (hiD hii).elim
      · rw [h.rest t (uniq D hj), h'.rest t (uniq (· < i) (by omega))]
  · have none : ∀ (D' : Nat → Prop) (q : Nat) (r : Oper), D' q → ops.toList[q]? = some r → r.dst ≠ some t := fun D' q r _ hr e => hex ⟨q, r, hr, e⟩
    rw [h.rest t (none D), h'.rest t (none (· < i))]


theorem look_both {vs : Nat → SV} {D : Nat → Prop} {st0 st st' : St} (h : SpecSt ops vs D st0 st) {i : Nat} (h' : SpecSt ops vs (· < i) st0 st') {q : Nat} {p : Oper} {t : Nat} (hp : ops.toList[q]? = some p) (hd : p.dst = some t)
    (hq : D q) (hlt : q < i) : look t st.sl = look t st'.sl := by
  rw [h.done q p t hq hp hd, h'.done q p t hlt hp hd]

theorem guardVal_agree (hS : Static N ops) (hW : Drawn ops) {vs : Nat → SV} {D : Nat → Prop} {st0 st st' : St} (h : SpecSt ops vs D st0 st) {i : Nat} (h' : SpecSt ops vs (· < i) st0 st') (hD : EdgeClosed ops D) :
    ∀ (n m : Nat) (b : Bool), D m → m < i → guardVal ops.toList st n (m, b) = guardVal ops.toList st' n (m, b)
  | 0, _, _, _, _ => rfl
  | n + 1, m, b, hm, hlt => by
    simp only [guardVal]
    cases hom : ops.toList[m]? with
    | none => rfl
    | some om =>
      simp only [Option.bind_some]
      cases hd : om.dst with
      | none => rfl
      | some d =>
        simp only [Option.bind_some, look_both h h' hom hd hm hlt]
        cases hg : om.guard with
        | none => rfl
        | some mb =>
          obtain ⟨m', b'⟩ := mb
          have hlt' := guard_lt hS hom hg
          have hm' : D m' := by
            have hok := hS.ok m om hom
            simp only [okOper, hg, Bool.and_eq_true] at hok
            have hdst := hok.1.2
            cases hom' : ops.toList[m']? with
            | none => simp [hom'] at hdst
            | some om' =>
              simp only [hom'] at hdst
              obtain ⟨d', hd'⟩ := Option.isSome_iff_exists.1 hdst
              have hlook : d' ∈ looksOf ops.toList om := by
                simp [looksOf, hg, hom', hd']
              rcases hW.looks m m' om om' d' hom hom' hd' hlook with e | ⟨_, h2⟩ | ⟨h1, _⟩
              · omega
              · obtain ⟨e, he, h3, h4⟩ := hasEdge_spec h2
                exact h3 ▸ hD m om e hm hom he h4
              · omega
          simp only [guardVal_agree hS hW h h' hD n m' b' hm' (by omega)]

/-- what the run in the text's order has found -/
structure Found (G : Tbl) (T : Nat → Option Ty) (ops : Array Oper) (vs : Nat → SV) (st0 : St) : Prop where
  op : ∀ (i : Nat) (o : Oper), ops.toList[i]? = some o → ∃ (st : St) (c g : Bool), SpecSt ops vs (· < i) st0 st ∧ GuardIs ops st o g ∧ opVal G T st.bx (opd st) o = some (c, vs i) ∧ (c || !g) = true

theorem tailOK_end {all : List Oper} {i : Nat} (h : all.length ≤ i) : tailOK all i = true := by
  unfold tailOK
  rw [List.drop_eq_nil_of_le h]
  rfl

/-- the run of a drawn region: up to place m it only reads; from there on each operation waits for all before it -/
theorem execR_ro {Φ : Leaf → Prop} (hfail : ¬ Φ .fail) (hS : Static N ops) (k : St → Leaf) {st0 : St} : ∀ (l : List Oper) (i : Nat) (st : St) (vs : Nat → SV), ops.toList.drop i = l → i ≤ ops.toList.length → SpecSt ops vs (· < i) st0 st →
    Φ (execR G T true ops.toList l st k) →
    ∃ (m : Nat) (vs' : Nat → SV) (st' : St), i ≤ m ∧ m ≤ ops.toList.length ∧ tailOK ops.toList m = true ∧ (∀ j, j < i → vs' j = vs j) ∧ SpecSt ops vs' (· < m) st0 st' ∧ Φ (execR G T false ops.toList (ops.toList.drop m) st' k) ∧
      ∀ (j : Nat) (o : Oper), i ≤ j → j < m → ops.toList[j]? = some o → ∃ (st : St) (c g : Bool), SpecSt ops vs' (· < j) st0 st ∧ GuardIs ops st o g ∧ opVal G T st.bx (opd st) o = some (c, vs' j) ∧ (c || !g) = true
  | [], i, st, vs, hd, hle, hsp, hΦ => by
    have hlen : ops.toList.length ≤ i := by
      have := congrArg List.length hd
      simp at this ⊢; omega
    refine ⟨i, vs, st, Nat.le_refl _, hle, tailOK_end hlen, fun _ _ => rfl, hsp, ?_, fun j o hj hj' ho => by omega⟩
    rw [hd]
    simpa [execR] using hΦ
  | o :: l, i, st, vs, hd, hle, hsp, hΦ => by
    have hi : ops.toList[i]? = some o := by
      have := congrArg (·[0]?) hd
      simpa using this
    have hd' : ops.toList.drop (i + 1) = l := by
      have := congrArg List.tail hd
      simpa using this
    have hlt : i < ops.toList.length := (List.getElem?_eq_some_iff.1 hi).1
    have hidx : ops.toList.length - (l.length + 1) = i := by
      have := congrArg List.length hd
      simp at this ⊢; simp at hlt; omega
    have stop : tailOK ops.toList i = true → Φ (execR G T false ops.toList (o :: l) st k) →
        ∃ (m : Nat) (vs' : Nat → SV) (st' : St), i ≤ m ∧ m ≤ ops.toList.length ∧ tailOK ops.toList m = true ∧ (∀ j, j < i → vs' j = vs j) ∧ SpecSt ops vs' (· < m) st0 st' ∧ Φ (execR G T false ops.toList (ops.toList.drop m) st' k) ∧
          ∀ (j : Nat) (o : Oper), i ≤ j → j < m → ops.toList[j]? = some o → ∃ (st : St) (c g : Bool), SpecSt ops vs' (· < j) st0 st ∧ GuardIs ops st o g ∧ opVal G T st.bx (opd st) o = some (c, vs' j) ∧ (c || !g) = true :=
      fun h1 h2 => ⟨i, vs, st, Nat.le_refl _, hle, h1, fun _ _ => rfl, hsp, by rw [hd]; exact h2, fun j o hj hj' ho => by omega⟩
    simp only [execR, hidx] at hΦ
    have main : ∀ (c g : Bool) (v : SV), GuardIs ops st o g → opVal G T st.bx (opd st) o = some (c, v) → (c || !g) = true → Φ (execR G T true ops.toList l (st.put o.dst v) k) →
        ∃ (m : Nat) (vs' : Nat → SV) (st' : St), i ≤ m ∧ m ≤ ops.toList.length ∧ tailOK ops.toList m = true ∧ (∀ j, j < i → vs' j = vs j) ∧ SpecSt ops vs' (· < m) st0 st' ∧ Φ (execR G T false ops.toList (ops.toList.drop m) st' k) ∧
          ∀ (j : Nat) (o : Oper), i ≤ j → j < m → ops.toList[j]? = some o → ∃ (st : St) (c g : Bool), SpecSt ops vs' (· < j) st0 st ∧ GuardIs ops st o g ∧ opVal G T st.bx (opd st) o = some (c, vs' j) ∧ (c || !g) = true := by
      intro c g v hg hov hc hΦ'
      have congrS : ∀ (u u' : Nat → SV) (n : Nat) (s : St), (∀ j, j < n → u' j = u j) → SpecSt ops u (· < n) st0 s → SpecSt ops u' (· < n) st0 s := fun u u' n s he hs =>
        ⟨hs.bx, fun j p k hj hp hk => by rw [he j hj]; exact hs.done j p k hj hp hk, hs.rest⟩
      have hsp1 : SpecSt ops (fun j => if j = i then v else vs j) (· < i) st0 st := congrS vs _ i st (fun j hj => by simp [show ¬ j = i by omega]) hsp
      have hsp2 := hsp1.put hS hi
      simp only [if_pos rfl] at hsp2
      have hsp3 : SpecSt ops (fun j => if j = i then v else vs j) (· < i + 1) st0 (st.put o.dst v) := by
        have := lt_succ_eq i
        rw [this] at hsp2
        exact hsp2
      obtain ⟨m, vs', st', hm1, hm2, hm3, h1, h2, h3, h4⟩ := execR_ro hfail hS k l (i + 1) _ _ hd' hlt hsp3 hΦ'
      have hvi : vs' i = v := by rw [h1 i (by omega)]; simp
      refine ⟨m, vs', st', by omega, hm2, hm3, fun j hj => by rw [h1 j (by omega)]; simp [show ¬ j = i by omega], h2, h3, fun j p hj hjm hp => ?_⟩
      by_cases e : j = i
      · subst e
        rw [hi] at hp; simp at hp; subst hp
        refine ⟨st, c, g, congrS vs vs' j st (fun q hq => by rw [h1 q (by omega)]; simp [show ¬ q = j by omega]) hsp, hg, by rw [hvi]; exact hov, hc⟩
      · exact h4 j p (by omega) hjm hp
    cases hg : o.guard with
    | none =>
      simp only [hg, cond_true, Bool.true_and] at hΦ
      cases hop : opVal G T st.bx (opd st) o with
      | none =>
        simp only [hop, Option.map_none] at hΦ
        cases ht : tailOK ops.toList i with
        | false => rw [ht] at hΦ; exact (hfail hΦ).elim
        | true =>
          rw [ht] at hΦ
          refine stop ht ?_
          simp only [execR, hg, cond_false, Bool.false_and]
          exact hΦ
      | some r =>
        obtain ⟨c, v⟩ := r
        simp only [hop, Option.map_some] at hΦ
        cases c with
        | false => exact (hfail hΦ).elim
        | true => exact main true true v (.inl ⟨hg, rfl⟩) hop rfl hΦ
    | some mb =>
      obtain ⟨m, b⟩ := mb
      simp only [hg] at hΦ
      cases hgv : guardVal ops.toList st ops.toList.length (m, b) with
      | none => simp only [hgv] at hΦ; exact (hfail hΦ).elim
      | some g =>
        simp only [hgv] at hΦ
        cases hov : opVal G T st.bx (opd st) o with
        | none =>
          simp only [hov, Bool.not_true, Bool.false_or] at hΦ
          cases ht : tailOK ops.toList i with
          | false => rw [ht] at hΦ; exact (hfail hΦ).elim
          | true =>
            rw [ht] at hΦ
            refine stop ht ?_
            simp only [execR, hg, hgv, hov, Bool.not_false, Bool.true_or, cond_true]
            simpa using hΦ
        | some r =>
          obtain ⟨c, v⟩ := r
          simp only [hov] at hΦ
          cases hc : (c || !g) with
          | false => simp only [hc, cond_false] at hΦ; exact (hfail hΦ).elim
          | true =>
            simp only [hc, cond_true] at hΦ
            exact main c g v (.inr ⟨(m, b), hg, hgv⟩) hov hc hΦ

theorem ready_mem {listed : Array Bool} {i : Nat} (h : i ∈ Region.ready .any ops listed) : ∃ o, ops.toList[i]? = some o ∧ listed.getD i true = false ∧ ∀ e ∈ o.after.toList, Region.binds .any e = true → listed.getD e.on false = true := by
  unfold Region.ready at h
  simp only [List.mem_filter, List.mem_range, Bool.and_eq_true, Bool.not_eq_true'] at h
  obtain ⟨hlt, h1, h2⟩ := h
  have ho : ops[i]? = some ops[i] := by simp [hlt]
  rw [ho] at h2
  simp only [Option.map_some, Option.getD_some, Array.all_eq_true_iff_forall_mem, Bool.or_eq_true, Bool.not_eq_true'] at h2
  refine ⟨ops[i], by simp [hlt], h1, fun e he hb => ?_⟩
  rcases h2 e (by simpa using he) with h3 | h3
  · rw [hb] at h3; simp at h3
  · exact h3

end
end Go.Lift
set_option linter.unusedSimpArgs false
set_option linter.unusedVariables false
namespace Go.Lift

theorem cnt_lt {p q : Nat → Bool} (h : ∀ x, q x = true → p x = true) : ∀ (l : List Nat), (∃ x ∈ l, p x = true ∧ q x = false) → l.countP q < l.countP p
  | [], ⟨x, hx, _⟩ => by simp at hx
  | a :: l, ⟨x, hx, h1, h2⟩ => by
    have hle : l.countP q ≤ l.countP p := List.countP_mono_left fun y _ hy => h y hy
    simp only [List.countP_cons]
    rcases List.mem_cons.1 hx with rfl | hx
    · simp only [h1, h2]; simp; omega
    · have := cnt_lt h l ⟨x, hx, h1, h2⟩
      cases hq : q a with
      | false => simp; omega
      | true => simp [h a hq]; omega

section
variable {P : Program} {T : Nat → Option Ty} {G : Tbl} {w w' : World} {σ σ' τ : Store} {H H' : Nat → Value} {n0 N : Nat} {ops : Array Oper} {C C' : Nat → Prop}

def Dl (listed : Array Bool) (j : Nat) : Prop := listed.getD j false = true
def unl (n : Nat) (listed : Array Bool) : Nat := (List.range n).countP fun j => !listed.getD j false

theorem Dl_set {listed : Array Bool} {i : Nat} (hi : i < listed.size) (j : Nat) : Dl (listed.setIfInBounds i true) j ↔ (Dl listed j ∨ j = i) := by
  unfold Dl
  simp only [Array.getD_eq_getD_getElem?, Array.getElem?_setIfInBounds]
  by_cases e : i = j
  · subst e; simp [hi]
  · simp [e, Ne.symm e]

theorem Rel.look_congr {st st' : St} {a : Act} (h : Rel C N n0 σ H st a w) (hb : st'.bx = st.bx) (hl : ∀ k, look k st'.sl = look k st.sl) : Rel C N n0 σ H st' a w := by
  refine ⟨h.holds, h.size, h.defers, h.base, fun k b hk => h.box k b (by rw [← hb]; exact hk), fun k k' b b' g hk hk' => h.apart k k' b b' g (by rw [← hb]; exact hk) (by rw [← hb]; exact hk'), fun k s hk hc => ?_⟩
  rw [hb]; exact h.slot k s (by rw [← hl]; exact hk) hc

theorem Inv.look_congr {D : Nat → Prop} {st st' : St} {a : Act} (h : Inv ops D N n0 σ H st a w) (hb : st'.bx = st.bx) (hl : ∀ k, look k st'.sl = look k st.sl) : Inv ops D N n0 σ H st' a w :=
  ⟨h.rel.look_congr hb hl, h.skip⟩

theorem SpecSt.same {vs : Nat → SV} {D : Nat → Prop} {st0 st st' : St} (h : SpecSt ops vs D st0 st) (h' : SpecSt ops vs D st0 st') : st'.bx = st.bx ∧ ∀ k, look k st'.sl = look k st.sl := by
  refine ⟨h'.bx.trans h.bx.symm, fun k => ?_⟩
  by_cases hex : ∃ (j : Nat) (o : Oper), D j ∧ ops.toList[j]? = some o ∧ o.dst = some k
  · obtain ⟨j, o, hj, ho, hd⟩ := hex
    rw [h.done j o k hj ho hd, h'.done j o k hj ho hd]
  · have : ∀ (j : Nat) (o : Oper), D j → ops.toList[j]? = some o → o.dst ≠ some k := fun j o hj ho hd => hex ⟨j, o, hj, ho, hd⟩
    rw [h.rest k this, h'.rest k this]

theorem SpecSt.congr {vs : Nat → SV} {D D' : Nat → Prop} {st0 st : St} (h : SpecSt ops vs D st0 st) (hd : ∀ j, D j ↔ D' j) : SpecSt ops vs D' st0 st :=
  ⟨h.bx, fun j o k hj => h.done j o k ((hd j).2 hj), fun k hk => h.rest k fun j o hj => hk j o ((hd j).1 hj)⟩

theorem ready_nil (hW : Drawn ops) {listed : Array Bool} (hsz : listed.size = ops.size) (h : Region.ready .any ops listed = []) : ∀ j, j < ops.size → Dl listed j := by
  intro j
  induction j using Nat.strongRecOn with
  | _ j ih =>
    intro hj
    cases hl : listed.getD j false with
    | true => exact hl
    | false =>
      exfalso
      have hmem : j ∈ Region.ready .any ops listed := by
        unfold Region.ready
        simp only [List.mem_filter, List.mem_range, Bool.and_eq_true, Bool.not_eq_true']
        refine ⟨hj, ?_, ?_⟩
        · simp [Array.getD, hsz, hj] at hl ⊢; exact hl
        · have ho : ops[j]? = some ops[j] := by simp [hj]
          rw [ho]
          simp only [Option.map_some, Option.getD_some, Array.all_eq_true_iff_forall_mem, Bool.or_eq_true, Bool.not_eq_true']
          intro e he
          cases hb : Region.binds .any e with
          | false => left; rfl
          | true =>
            right
            have hlt := hW.back j ops[j] e (by simp [hj]) (by simpa using he) hb
            exact ih e.on hlt (by omega)
      rw [h] at hmem
      simp at hmem

theorem unl_zero {listed : Array Bool} (h : unl ops.size listed = 0) : ∀ j, j < ops.size → Dl listed j := by
  intro j hj
  have := List.countP_eq_zero.1 h j (List.mem_range.2 hj)
  simpa [Dl] using this

theorem ready_of_all {listed : Array Bool} (hsz : listed.size = ops.size) (h : ∀ j, j < ops.size → Dl listed j) : Region.ready .any ops listed = [] := by
  unfold Region.ready
  rw [List.filter_eq_nil_iff]
  intro j hj
  have hj := List.mem_range.1 hj
  have := h j hj
  simp [Dl, Array.getD, hsz, hj] at this
  simp [Array.getD, hsz, hj, this]

theorem domin_spec {i : Nat} {o : Oper} (h : domin ops.toList i o = true) {D : Nat → Prop} (hcl : EdgeClosed ops D) (hed : ∀ e ∈ o.after.toList, Region.binds .any e = true → D e.on) : ∀ j, j < i → D j := by
  have key : ∀ n j, i - j = n → j < i → D j := by
    intro n
    induction n using Nat.strongRecOn with
    | _ n ih =>
      intro j hn hj
      unfold domin at h
      have hj' := List.all_eq_true.1 h j (List.mem_range.2 hj)
      simp only [Bool.or_eq_true] at hj'
      rcases hj' with hj' | hj'
      · obtain ⟨e, he, h1, h2⟩ := hasEdge_spec hj'
        exact h1 ▸ hed e he h2
      · obtain ⟨k, hk, hk2⟩ := List.any_eq_true.1 hj'
        have hk := List.mem_range.1 hk
        simp only [Bool.and_eq_true] at hk2
        obtain ⟨hjk, hk3⟩ := hk2
        have hjk := blt_lt hjk
        have hDk := ih (i - k) (by omega) k rfl hk
        cases hp : ops.toList[k]? with
        | none => rw [hp] at hk3; simp at hk3
        | some p =>
          rw [hp] at hk3
          obtain ⟨e, he, h1, h2⟩ := hasEdge_spec hk3
          exact h1 ▸ hcl k p e hDk hp he h2
  exact fun j hj => key _ j rfl hj

theorem tailGo_spec {all : List Oper} : ∀ (l : List Oper) (m : Nat), tailGo all m l = true → ∀ (j : Nat) (o : Oper), l[j]? = some o → domin all (m + j) o = true
  | [], _, _, _, _, h => by simp at h
  | p :: l, m, h, j, o, hj => by
    simp only [tailGo, Bool.and_eq_true] at h
    cases j with
    | zero => simp at hj; subst hj; exact h.1
    | succ j =>
      have := tailGo_spec l (m + 1) h.2 j o (by simpa using hj)
      rw [show m + (j + 1) = m + 1 + j by omega]; exact this

theorem tailOK_spec {m : Nat} (h : tailOK ops.toList m = true) {i : Nat} {o : Oper} (hm : m ≤ i) (hi : ops.toList[i]? = some o) : domin ops.toList i o = true := by
  have := tailGo_spec _ m h (i - m) o (by rw [List.getElem?_drop, show m + (i - m) = i by omega]; exact hi)
  rwa [show m + (i - m) = i by omega] at this

theorem notD {listed : Array Bool} (hsz : listed.size = ops.size) {i : Nat} {o : Oper} (ho : ops.toList[i]? = some o) (hl : listed.getD i true = false) : i < ops.size ∧ ¬ Dl listed i := by
  have hilt : i < ops.size := by have := (List.getElem?_eq_some_iff.1 ho).1; simpa using this
  refine ⟨hilt, ?_⟩
  unfold Dl
  simp [Array.getD, hsz, hilt] at hl ⊢
  exact hl

theorem unl_set {listed : Array Bool} {i : Nat} (hilt : i < ops.size) (hsz : listed.size = ops.size) (hnD : ¬ Dl listed i) : unl ops.size (listed.setIfInBounds i true) < unl ops.size listed := by
  have hset := Dl_set (listed := listed) (i := i) (by omega)
  refine cnt_lt (fun x hx => ?_) _ ⟨i, List.mem_range.2 hilt, ?_, ?_⟩
  · cases hxl : listed.getD x false with
    | false => rfl
    | true =>
      have := (hset x).2 (.inl hxl)
      unfold Dl at this
      rw [this] at hx; simp at hx
  · unfold Dl at hnD; simpa using hnD
  · have := (hset i).2 (.inr rfl)
    unfold Dl at this
    simp [this]

/-- from place i on the draw has no choice -/
theorem chain_any {Φ : Leaf → Prop} (hfail : ¬ Φ .fail) (hE : Env P T G) (hS : Static N ops) (hW : Drawn ops) (k : St → Leaf) {Q : Exit → Act → World → Prop} : ∀ (l : List Oper) (i : Nat) (fuel : Nat) (listed : Array Bool) (st : St) (a : Act) (w : World) (σ : Store) (H : Nat → Value),
    ops.toList.drop i = l → (∀ m, i ≤ m → ∀ o, ops.toList[m]? = some o → domin ops.toList m o = true) → i ≤ ops.size → listed.size = ops.size → (∀ j, Dl listed j ↔ j < i) → unl ops.size listed ≤ fuel → Inv ops (· < i) N n0 σ H st a w → Φ (execR G T false ops.toList l st k) →
    (∀ σ' H' st' a' w', Trans n0 σ w σ' w' → Inv ops (fun j => j < ops.toList.length) N n0 σ' H' st' a' w' → Φ (k st') → Q .normal a' w') → wpAny P .any ops Q fuel listed a w
  | [], i, fuel, listed, st, a, w, σ, H, hd, hdom, hle, hsz, hDl, hun, hI, hΦ, hQ => by
    have hlen : ops.toList.length ≤ i := by
      have := congrArg List.length hd
      simp at this ⊢; omega
    have hall : ∀ j, j < ops.size → Dl listed j := fun j hj => (hDl j).2 (by simp at hlen; omega)
    have hq : Q .normal a w := hQ σ H st a w (Trans.refl hI.rel.holds) (hI.congr fun j o hj => by have := (List.getElem?_eq_some_iff.1 hj).1; omega) (by simpa [execR] using hΦ)
    cases fuel with
    | zero => exact ⟨ready_of_all hsz hall, hq⟩
    | succ fuel => exact ⟨fun _ => hq, fun i' hi' => by rw [ready_of_all hsz hall] at hi'; simp at hi'⟩
  | o :: l, i, fuel, listed, st, a, w, σ, H, hd, hdom, hle, hsz, hDl, hun, hI, hΦ, hQ => by
    have hi : ops.toList[i]? = some o := by
      have := congrArg (·[0]?) hd
      simpa using this
    have hd' : ops.toList.drop (i + 1) = l := by
      have := congrArg List.tail hd
      simpa using this
    have hilt : i < ops.size := by have := (List.getElem?_eq_some_iff.1 hi).1; simpa using this
    have hnDi : ¬ Dl listed i := fun h => by have := (hDl i).1 h; omega
    cases fuel with
    | zero => exact (hnDi (unl_zero (ops := ops) (Nat.le_zero.1 hun) i hilt)).elim
    | succ fuel =>
      have hcl : EdgeClosed ops (Dl listed) := fun j p e hj hp he hb => (hDl e.on).2 (by have := hW.back j p e hp he hb; have := (hDl j).1 hj; omega)
      refine ⟨fun hnil => (hnDi (ready_nil hW hsz hnil i hilt)).elim, fun i' hi' => ?_⟩
      obtain ⟨o', ho', hl', hed⟩ := ready_mem hi'
      obtain ⟨hilt', hnD'⟩ := notD hsz ho' hl'
      have hge : i ≤ i' := Nat.le_of_not_lt fun h => hnD' ((hDl i').2 h)
      have hle' : i' ≤ i := Nat.le_of_not_lt fun h => hnDi (domin_spec (hdom i' hge o' ho') hcl hed i h)
      obtain rfl : i' = i := Nat.le_antisymm hle' hge
      refine execR_one hfail hE hS k hi hI hΦ fun st' hΦ' σ1 H1 a1 w1 ht hI1 => ?_
      rw [lt_succ_eq] at hI1
      have hset := Dl_set (listed := listed) (i := i') (by omega)
      exact chain_any hfail hE hS hW k l (i' + 1) fuel (listed.setIfInBounds i' true) st' a1 w1 σ1 H1 hd' (fun m hm => hdom m (by omega)) (by omega) (by simpa using hsz)
        (fun j => by rw [hset j, hDl j]; omega) (by have := unl_set (ops := ops) hilt hsz hnDi; omega) hI1 hΦ' fun σ2 H2 st2 a2 w2 ht2 hI2 hk => hQ σ2 H2 st2 a2 w2 (ht.trans ht2) hI2 hk

theorem ro_any (hE : Env P T G) (hS : Static N ops) (hW : Drawn ops) {vs : Nat → SV} {st0 : St} {m : Nat} (hm : m ≤ ops.size) (hdom : ∀ i, m ≤ i → ∀ o, ops.toList[i]? = some o → domin ops.toList i o = true)
    (hF : ∀ (j : Nat) (o : Oper), j < m → ops.toList[j]? = some o → ∃ (st : St) (c g : Bool), SpecSt ops vs (· < j) st0 st ∧ GuardIs ops st o g ∧ opVal G T st.bx (opd st) o = some (c, vs j) ∧ (c || !g) = true)
    {Q : Exit → Act → World → Prop} : ∀ (fuel : Nat) (listed : Array Bool) (a : Act) (w : World) (σ : Store) (st : St), listed.size = ops.size → (∀ j, Dl listed j → j < m) → SpecSt ops vs (Dl listed) st0 st → Inv ops (Dl listed) N n0 σ H st a w → EdgeClosed ops (Dl listed) →
    unl ops.size listed ≤ fuel → (∀ σ' a' w' st' fuel' listed', Trans n0 σ w σ' w' → listed'.size = ops.size → (∀ j, Dl listed' j ↔ j < m) → unl ops.size listed' ≤ fuel' → SpecSt ops vs (· < m) st0 st' → Inv ops (· < m) N n0 σ' H st' a' w' → wpAny P .any ops Q fuel' listed' a' w') → wpAny P .any ops Q fuel listed a w := by
  intro fuel
  induction fuel with
  | zero =>
    intro listed a w σ st hsz hlm hsp hI hcl hun hQ
    have hall := unl_zero (ops := ops) (Nat.le_zero.1 hun)
    have hiff : ∀ j, Dl listed j ↔ j < m := fun j => ⟨hlm j, fun h => hall j (by omega)⟩
    exact hQ σ a w st 0 listed (Trans.refl hI.rel.holds) hsz hiff hun (hsp.congr hiff) (hI.congr fun j o _ => hiff j)
  | succ fuel ih =>
    intro listed a w σ st hsz hlm hsp hI hcl hun hQ
    by_cases hall : ∀ j, j < m → Dl listed j
    · have hiff : ∀ j, Dl listed j ↔ j < m := fun j => ⟨hlm j, hall j⟩
      exact hQ σ a w st (fuel + 1) listed (Trans.refl hI.rel.holds) hsz hiff hun (hsp.congr hiff) (hI.congr fun j o _ => hiff j)
    refine ⟨fun hnil => ?_, fun i hi => ?_⟩
    · exact (hall fun j hj => ready_nil hW hsz hnil j (by omega)).elim
    · obtain ⟨o, ho, hl, hed⟩ := ready_mem hi
      obtain ⟨hilt, hnD⟩ := notD hsz ho hl
      have him : i < m := Nat.lt_of_not_le fun h => hall fun j hj => domin_spec (hdom i h o ho) hcl hed j (by omega)
      have hR : Ready ops (Dl listed) i o := by
        have hgd : ∀ (j : Nat) (p : Oper) (m : Nat) (b : Bool), ops.toList[j]? = some p → p.guard = some (m, b) → (∀ e ∈ p.after.toList, Region.binds .any e = true → Dl listed e.on) → Dl listed m := by
          intro j p m b hp hg hedge
          have hlt := guard_lt hS hp hg
          have hok := hS.ok j p hp
          simp only [okOper, hg, Bool.and_eq_true] at hok
          have hdst := hok.1.2
          cases hom' : ops.toList[m]? with
          | none => simp [hom'] at hdst
          | some om' =>
            simp only [hom'] at hdst
            obtain ⟨d', hd'⟩ := Option.isSome_iff_exists.1 hdst
            have hlook : d' ∈ looksOf ops.toList p := by simp [looksOf, hg, hom', hd']
            rcases hW.looks j m p om' d' hp hom' hd' hlook with e | ⟨_, h2⟩ | ⟨h1, _⟩
            · omega
            · obtain ⟨e, he, h3, h4⟩ := hasEdge_spec h2
              exact h3 ▸ hedge e he h4
            · omega
        exact ⟨ho, hnD, fun m b hg => hgd i o m b ho hg hed, fun j p m b hj hp hg => hgd j p m b hp hg fun e he hb => hcl j p e hj hp he hb⟩
      obtain ⟨sti, c, g, hspi, hg, hov, hc⟩ := hF i o him ho
      have hlook : ∀ t, t ∈ looksOf ops.toList o → look t st.sl = look t sti.sl := fun t ht => agree_look hS hW hsp ho hspi hcl hed hnD ht
      have hov' : opVal G T st.bx (opd st) o = some (c, vs i) := by
        rw [hsp.bx, ← hspi.bx, ← hov]
        refine opVal_congr fun x hx => ?_
        cases x with
        | tmp t => exact hlook t (List.mem_append_left _ (tmps_mem hx))
        | _ => rfl
      have hg' : GuardIs ops st o g := by
        rcases hg with h1 | ⟨⟨m, b⟩, h1, h2⟩
        · exact .inl h1
        · refine .inr ⟨(m, b), h1, ?_⟩
          rw [guardVal_agree hS hW hsp hspi hcl _ m b (hR.guard m b h1) (guard_lt hS ho h1)]
          exact h2
      refine inv_value hE hS hR hI hg' hov' hc fun σ1 a1 w1 ht hI1 => ?_
      have hset := Dl_set (listed := listed) (i := i) (by omega)
      refine ih (listed.setIfInBounds i true) a1 w1 σ1 (st.put o.dst (vs i)) (by simpa using hsz) (fun j hj => ?_) ((hsp.put hS ho).congr fun j => (hset j).symm) (hI1.congr fun j o _ => (hset j).symm) ?_ ?_ fun σ2 a2 w2 st2 f2 l2 ht2 => hQ σ2 a2 w2 st2 f2 l2 (ht.trans ht2)
      · rcases (hset j).1 hj with hj | rfl
        · exact hlm j hj
        · exact him
      · intro j p e hj hp he hb
        rcases (hset j).1 hj with hj | rfl
        · exact (hset e.on).2 (.inl (hcl j p e hj hp he hb))
        · rw [ho] at hp; simp at hp; subst hp
          exact (hset e.on).2 (.inl (hed e he hb))
      · have := unl_set (ops := ops) hilt hsz hnD
        omega

end
end Go.Lift
set_option linter.unusedSimpArgs false
set_option linter.unusedVariables false
namespace Go.Lift

section
variable {P : Program} {T : Nat → Option Ty} {G : Tbl} {w w' : World} {σ σ' τ : Store} {H H' : Nat → Value} {n0 N : Nat} {ops : Array Oper} {C C' : Nat → Prop}

theorem look_unguard : ∀ (l : List Oper) (st : St) (k : Nat), (unguard l st).bx = st.bx ∧ ((∃ (j : Nat) (o : Oper), l[j]? = some o ∧ o.guard ≠ none ∧ o.dst = some k) → look k (unguard l st).sl = none) ∧
    (∀ s, look k (unguard l st).sl = some s → look k st.sl = some s)
  | [], st, k => ⟨rfl, fun ⟨j, o, h, _⟩ => by simp at h, fun s h => h⟩
  | o :: l, st, k => by
    simp only [unguard]
    cases hg : o.guard with
    | none =>
      obtain ⟨h1, h2, h3⟩ := look_unguard l st k
      refine ⟨h1, fun ⟨j, p, hp, hpg, hpd⟩ => ?_, h3⟩
      cases j with
      | zero => simp at hp; subst hp; exact (hpg hg).elim
      | succ j => exact h2 ⟨j, p, by simpa using hp, hpg, hpd⟩
    | some g =>
      obtain ⟨h1, h2, h3⟩ := look_unguard l (st.unput o.dst) k
      have hsub : ∀ s, look k (st.unput o.dst).sl = some s → look k st.sl = some s ∧ o.dst ≠ some k := by
        intro s hs
        cases hd : o.dst with
        | none => rw [hd] at hs; exact ⟨hs, by simp⟩
        | some d =>
          rw [hd] at hs
          simp only [St.unput, look_del] at hs
          split at hs
          · simp at hs
          · rename_i e; exact ⟨hs, fun h => e (by simp at h; exact h.symm)⟩
      refine ⟨h1.trans (by cases o.dst <;> rfl), fun ⟨j, p, hp, hpg, hpd⟩ => ?_, fun s hs => (hsub s (h3 s hs)).1⟩
      cases j with
      | zero =>
        simp at hp; subst hp
        cases hl : look k (unguard l (st.unput o.dst)).sl with
        | none => rfl
        | some s => exact ((hsub s (h3 s hl)).2 hpd).elim
      | succ j => exact h2 ⟨j, p, by simpa using hp, hpg, hpd⟩

theorem inv_end {st : St} {a : Act} (h : Inv ops (fun j => j < ops.toList.length) N n0 σ H st a w) : Rel (fun _ => True) N n0 σ H (unguard ops.toList st) a w := by
  have hl := look_unguard ops.toList st
  have hb := (hl 0).1
  refine ⟨h.rel.holds, h.rel.size, h.rel.defers, h.rel.base, fun k b hk => h.rel.box k b (by rw [← hb]; exact hk), fun k k' b b' g hk hk' => h.rel.apart k k' b b' g (by rw [← hb]; exact hk) (by rw [← hb]; exact hk'), fun k s hk _ => ?_⟩
  rw [hb]
  refine h.rel.slot k s ((hl k).2.2 s hk) fun j o _ ho hd => ?_
  cases hg : o.guard with
  | none => exact want_none hg
  | some g =>
    have := (hl k).2.1 ⟨j, o, ho, by simp [hg], hd⟩
    rw [hk] at this; simp at this

theorem inv_start {st : St} {a : Act} (h : Rel (fun _ => True) N n0 σ H st a w) (D : Nat → Prop) (hD : ∀ j, ¬ D j) : Inv ops D N n0 σ H st a w :=
  ⟨h.weaken fun _ _ => trivial, fun j o k hj => (hD j hj).elim⟩

theorem region_sound {Φ : Leaf → Prop} (hfail : ¬ Φ .fail) (hE : Env P T G) {id : Nat} {draw : Bool} {st : St} {a : Act} {k : St → Leaf} (hI : Rel (fun _ => True) N n0 σ H st a w)
    (hg : (guardsOK N ops.toList && (!draw || drawOK ops.toList)) = true) (hΦ : Φ (execR G T draw ops.toList ops.toList st fun st' => k (unguard ops.toList st'))) {Q : Exit → Act → World → Prop}
    (hQ : ∀ σ' H' st' a' w', Trans n0 σ w σ' w' → Rel (fun _ => True) N n0 σ' H' st' a' w' → Φ (k st') → Q .normal a' w') : (Code.region id ops draw).wp P Q a w := by
  simp only [Bool.and_eq_true, Bool.or_eq_true, Bool.not_eq_true'] at hg
  obtain ⟨hg1, hg2⟩ := hg
  have hS := static_of hg1
  cases draw with
  | false =>
    refine wp_region ?_
    have := execR_seq (Φ := Φ) hfail hE hS (fun st' => k (unguard ops.toList st')) ops.toList 0 st a w σ H rfl (inv_start hI _ fun j => Nat.not_lt_zero j) hΦ Q fun σ' H' st' a' w' ht hI' hk => hQ σ' H' _ a' w' ht (inv_end hI') hk
    rw [List.range_eq_range']
    simpa using this
  | true =>
    have hW := drawn_of (hg2.resolve_left (by simp))
    refine wp_region_any hE.mixed ?_
    have hsp0 : ∀ vs, SpecSt ops vs (· < 0) st st := fun vs => ⟨rfl, fun j o k hj => (Nat.not_lt_zero j hj).elim, fun k _ => rfl⟩
    obtain ⟨m, vs, st', _, hm, htail, _, hsp, hk, hF⟩ := execR_ro (G := G) (T := T) (ops := ops) hfail hS (fun st' => k (unguard ops.toList st')) ops.toList 0 st (fun _ => .nils) rfl (Nat.zero_le _) (hsp0 _) hΦ
    have hm : m ≤ ops.size := by simpa using hm
    have hdom : ∀ i, m ≤ i → ∀ o, ops.toList[i]? = some o → domin ops.toList i o = true := fun i hi o ho => tailOK_spec htail hi ho
    have hI1 := hI.step (step_drew hI.holds)
    have hnone : ∀ j, ¬ Dl (Array.replicate ops.size false) j := by
      intro j
      unfold Dl
      simp [Array.getD, Array.getElem?_replicate]
    refine ro_any hE hS hW (vs := vs) (st0 := st) hm hdom (fun j o hj ho => hF j o (Nat.zero_le _) hj ho) ops.size (Array.replicate ops.size false) a w.drew σ st (by simp) (fun j hj => (hnone j hj).elim) ((hsp0 vs).congr fun j => ⟨fun h => (Nat.not_lt_zero j h).elim, fun h => (hnone j h).elim⟩)
      (inv_start hI1 _ hnone) (fun j o e hj => (hnone j hj).elim) ?_ fun σ' a' w' st2 fuel' listed' ht hsz' hDl' hun' hsp2 hI2 => ?_
    · unfold unl
      exact Nat.le_trans List.countP_le_length (by simp)
    · have hsame := hsp2.same hsp
      have hI3 := hI2.look_congr hsame.1 hsame.2
      exact chain_any hfail hE hS hW (fun st' => k (unguard ops.toList st')) _ m fuel' listed' st' a' w' σ' H rfl hdom hm hsz' hDl' hun' hI3 hk
        fun σ3 H3 st3 a3 w3 ht3 hI4 hk3 => hQ σ3 H3 _ a3 w3 (((step_drew hI.holds).trans' hI.base |>.trans ht).trans ht3) (inv_end hI4) hk3

/-! the way through the code -/
inductive Goes (G : Tbl) (T : Nat → Option Ty) (N : Nat) (rs : List ResultVar) : Leaf → SV → Prop
  | ret (v : SV) : Goes G T N rs (.ret v) v
  | loop (n : Nat) (ks : Nat → List Nat) (body : Code) (k : List Item) (st : St) (r : SV) : Goes G T N rs (run G T N rs ks n (.code body :: .inLoop body :: k) st) r → Goes G T N rs (.loop body k st) r
  | more (n : Nat) (ks : Nat → List Nat) (todo : List Item) (st : St) (r : SV) : Goes G T N rs (run G T N rs ks n todo st) r → Goes G T N rs (.more todo st) r

/-- where a machine stands that a leaf speaks of -/
def Rest (P : Program) (T : Nat → Option Ty) (N n0 : Nat) (rs : List ResultVar) (b : Frame) (cs : List Frame) (m : Machine) (σ : Store) (w : World) : Leaf → Prop
  | .fail => False
  | .ret v => ∃ a w' σ' H st todo, retOf T rs st = some v ∧ Trans n0 σ w σ' w' ∧ Rel (fun _ => True) N n0 σ' H st a w' ∧ Steps P m (lone { b.at a todo with mode := .returning } cs w')
  | .loop body k st => ∃ a w' σ' H, Trans n0 σ w σ' w' ∧ Rel (fun _ => True) N n0 σ' H st a w' ∧ Steps P m (lone (b.at a (.code body :: .inLoop body :: k)) cs w')
  | .more todo st => ∃ a w' σ' H, Trans n0 σ w σ' w' ∧ Rel (fun _ => True) N n0 σ' H st a w' ∧ Steps P m (lone (b.at a todo) cs w')

theorem run_reach {ks : Nat → List Nat} {Φ : Leaf → Prop} (hfail : ¬ Φ .fail) (hE : Env P T G) {rs : List ResultVar} {b : Frame} {cs : List Frame} {m : Machine} {σ0 : Store} {w0 : World} : ∀ (n : Nat) (todo : List Item) (st : St) (a : Act) (w : World) (σ : Store) (H : Nat → Value),
    Trans n0 σ0 w0 σ w → Rel (fun _ => True) N n0 σ H st a w → Steps P m (lone (b.at a todo) cs w) → Φ (run G T N rs ks n todo st) → ∃ L, Φ L ∧ Rest P T N n0 rs b cs m σ0 w0 L
  | 0, todo, st, a, w, σ, H, ht, hR, hs, hΦ => ⟨_, hΦ, a, w, σ, H, ht, hR.keep, hs⟩
  | n + 1, [], st, a, w, σ, H, ht, hR, hs, hΦ => by
    simp only [run, leave] at hΦ
    cases hr : retOf T rs st with
    | none => rw [hr] at hΦ; exact (hfail hΦ).elim
    | some v =>
      rw [hr] at hΦ
      exact ⟨_, hΦ, a, w, σ, H, st, [], hr, ht, hR, hs.trans (.one step_end)⟩
  | n + 1, x :: k, st, a, w, σ, H, ht, hR, hs, hΦ => by
    have ih := run_reach (ks := ks) (Φ := Φ) hfail hE (rs := rs) (b := b) (cs := cs) (m := m) (σ0 := σ0) (w0 := w0) n
    simp only [run] at hΦ
    split at hΦ
    · simp only [leave] at hΦ
      cases hr : retOf T rs st with
      | none => rw [hr] at hΦ; exact (hfail hΦ).elim
      | some v =>
        rw [hr] at hΦ
        exact ⟨_, hΦ, a, w, σ, H, st, _, hr, ht, hR, hs.trans (.one step_ret)⟩
    · exact ih k st a w σ H ht hR (hs.trans (.one step_skip)) hΦ
    · exact ih k st a w σ H ht hR (hs.trans (.one step_inBlock)) hΦ
    · exact ih _ st a w σ H ht hR (hs.trans (.one step_seq)) hΦ
    · rename_i c x y
      split at hΦ
      · rename_i t hc
        have hv := svr_bool (hR.opd (fun _ _ => trivial) hc)
        cases t with
        | true => simp only [cond_true] at hΦ; exact ih _ st a w σ H ht hR (hs.trans (.one (step_cond hv))) hΦ
        | false => simp only [cond_false] at hΦ; exact ih _ st a w σ H ht hR (hs.trans (.one (step_cond hv))) hΦ
      · exact (hfail hΦ).elim
    · exact ih _ st a w σ H ht hR (hs.trans (.one step_block)) hΦ
    · exact ⟨_, hΦ, a, w, σ, H, ht, hR.keep, hs.trans (.one step_loop)⟩
    · exact ⟨_, hΦ, a, w, σ, H, ht, hR.keep, hs.trans (.one step_inLoop)⟩
    · split at hΦ
      · rename_i k' hk'
        exact ih k' st a w σ H ht hR (hs.trans (.one (step_exit hk'))) hΦ
      · exact (hfail hΦ).elim
    · rename_i id ops draw
      cases hg : guardsOK N ops.toList && (!draw || drawOK ops.toList) with
      | false => rw [hg] at hΦ; exact (hfail hΦ).elim
      | true =>
        rw [hg] at hΦ
        simp only [cond_true] at hΦ
        have hw := region_sound (Φ := Φ) hfail hE (id := id) (k := fun st' => run G T N rs ks n k st') hR hg hΦ
          (Q := fun e a' w' => e = .normal ∧ ∃ σ' H' st', Trans n0 σ w σ' w' ∧ Rel (fun _ => True) N n0 σ' H' st' a' w' ∧ Φ (run G T N rs ks n k st')) fun σ' H' st' a' w' h1 h2 h3 => ⟨rfl, σ', H', st', h1, h2, h3⟩
        obtain ⟨e, a', w', ⟨he, σ', H', st', h1, h2, h3⟩, harr⟩ := hw b k cs
        subst he
        exact ih k st' a' w' σ' H' (ht.trans h1) h2 (hs.trans harr) h3
    · exact (hfail hΦ).elim

end
end Go.Lift
set_option linter.unusedSimpArgs false
set_option linter.unusedVariables false
namespace Go.Lift

section
variable {P : Program} {T : Nat → Option Ty} {G : Tbl} {w w' : World} {σ σ' τ : Store} {H H' : Nat → Value} {n0 N : Nat} {ops : Array Oper} {C C' : Nat → Prop}

/-- what is read when a frame is left -/
def Final (P : Program) (T : Nat → Option Ty) (N n0 : Nat) (rs : List ResultVar) (b : Frame) (cs : List Frame) (m : Machine) (σ : Store) (w : World) (r : SV) : Prop :=
  ∃ a w' σ' H st todo, retOf T rs st = some r ∧ Trans n0 σ w σ' w' ∧ Rel (fun _ => True) N n0 σ' H st a w' ∧ Steps P m (lone { b.at a todo with mode := .returning } cs w')

theorem goes_sound (hE : Env P T G) {rs : List ResultVar} {L : Leaf} {r : SV} (h : Goes G T N rs L r) : ∀ {b : Frame} {cs : List Frame} {m : Machine} {σ0 : Store} {w0 : World}, Rest P T N n0 rs b cs m σ0 w0 L → Final P T N n0 rs b cs m σ0 w0 r := by
  have hfail : ∀ r, ¬ Goes G T N rs .fail r := by intro r h; cases h
  induction h with
  | ret v => intro b cs m σ0 w0 h; exact h
  | loop n ks body k st r hg ih =>
    intro b cs m σ0 w0 ⟨a, w, σ, H, ht, hR, hs⟩
    obtain ⟨L, ⟨_, hL⟩, hrest⟩ := run_reach (ks := ks) (Φ := fun L => Goes G T N rs L r ∧ ∀ {b : Frame} {cs : List Frame} {m : Machine} {σ0 : Store} {w0 : World}, Rest P T N n0 rs b cs m σ0 w0 L → Final P T N n0 rs b cs m σ0 w0 r)
      (fun h => hfail r h.1) hE n _ _ a w σ H ht hR hs ⟨hg, ih⟩
    exact hL hrest
  | more n ks todo st r hg ih =>
    intro b cs m σ0 w0 ⟨a, w, σ, H, ht, hR, hs⟩
    obtain ⟨L, ⟨_, hL⟩, hrest⟩ := run_reach (ks := ks) (Φ := fun L => Goes G T N rs L r ∧ ∀ {b : Frame} {cs : List Frame} {m : Machine} {σ0 : Store} {w0 : World}, Rest P T N n0 rs b cs m σ0 w0 L → Final P T N n0 rs b cs m σ0 w0 r)
      (fun h => hfail r h.1) hE n _ _ a w σ H ht hR hs ⟨hg, ih⟩
    exact hL hrest


/-! results -/
def resRun (tmps : Array Value) : ResultVar → Sem Value
  | .tmp t => pure (tmps.getD t undef)
  | .cell a t => do loadVar t (← asAddr (tmps.getD a undef))

theorem results_eq (fn : Func) (tmps : Array Value) : results fn tmps = (do
    let vs ← fn.results.mapM (resRun tmps)
    pure (if h : vs.size = 1 then vs[0] else .tuple vs)) := by
  unfold results
  have : (fun (r : ResultVar) => (match r with | .tmp t => pure (tmps.getD t undef) | .cell a t => do loadVar t (← asAddr (tmps.getD a undef)) : Sem Value)) = resRun tmps := by
    funext r; cases r <;> rfl
  rw [← this]
  rfl

def Ret1 (σ : Store) (w : World) (n0 : Nat) (H : Nat → Value) (st : St) (rv : ResultVar) (v : Value) : SV → Prop
  | .tv d => RelV σ d v
  | .own t l => ∃ b tm, rv = .tmp tm ∧ look tm st.sl = some (.ref b) ∧ look b st.bx = some (.vec t l) ∧ v = H b
  | _ => False

theorem ret_one (hE : Env P T G) {st : St} {a : Act} (h : Rel (fun _ => True) N n0 σ H st a w) {rv : ResultVar} {s : SV} (hr : retOne T st rv = some s) :
    ∃ v, (resRun a.tmps rv).run P w = .ok v w ∧ Ret1 σ w n0 H st rv v s := by
  cases rv with
  | tmp t =>
    simp only [retOne, Option.bind_eq_some_iff] at hr
    obtain ⟨sv, hsv, hr⟩ := hr
    have hs := h.slot t sv hsv trivial
    refine ⟨a.tmps.getD t undef, rfl, ?_⟩
    split at hr
    · rename_i b
      split at hr
      · rename_i e l hb
        simp at hr; subst hr
        obtain ⟨_, _, _, h2⟩ := hs
        exact ⟨b, t, rfl, hsv, hb, h2⟩
      · simp at hr
    · simp at hr; subst hr; exact hs
    · simp at hr
  | cell ad t =>
    simp only [retOne, Option.bind_eq_some_iff] at hr
    obtain ⟨ty, hty, sv, hsv, hr⟩ := hr
    have hs := h.slot ad sv hsv trivial
    split at hr
    · rename_i b
      split at hr
      · rename_i d hb
        simp only [Option.map_eq_some_iff] at hr
        obtain ⟨x, hx, rfl⟩ := hr
        have := TD.as_eq hx; subst this
        obtain ⟨d0, e, g, h1, h2, h3, h4⟩ := hs
        rw [hb] at h1; simp at h1; subst h1
        obtain ⟨g', cs, cty, k1, k2, k3, _⟩ := h.box b _ hb
        rw [h3] at k1; simp at k1; subst k1
        have hat : At w ⟨g, 0, none⟩ cs.toList := at_row k2 (p := []) (r := []) (by simp) rfl
        obtain ⟨v, hv1, hv2⟩ := run_loadAt (P := P) (σ := σ) (hE.types _ _ hty) hat k3
        have hv1' : (loadVar t ⟨g, 0, none⟩).run P w = .ok v w := by simpa [Instr.loadAt, Instr.sureAddr] using hv1
        refine ⟨v, ?_, hv2⟩
        have h4' : a.tmps.getD ad undef = .pointer (some ⟨g, 0, none⟩) := by rw [h4]; rfl
        show (do loadVar t (← asAddr (a.tmps.getD ad undef)) : Sem Value).run P w = _
        rw [h4']
        simp only [Sem.run_bind, asAddr, Sem.run_pure, Result.andThen_ok, hv1']
      · simp at hr
    · simp at hr

theorem ret_all (hE : Env P T G) {st : St} {a : Act} (h : Rel (fun _ => True) N n0 σ H st a w) : ∀ {rs : List ResultVar} {l : List SV}, mapO (retOne T st) rs = some l →
    ∃ vs : List Value, (rs.mapM (resRun a.tmps)).run P w = .ok vs w ∧ vs.length = l.length ∧ ∀ (i : Nat) (s : SV) (u : Value), l[i]? = some s → vs[i]? = some u → ∃ rv, rs[i]? = some rv ∧ Ret1 σ w n0 H st rv u s
  | [], l, hm => by
    simp [mapO] at hm; subst hm
    exact ⟨[], by simp, rfl, fun i s u hs => by simp at hs⟩
  | rv :: rs, l, hm => by
    simp only [mapO, Option.bind_eq_some_iff] at hm
    obtain ⟨s, hs, l', hl', hm⟩ := hm
    simp at hm; subst hm
    obtain ⟨v, h1, h2⟩ := ret_one hE h hs
    obtain ⟨vs, g1, g2, g3⟩ := ret_all hE h hl'
    refine ⟨v :: vs, by simp [List.mapM_cons, h1, g1], by simp [g2], fun i s' u hs' hu => ?_⟩
    cases i with
    | zero => simp at hs' hu; subst hs'; subst hu; exact ⟨rv, rfl, h2⟩
    | succ i => simpa using g3 i s' u (by simpa using hs') (by simpa using hu)

theorem retBoxes_inj {st : St} : ∀ {rs : List ResultVar}, (retBoxes st rs).Nodup → ∀ (i j : Nat) (t t' b : Nat), rs[i]? = some (.tmp t) → rs[j]? = some (.tmp t') → look t st.sl = some (.ref b) → look t' st.sl = some (.ref b) → i = j
  | [], _, _, _, _, _, _, h, _, _, _ => by simp at h
  | rv :: rs, hn, i, j, t, t', b, hi, hj, ht, ht' => by
    have mem : ∀ (k tm : Nat), rs[k]? = some (.tmp tm) → look tm st.sl = some (.ref b) → b ∈ retBoxes st rs := by
      clear hn hi hj ht ht'
      induction rs with
      | nil => intro k tm h; simp at h
      | cons r0 rs ih =>
        intro k tm hk hl
        cases k with
        | zero => simp at hk; subst hk; simp [retBoxes, hl]
        | succ k =>
          have := ih k tm (by simpa using hk) hl
          cases r0 with
          | tmp t0 =>
            simp only [retBoxes]
            split
            · exact List.mem_cons_of_mem _ this
            · exact this
          | cell _ _ => simpa [retBoxes] using this
    have tl : (retBoxes st rs).Nodup := by
      cases rv with
      | tmp t0 =>
        simp only [retBoxes] at hn
        split at hn
        · exact (List.nodup_cons.1 hn).2
        · exact hn
      | cell _ _ => simpa [retBoxes] using hn
    cases i with
    | zero =>
      simp at hi; subst hi
      cases j with
      | zero => rfl
      | succ j =>
        simp only [retBoxes, ht] at hn
        exact ((List.nodup_cons.1 hn).1 (mem j t' (by simpa using hj) ht')).elim
    | succ i =>
      cases j with
      | zero =>
        simp at hj; subst hj
        simp only [retBoxes, ht'] at hn
        exact ((List.nodup_cons.1 hn).1 (mem i t (by simpa using hi) ht)).elim
      | succ j => exact congrArg (· + 1) (retBoxes_inj tl i j t t' b (by simpa using hi) (by simpa using hj) ht ht')

theorem run_results (hE : Env P T G) {fn : Func} {st : St} {a : Act} (h : Rel (fun _ => True) N n0 σ H st a w) {r : SV} (hr : retOf T fn.results.toList st = some r) :
    ∃ v, (results fn a.tmps).run P w = .ok v w ∧ RetR σ w n0 r v := by
  rw [results_eq]
  have key : ∀ (l : List SV), mapO (retOne T st) fn.results.toList = some l → ∃ vs : List Value, (fn.results.mapM (resRun a.tmps)).run P w = .ok vs.toArray w ∧ vs.length = l.length ∧
      ∀ (i : Nat) (s : SV) (u : Value), l[i]? = some s → vs[i]? = some u → ∃ rv, fn.results.toList[i]? = some rv ∧ Ret1 σ w n0 H st rv u s := by
    intro l hl
    obtain ⟨vs, h1, h2, h3⟩ := ret_all hE h hl
    exact ⟨vs, by rw [Array.mapM_eq_mapM_toList]; simp [h1], h2, h3⟩
  unfold retOf at hr
  split at hr
  · rename_i rv hrs
    obtain ⟨vs, h1, h2, h3⟩ := key [r] (by rw [hrs]; simp [mapO, hr])
    match vs, h2 with
    | [v], _ =>
      obtain ⟨rv', hrv, h4⟩ := h3 0 r v rfl rfl
      refine ⟨v, by simp [h1], ?_⟩
      cases r with
      | tv d => exact h4
      | own t l => obtain ⟨b, tm, _, _, hb, hv⟩ := h4; rw [hv]; exact h.box b _ hb
      | _ => exact h4.elim
  · rename_i hne
    obtain ⟨hdis, hr⟩ := cond_none hr
    simp only [Option.map_eq_some_iff] at hr
    obtain ⟨l, hl, rfl⟩ := hr
    obtain ⟨vs, h1, h2, h3⟩ := key l hl
    have hlen := (mapO_spec hl).1
    have hsz : ¬ vs.length = 1 := by
      intro e
      rw [h2, hlen] at e
      match hq : fn.results.toList, e with
      | [x], _ => exact hne x hq
    refine ⟨.tuple vs.toArray, by simp [h1, hsz], vs.toArray, rfl, by simp [h2], fun i s u hs hu => ?_, fun i j t t' m m' u u' g hi hj hu hu' hne' hg => ?_⟩
    · obtain ⟨rv, hrv, h4⟩ := h3 i s u hs (by simpa using hu)
      cases s with
      | tv d => exact h4
      | own t l => obtain ⟨b, tm, _, _, hb, hv⟩ := h4; rw [hv]; exact h.box b _ hb
      | _ => exact h4.elim
    · obtain ⟨rv, hrv, b, tm, e1, e2, e3, e4⟩ := h3 i _ u hi (by simpa using hu)
      obtain ⟨rv', hrv', b', tm', e1', e2', e3', e4'⟩ := h3 j _ u' hj (by simpa using hu')
      subst e1; subst e1'
      have hbb : b ≠ b' := fun e => by
        subst e
        exact hne' (retBoxes_inj (distinctB_spec hdis) i j tm tm' b hrv hrv' e2 e2')
      rw [e4] at hg
      rw [e4']
      exact h.apart b b' _ _ g e3 e3' hbb hg

/-! the call -/
theorem look_entry : ∀ (l : List TD) (i k : Nat), look k (entry.go i l) = if i ≤ k then (l[k - i]?).map SV.tv else none
  | [], i, k => by simp [entry.go, look]
  | d :: l, i, k => by
    simp only [entry.go, look]
    by_cases e : i = k
    · subst e; simp
    · simp only [beq_false e, cond_false, look_entry l (i + 1) k]
      by_cases h : i ≤ k
      · have h1 : i + 1 ≤ k := by omega
        rw [if_pos h, if_pos h1, show k - i = (k - (i + 1)) + 1 by omega]
        simp
      · rw [if_neg h, if_neg (by omega)]

theorem calls_of_goes (hE : Env P T G) {f : Nat} {fn : Func} {c : Code} (hf : P.funcs[f]? = some fn) (hb : fn.body = some c) {tds : List TD} (hlen : tds.length ≤ fn.ntmps) {r : SV}
    (hg : Goes G T fn.ntmps fn.results.toList (.more [.code c] (entry tds)) r) {vs : Array Value} (hh : Holds w σ) (hargs : ArgsR σ tds vs) :
    Calls P f vs w fun e w' => ∃ v σ', e = .returned v ∧ Step σ w σ' w' ∧ RetR σ' w' w.heap.size r v := by
  intro cs
  let b : Frame := { (default : Frame) with fn := f, kind := .normal }
  have henter : Frame.enter P f vs .normal = b.at { tmps := vs ++ Array.replicate (fn.ntmps - vs.size) undef, defers := [] } [.code c] := by
    simp [Frame.enter, Frame.at, hf, hb, b]
  have hR : Rel (fun _ => True) fn.ntmps w.heap.size σ (fun _ => undef) (entry tds) { tmps := vs ++ Array.replicate (fn.ntmps - vs.size) undef, defers := [] } w := by
    refine ⟨hh, by simp; have := hargs.1; omega, rfl, Nat.le_refl _, fun k b hk => by simp [entry, look] at hk, fun k k' b b' g hk => by simp [entry, look] at hk, fun k s hk _ => ?_⟩
    simp only [entry] at hk
    rw [look_entry] at hk
    simp only [Nat.zero_le, if_true, Nat.sub_zero, Option.map_eq_some_iff] at hk
    obtain ⟨d, hd, rfl⟩ := hk
    have hlt : k < vs.size := by rw [hargs.1]; exact (List.getElem?_eq_some_iff.1 hd).1
    have hv : vs[k]? = some vs[k] := by simp [hlt]
    have := hargs.2 k d vs[k] hd hv
    have e : (vs ++ Array.replicate (fn.ntmps - vs.size) undef).getD k undef = vs[k] := by
      simp [Array.getD_eq_getD_getElem?, Array.getElem?_append, hlt]
    rw [e]; exact this
  have hfin := goes_sound hE hg (b := b) (cs := cs) (m := lone (Frame.enter P f vs .normal) cs w) (σ0 := σ) (w0 := w) (n0 := w.heap.size)
    ⟨_, w, σ, _, Trans.refl hh, hR, by rw [henter]; exact Steps.refl _ _⟩
  obtain ⟨a, w', σ', H, st, todo, hret, htr, hrel, hs⟩ := hfin
  obtain ⟨v, hv1, hv2⟩ := run_results hE hrel hret
  exact ⟨.returned v, w', _, ⟨v, σ', rfl, htr.step, hv2⟩, hs, rfl, rfl, hrel.defers, rfl, fn, hf, hv1⟩

end

/-! one function more -/
def Tbl.add (G : Tbl) (f : Nat) (F : List TD → Option (Bool × SV)) : Tbl := fun g tds => bif Nat.beq g f then F tds else G g tds

def Tbl.none : Tbl := fun _ _ => Option.none

theorem Env.start {P : Program} {T : Nat → Option Ty} (hT : ∀ ty t, T ty = some t → chk P t ty = true) (hm : P.follows .mixedOrders = true) : Env P T Tbl.none :=
  ⟨hT, fun f tds r h => by simp [Tbl.none] at h, fun f tds r h => by simp [Tbl.none] at h, hm⟩

theorem Env.add {P : Program} {T : Nat → Option Ty} {G : Tbl} (hE : Env P T G) {f : Nat} {fn : Func} {c : Code} (hf : P.funcs[f]? = some fn) (hb : fn.body = some c) (hn : (fn.name == "runtime.NumGoroutine") = false)
    {F : List TD → Option (Bool × SV)} (h : ∀ tds r, F tds = some (true, r) → tds.length ≤ fn.ntmps ∧ Goes G T fn.ntmps fn.results.toList (.more [.code c] (entry tds)) r) : Env P T (G.add f F) := by
  refine ⟨hE.types, fun g tds r hg => ?_, fun g tds r hg => ?_, hE.mixed⟩
  · unfold Tbl.add at hg
    cases hb' : Nat.beq g f with
    | true => have := Nat.eq_of_beq_eq_true hb'; subst this; exact ⟨fn, hf, by simp [hb], hn⟩
    | false => rw [hb'] at hg; exact hE.fns g tds r hg
  · unfold Tbl.add at hg
    cases hb' : Nat.beq g f with
    | true =>
      rw [hb'] at hg
      have := Nat.eq_of_beq_eq_true hb'; subst this
      obtain ⟨h1, h2⟩ := h tds r hg
      intro σ w vs hh hargs
      exact calls_of_goes hE hf hb h1 h2 hh hargs
    | false => rw [hb'] at hg; exact hE.good g tds r hg

end Go.Lift
set_option linter.unusedSimpArgs false
set_option linter.unusedVariables false
namespace Go.Lift
open Go.ChangeShapes Go.WideShapes Go.RowKit

/-! From what the statement reads to typed data -/
def Wf : (t : Ty) → t.D → Prop
  | .int k, n => (Lit.int k n).wf = true
  | .str, s => s.size ≤ maxLen
  | .slice e, l => List.length l ≤ maxLen ∧ ∀ (i : Nat) (h : i < List.length l), Wf e (l[i])
  | .cons a b, x => Wf a x.1 ∧ Wf b x.2
  | .bool, _ => True
  | .nil, _ => True

section
variable {H : Type} {enc : TypeId × Value → H} {P : Program} {w : World}

theorem cellsOf_chk {t : Ty} {ty : Nat} (h : chk P t ty = true) : P.cellsOf ty = t.size := by
  obtain ⟨i, z, h1, h2, _⟩ := infoOK_spec (chk_info h)
  simp [Program.cellsOf, h1, h2]

def MainP (H : Type) (enc : TypeId × Value → H) (P : Program) (w : World) (t : Ty) : Prop :=
  ∀ (fuel ty : Nat) (cs : List Value) (r : DataW H × List MemPlace), chk P t ty = true → DataW.trod enc P w 0 (fun _ => true) true fuel ty cs = some r → ∃ x : t.D, Enc (heapS w) t x cs ∧ Wf t x
def FieldsP (H : Type) (enc : TypeId × Value → H) (P : Program) (w : World) (t : Ty) : Prop :=
  ∀ (fuel : Nat) (fs : List Field) (off : Nat) (cs : List Value) (xs : List (DataW H × List MemPlace)), chkF P t fs off = true →
    (fs.mapM fun f => DataW.trod enc P w 0 (fun _ => true) true fuel f.type ((cs.drop f.offset).take (P.cellsOf f.type))) = some xs → cs.length = off + t.size → ∃ x : t.D, Enc (heapS w) t x (cs.drop off) ∧ Wf t x
def ArrP (H : Type) (enc : TypeId × Value → H) (P : Program) (w : World) (t : Ty) : Prop :=
  ∀ (fuel et n k : Nat) (cs : List Value) (xs : List (DataW H × List MemPlace)), chkA P t et n = true →
    ((List.range' k n).mapM fun i => DataW.trod enc P w 0 (fun _ => true) true fuel et ((cs.drop (i * P.cellsOf et)).take (P.cellsOf et))) = some xs → cs.length = k * P.cellsOf et + t.size → ∃ x : t.D, Enc (heapS w) t x (cs.drop (k * P.cellsOf et)) ∧ Wf t x

theorem lies_cells {a : Addr} {n : Nat} {cs : List Value} (h : w.cells? 0 a n = some cs) : cs.length = n ∧ Lies (heapS w) a cs := by
  obtain ⟨_, h2, h3⟩ := World.cells?_some h
  refine ⟨h2, lies_heapS fun j v hv => ?_⟩
  have hj : j < n := by rw [← h2]; exact (List.getElem?_eq_some_iff.1 hv).1
  rw [h3 j hj, hv]

theorem choose_list {α : Type} {n : Nat} {p : Nat → α → Prop} (h : ∀ i, i < n → ∃ x, p i x) : ∃ l : List α, l.length = n ∧ ∀ (i : Nat) (hi : i < l.length), p i l[i] := by
  induction n with
  | zero => exact ⟨[], rfl, fun i hi => by simp at hi⟩
  | succ n ih =>
    obtain ⟨l, h1, h2⟩ := ih fun i hi => h i (Nat.lt_succ_of_lt hi)
    obtain ⟨x, hx⟩ := h n (Nat.lt_succ_self n)
    refine ⟨l ++ [x], by simp [h1], fun i hi => ?_⟩
    by_cases e : i < l.length
    · rw [List.getElem_append_left e]; exact h2 i e
    · have : i = n := by simp at hi; omega
      subst this
      rw [List.getElem_append_right (by omega)]
      simpa [h1] using hx

theorem enc_of_trod_all (t : Ty) : MainP H enc P w t ∧ FieldsP H enc P w t ∧ ArrP H enc P w t := by
  induction t with
  | int k =>
    refine ⟨fun fuel ty cs r hc h => ?_, fun fuel fs off cs xs hc => by simp [chkF] at hc, fun fuel et n k cs xs hc => by simp [chkA] at hc⟩
    have hu := chk_int hc
    cases fuel with
    | zero => simp [DataW.trod] at h
    | succ fuel =>
      unfold DataW.trod at h
      rw [hu] at h
      split at h <;> first | (simp at h; done) | (rename_i h1; simp at h1; done) | skip
      rename_i k' n h1
      simp at h1
      subst h1
      split at h
      · rename_i hk
        obtain ⟨rfl, hwf⟩ := hk
        exact ⟨_, rfl, hwf⟩
      · simp at h
  | bool =>
    refine ⟨fun fuel ty cs r hc h => ?_, fun fuel fs off cs xs hc => by simp [chkF] at hc, fun fuel et n k cs xs hc => by simp [chkA] at hc⟩
    have hu := chk_bool hc
    cases fuel with
    | zero => simp [DataW.trod] at h
    | succ fuel =>
      unfold DataW.trod at h
      rw [hu] at h
      split at h <;> first | (simp at h; done) | (rename_i h1; simp at h1; done) | skip
      all_goals exact ⟨(_ : Bool), rfl, trivial⟩
  | str =>
    refine ⟨fun fuel ty cs r hc h => ?_, fun fuel fs off cs xs hc => by simp [chkF] at hc, fun fuel et n k cs xs hc => by simp [chkA] at hc⟩
    have hu := chk_str hc
    cases fuel with
    | zero => simp [DataW.trod] at h
    | succ fuel =>
      unfold DataW.trod at h
      rw [hu] at h
      split at h <;> simp_all
      exact ⟨_, rfl, h.1⟩
  | slice e ih =>
    refine ⟨fun fuel ty cs r hc h => ?_, fun fuel fs off cs xs hc => by simp [chkF] at hc, fun fuel et n k cs xs hc => by simp [chkA] at hc⟩
    obtain ⟨et, hu, hce, hpos⟩ := chk_slice hc
    rcases Go.Deep.open_slice hu h with ⟨rfl, _⟩ | ⟨a, len, cap, m, n, D, Pl, rfl, _, hl, hm, hmm, _, hx⟩
    · exact ⟨[], ⟨none, 0, rfl, by simp, fun _ => rfl, fun i hi => by simp at hi⟩, by simp, fun i hi => by simp at hi⟩
    · simp at hmm
      subst hmm
      have hce' := cellsOf_chk hce
      have hall : ∀ i, i < len → ∃ x : e.D, Wf e x ∧ ∃ c, c.length = e.size ∧ Lies (heapS w) (a.add (i * e.size)) c ∧ Enc (heapS w) e x c := by
        intro i hi
        obtain ⟨cs', h1, h2⟩ := hx i (by omega)
        obtain ⟨x, g1, g2⟩ := ih.1 n et cs' _ hce h2
        rw [hce'] at h1
        obtain ⟨g3, g4⟩ := lies_cells h1
        exact ⟨x, g2, cs', g3, g4, g1⟩
      obtain ⟨l, hlen, hl2⟩ := choose_list hall
      refine ⟨l, ⟨some a, m, by rw [hlen], by omega, by simp, fun i hi => ?_⟩, by omega, fun i hi => (hl2 i hi).1⟩
      obtain ⟨_, c, g1, g2, g3⟩ := hl2 i hi
      exact ⟨a, c, rfl, g1, g2, g3⟩
  | nil =>
    refine ⟨fun fuel ty cs r hc h => ?_, fun fuel fs off cs xs hc h hl => ?_, fun fuel et n k cs xs hc h hl => ?_⟩
    · have hce := cellsOf_chk hc
      simp only [chk, Bool.and_eq_true] at hc
      have hc2 := hc.2
      split at hc2
      · rename_i fs hu
        cases fuel with
        | zero => simp [DataW.trod] at h
        | succ fuel =>
          unfold DataW.trod at h
          rw [hu] at h
          simp only at h
          split at h
          · rename_i hlen
            rw [hce] at hlen
            exact ⟨(), by simpa [Enc, Ty.size] using hlen, trivial⟩
          · simp at h
      · simp at hc2
    · exact ⟨(), by simp [Enc, Ty.size] at hl ⊢; omega, trivial⟩
    · exact ⟨(), by simp [Enc, Ty.size] at hl ⊢; omega, trivial⟩
  | cons a b iha ihb =>
    have hF : FieldsP H enc P w (.cons a b) := by
      intro fuel fs off cs xs hc h hl
      simp only [chkF] at hc
      cases fs with
      | nil => simp at hc
      | cons f r =>
        simp only [Bool.and_eq_true, decide_eq_true_eq] at hc
        simp only [List.mapM_cons, Option.bind_eq_bind, Option.bind_eq_some_iff, Option.pure_def, Option.some.injEq] at h
        obtain ⟨y, hy, ys, hys, _⟩ := h
        have hsz := cellsOf_chk hc.1.2
        simp only [Ty.size] at hl
        rw [hc.1.1.1, hsz] at hy
        obtain ⟨x, g1, g2⟩ := iha.1 _ _ _ _ hc.1.2 hy
        obtain ⟨z, g3, g4⟩ := ihb.2.1 _ _ _ cs _ hc.2 hys (by omega)
        refine ⟨(x, z), ⟨_, _, ?_, g1, g3⟩, g2, g4⟩
        rw [← List.drop_drop, List.take_append_drop]
    have hA : ArrP H enc P w (.cons a b) := by
      intro fuel et n k cs xs hc h hl
      simp only [chkA, Bool.and_eq_true, decide_eq_true_eq] at hc
      obtain ⟨n, rfl⟩ : ∃ m, n = m + 1 := ⟨n - 1, by omega⟩
      simp only [List.range'_succ, List.mapM_cons, Option.bind_eq_bind, Option.bind_eq_some_iff, Option.pure_def, Option.some.injEq] at h
      obtain ⟨y, hy, ys, hys, _⟩ := h
      have hsz := cellsOf_chk hc.1.2
      simp only [Ty.size] at hl
      obtain ⟨x, g1, g2⟩ := iha.1 _ _ _ _ hc.1.2 hy
      obtain ⟨z, g3, g4⟩ := ihb.2.2 _ _ _ (k + 1) cs _ (by simpa using hc.2) (by simpa using hys) (by rw [hl, hsz, Nat.succ_mul]; omega)
      refine ⟨(x, z), ⟨_, _, ?_, g1, g3⟩, g2, g4⟩
      rw [show (k + 1) * P.cellsOf et = k * P.cellsOf et + P.cellsOf et by rw [Nat.succ_mul], ← List.drop_drop, List.take_append_drop]
    refine ⟨fun fuel ty cs r hc h => ?_, hF, hA⟩
    have hsz := cellsOf_chk hc
    cases fuel with
    | zero => simp [DataW.trod] at h
    | succ fuel =>
      rcases chk_cons hc with ⟨fs, hu, _, hcF, _⟩ | ⟨n, et, hu, ha, _⟩
      · unfold DataW.trod at h
        rw [hu] at h
        simp only at h
        split at h
        · rename_i hlen
          simp only [Option.map_eq_some_iff] at h
          obtain ⟨xs, hxs, _⟩ := h
          have := hF fuel fs.toList 0 cs xs hcF hxs (by rw [hlen, hsz]; omega)
          simpa using this
        · simp at h
      · subst ha
        simp only [chk, hu, Bool.and_eq_true] at hc
        have hcA := hc.2
        unfold DataW.trod at h
        rw [hu] at h
        simp only at h
        split at h
        · rename_i hlen
          simp only [Option.map_eq_some_iff] at h
          obtain ⟨xs, hxs, _⟩ := h
          rw [List.range_eq_range'] at hxs
          have := ihb.2.2 fuel et n 0 cs xs hcA hxs (by rw [hlen, hsz]; simp [Ty.size])
          obtain ⟨z, g1, g2⟩ := this
          exact ⟨((), z), ⟨[], cs, rfl, rfl, by simpa using g1⟩, trivial, g2⟩
        · simp at h

theorem enc_of_trod {t : Ty} {ty fuel : Nat} {cs : List Value} {r : DataW H × List MemPlace} (hc : chk P t ty = true) (h : DataW.trod enc P w 0 (fun _ => true) true fuel ty cs = some r) : ∃ x : t.D, Enc (heapS w) t x cs ∧ Wf t x :=
  (enc_of_trod_all t).1 _ _ _ _ hc h

theorem isAgg_okWide {base : Nat} {t : Ty} {ty : Nat} {v : Value} (hc : chk P t ty = true) (h : Value.okWide P w .any base ty v) : isAggV v = t.isAgg := by
  cases t with
  | int k => obtain ⟨n, rfl⟩ := okWide_int (chk_int hc) h; rfl
  | bool => obtain ⟨n, rfl⟩ := okWide_bool (chk_bool hc) h; rfl
  | str => obtain ⟨n, rfl⟩ := okWide_string (chk_str hc) h; rfl
  | slice e => obtain ⟨et, hu, _⟩ := chk_slice hc; obtain ⟨a, l, c, rfl⟩ := okWide_slice hu h; rfl
  | nil =>
    simp only [chk, Bool.and_eq_true] at hc
    have hc2 := hc.2
    split at hc2
    · rename_i fs hu
      unfold Value.okWide at h
      rw [hu] at h
      obtain ⟨cs, rfl, _⟩ := h
      rfl
    · simp at hc2
  | cons a b =>
    rcases chk_cons hc with ⟨fs, hu, _⟩ | ⟨n, et, hu, _⟩ <;>
    · unfold Value.okWide at h
      rw [hu] at h
      obtain ⟨cs, rfl, _⟩ := h
      rfl

/-- all arguments -/
theorem args_of_trodAll {base : Nat} {T : Nat → Option Ty} (hT : ∀ ty t, T ty = some t → chk P t ty = true) : ∀ (tys : List TypeId) (ts : List Ty) (vs : List Value) (ds : List (DataW H)) (ps : List MemPlace), mapO T tys = some ts →
    DataW.TrodAll enc P w 0 (fun _ => true) true tys vs ds ps → (∀ (j : Nat) t v, tys[j]? = some t → vs[j]? = some v → Value.okWide P w .any base t v) →
    ∃ tds : List TD, tds.map TD.t = ts ∧ vs.length = tds.length ∧ (∀ (i : Nat) (d : TD) (v : Value), tds[i]? = some d → vs[i]? = some v → RelV (heapS w) d v) ∧ ∀ d ∈ tds, Wf d.t d.x
  | [], ts, vs, ds, ps, hm, h, _ => by
    simp [mapO] at hm; subst hm
    match vs, ds, h with
    | [], [], _ => exact ⟨[], rfl, rfl, fun i d v hd => by simp at hd, fun d hd => by simp at hd⟩
  | ty :: tys, ts, vs, ds, ps, hm, h, hok => by
    simp only [mapO, Option.bind_eq_some_iff] at hm
    obtain ⟨t, ht, ts', hts', hm⟩ := hm
    simp at hm; subst hm
    obtain ⟨v, vs', d, ds', p, q, rfl, rfl, rfl, ⟨fuel, h1⟩, h2⟩ := trodAll_cons h
    obtain ⟨tds, g1, g2, g3, g4⟩ := args_of_trodAll hT tys ts' vs' ds' q hts' h2 fun j t' v' hj hv => hok (j + 1) t' v' (by simpa using hj) (by simpa using hv)
    obtain ⟨x, k1, k2⟩ := enc_of_trod (hT _ _ ht) h1
    refine ⟨⟨t, x⟩ :: tds, by simp [g1], by simp [g2], fun i d' v' hd hv => ?_, fun d' hd => ?_⟩
    · cases i with
      | zero => simp at hd hv; subst hd; subst hv; exact ⟨k1, isAgg_okWide (hT _ _ ht) (hok 0 ty v rfl rfl)⟩
      | succ i => exact g3 i d' v' (by simpa using hd) (by simpa using hv)
    · simp at hd
      rcases hd with rfl | hd
      · exact k2
      · exact g4 d' hd

end
end Go.Lift
set_option linter.unusedSimpArgs false
set_option linter.unusedVariables false
namespace Go.Lift
open Go.ChangeShapes Go.WideShapes Go.RowKit

section
variable {P : Program} {T : Nat → Option Ty} {G : Tbl}

theorem Step.below {σ σ' : Store} {w w' : World} (h : Step σ w σ' w') : Below w.heap.size w w' := ⟨h.os, h.tape, h.output, h.size, h.block⟩

theorem trodAll_length {H : Type} {enc : TypeId × Value → H} {w : World} {base : Nat} {spare : Nat → Bool} {held : Bool} : ∀ {tys : List TypeId} {vs : List Value} {ds : List (DataW H)} {ps : List MemPlace},
    DataW.TrodAll enc P w base spare held tys vs ds ps → ds.length = tys.length
  | [], [], [], _, _ => rfl
  | _ :: tys, _ :: vs, _ :: ds, _, ⟨_, _, _, h, _⟩ => by simp [trodAll_length h]
  | [], _ :: _, _, _, h => h.elim
  | [], [], _ :: _, _, h => h.elim
  | _ :: _, [], _, _, h => h.elim
  | _ :: _, _ :: _, [], _, h => h.elim

theorem trodAll_stays {H : Type} {enc : TypeId × Value → H} {W W' : World} {base : Nat} {sp' : Nat → Bool} (hl : laidOutB P = true) (hw : ∀ p : MemPlace, p.block < W.heap.size → W.sameAt W' p) (hs : ∀ b, b < W.heap.size → sp' b = true) : ∀ {tys : List TypeId} {vs : List Value} {ds : List (DataW H)} {ps : List MemPlace},
    (tys.all fun t => P.readableRec t && decide (t < P.types.size)) = true → (∀ p ∈ ps, p.block < W.heap.size) →
    DataW.TrodAll enc P W base (fun _ => true) true tys vs ds ps → DataW.TrodAll enc P W' base sp' true tys vs ds ps
  | [], [], [], _, _, _, h => h
  | _ :: tys, _ :: vs, _ :: ds, _, hr, hp, ⟨p, q, h1, h2, he⟩ => by
    subst he
    simp only [List.all_cons, Bool.and_eq_true, decide_eq_true_eq] at hr
    have a1 := WideElems.Trod_stays (sp' := sp') hl hr.1.1 hr.1.2 h1 (fun x hx => hw x (hp x (List.mem_append.2 (.inl hx)))) (fun x hx => hs _ (hp x (List.mem_append.2 (.inl hx))))
    have a2 := trodAll_stays (sp' := sp') hl hw hs hr.2 (fun x hx => hp x (List.mem_append.2 (.inr hx))) h2
    exact ⟨p, q, a1, a2, rfl⟩
  | [], _ :: _, _, _, _, _, h => h.elim
  | [], [], _ :: _, _, _, _, h => h.elim
  | _ :: _, [], _, _, _, _, h => h.elim
  | _ :: _, _ :: _, [], _, _, _, h => h.elim

/-- THE LAW's CONTRACT: the typed run returns true, whatever well-formed data came in -/
theorem law_contract (hE : Env P T G) {f : Nat} {fn : Func} {s : ChangeSpec} {H : Type} {enc : TypeId × Value → H} {apart fresh handsOn : Bool} {ts : List Ty} {tb : Nat}
    (hts : mapO T fn.params.toList = some ts) (hvars : s.vars = []) (hfn : ∀ ds : List (DataW H), ds.length = ts.length → s.fn H ds = { results := [.lit (.bool true)], args := ds })
    (hr : fn.resultTypes = #[tb]) (hb : P.underlying tb = some .bool) (hl : laidOutB P = true) (hread : (fn.params.toList.all fun t => P.readableRec t && decide (t < P.types.size)) = true)
    (hlaw : ∀ tds : List TD, tds.map TD.t = ts → (∀ d ∈ tds, Wf d.t d.x) → G f tds = some (true, .tv ⟨.bool, true⟩))
    (W : World) (base : Nat) (args : Array Value) (ds gs : List (DataW H)) (before : List MemPlace)
    (hval : ∀ (j : Nat) t v, fn.params[j]? = some t → args[j]? = some v → Value.okWide P W .any base t v)
    (hW : DataW.Whole enc P fn.params.toList s.vars apart W args.toList ds gs before) :
    Calls P f args W fun e W' => ∃ v, e = .returned v ∧ s.post enc P fn apart fresh handsOn false W args v W' := by
  have hW' := hW
  obtain ⟨p, q, hA, hV, rfl, hfz, hnd⟩ := hW
  rw [hvars] at hV
  obtain ⟨rfl, rfl⟩ := trodVars_none hV
  obtain ⟨tds, g1, g2, g3, g4⟩ := args_of_trodAll (base := base) hE.types _ ts args.toList ds p hts hA fun j t v hj hv => hval j t v (by simpa using hj) (by simpa using hv)
  have hlen : ds.length = ts.length := by
    rw [trodAll_length hA]
    exact ((mapO_spec hts).1).symm
  refine (hE.good f tds _ (hlaw tds g1 g4) (heapS W) W args (holds_heapS W) ⟨by simpa using g2, fun i d v hd hv => g3 i d v hd (by simpa using hv)⟩).mono fun e W' ⟨v, σ', he, hst, hret⟩ => ?_
  have hv : v = .bool true := hret.bool
  subst hv
  have hbel := hst.below
  have hlt : ∀ x ∈ p ++ [], x.block < W.heap.size := fun x hx => hW'.lt x hx
  refine ⟨.bool true, he, ds, [], p ++ [], [], p, [], hW', ?_, ?_, ?_, hbel.frame _, fun h => by cases h⟩
  · rw [List.append_nil, hfn ds hlen, hr]
    exact trodAll_cons_mk (shut_bool hb true) trodAll_mk0
  · rw [List.append_nil, hfn ds hlen]
    exact trodAll_stays hl (fun x hx => hbel.same hx) (fun b hb => by simpa using hb) hread (fun x hx => hlt x (by simpa using hx)) hA
  · rw [List.append_nil, hfn ds hlen, hvars]
    rfl

end
end Go.Lift
set_option linter.unusedSimpArgs false
set_option linter.unusedVariables false
namespace Go.Lift

/-! Words for the proofs of functions -/
def Leaf.body : Leaf → Code
  | .loop b _ _ => b
  | _ => .skip
def Leaf.kont : Leaf → List Item
  | .loop _ k _ => k
  | _ => []
def Leaf.todo : Leaf → List Item
  | .more t _ => t
  | _ => []
/-- where a loop's round begins -/
def Leaf.round (L : Leaf) : List Item := .code L.body :: .inLoop L.body :: L.kont
def bod (f : Func) : List Item := [.code (f.body.getD .skip)]

theorem look_mem {α : Type} : ∀ (l : List (Nat × α)) (k : Nat) (v : α), look k l = some v → (k, v) ∈ l
  | [], k, v, h => by simp [look] at h
  | (j, u) :: r, k, v, h => by
    simp only [look] at h
    cases hb : Nat.beq j k with
    | true => rw [hb] at h; simp at h; have := Nat.eq_of_beq_eq_true hb; subst this; subst h; simp
    | false => rw [hb] at h; exact List.mem_cons_of_mem _ (look_mem r k v h)

theorem types_of {P : Program} {tbl : List (Nat × Ty)} (hb : (tbl.all fun p => chk P p.2 p.1) = true) (ty : Nat) (t : Ty) (h : look ty tbl = some t) : chk P t ty = true :=
  List.all_eq_true.1 hb _ (look_mem _ _ _ h)

abbrev I (n : Int) : TD := ⟨.int .i64, n⟩
abbrev B (b : Bool) : TD := ⟨.bool, b⟩
abbrev LI (l : List Int) : TD := ⟨.slice (.int .i64), l⟩
abbrev LB (l : List Bool) : TD := ⟨.slice .bool, l⟩

section
variable {P : Program} {T : Nat → Option Ty} {G G' : Tbl} {N : Nat} {rs : List ResultVar}

theorem Goes.of_eq {L L' : Leaf} {r : SV} (h : L = L') (hg : Goes G T N rs L' r) : Goes G T N rs L r := h ▸ hg

theorem Goes.bif {c : Bool} {A B : Leaf} {r : SV} (h1 : c = true → Goes G T N rs A r) (h2 : c = false → Goes G T N rs B r) : Goes G T N rs (bif c then A else B) r := by
  cases c
  · exact h2 rfl
  · exact h1 rfl

/-- a loop, entered or met again -/
theorem Goes.lp (n : Nat) (ks : Nat → List Nat) {L : Leaf} {st : St} {r : SV} (h : Goes G T N rs (run G T N rs ks n L.round st) r) : Goes G T N rs (.loop L.body L.kont st) r :=
  .loop n ks _ _ _ _ h

theorem Env.congr (h : Env P T G) (he : ∀ f tds, G' f tds = G f tds) : Env P T G' := by
  have : G' = G := by funext f tds; exact he f tds
  rw [this]; exact h

theorem Env.fun' (hE : Env P T G) {f : Nat} {fn : Func} (hf : P.funcs[f]? = some fn) (hb : fn.body.isSome = true) (hn : (fn.name == "runtime.NumGoroutine") = false)
    {F : List TD → Option (Bool × SV)} (h : ∀ tds r, F tds = some (true, r) → tds.length ≤ fn.ntmps ∧ Goes G T fn.ntmps fn.results.toList (.more (bod fn) (entry tds)) r) : Env P T (G.add f F) := by
  obtain ⟨c, hc⟩ := Option.isSome_iff_exists.1 hb
  refine hE.add hf hc hn fun tds r hr => ?_
  have := h tds r hr
  rw [show bod fn = [.code c] by simp [bod, hc]] at this
  exact this

end

theorem lenOK_le {n : Nat} (h : n ≤ lenBound) : lenOK n = true := by simp [lenOK, h]

theorem inB_nat {i n : Nat} (h : i < n) : inB (i : Int) n = true := by simp [inB, h]

/-- a number that its kind holds is not wrapped -/
theorem wrap_id {n : Int} (h1 : -9223372036854775808 ≤ n) (h2 : n ≤ 9223372036854775807) : IntKind.wrap .i64 n = n := by
  unfold IntKind.wrap
  simp [IntKind.signed, IntKind.bits]
  omega

end Go.Lift
namespace Go.Lift

/-! contracts of a shape: types of the arguments, check, result -/
def FC0 (k : Bool) (r : SV) : List TD → Option (Bool × SV)
  | [] => some (k, r)
  | _ => none
def FC1 (a : Ty) (k : a.D → Bool) (r : a.D → SV) : List TD → Option (Bool × SV)
  | [d] => (d.as a).map fun x => (k x, r x)
  | _ => none
def FC2 (a b : Ty) (k : a.D → b.D → Bool) (r : a.D → b.D → SV) : List TD → Option (Bool × SV)
  | [d, e] => (d.as a).bind fun x => (e.as b).map fun y => (k x y, r x y)
  | _ => none
def FC3 (a b c : Ty) (k : a.D → b.D → c.D → Bool) (r : a.D → b.D → c.D → SV) : List TD → Option (Bool × SV)
  | [d, e, f] => (d.as a).bind fun x => (e.as b).bind fun y => (f.as c).map fun z => (k x y z, r x y z)
  | _ => none
def FC4 (a b c d : Ty) (k : a.D → b.D → c.D → d.D → Bool) (r : a.D → b.D → c.D → d.D → SV) : List TD → Option (Bool × SV)
  | [d1, e, f, g] => (d1.as a).bind fun x => (e.as b).bind fun y => (f.as c).bind fun z => (g.as d).map fun u => (k x y z u, r x y z u)
  | _ => none
def FC5 (a b c d e : Ty) (k : a.D → b.D → c.D → d.D → e.D → Bool) (r : a.D → b.D → c.D → d.D → e.D → SV) : List TD → Option (Bool × SV)
  | [d1, e1, f, g, h] => (d1.as a).bind fun x => (e1.as b).bind fun y => (f.as c).bind fun z => (g.as d).bind fun u => (h.as e).map fun v => (k x y z u v, r x y z u v)
  | _ => none
def FC6 (a b c d e m : Ty) (k : a.D → b.D → c.D → d.D → e.D → m.D → Bool) (r : a.D → b.D → c.D → d.D → e.D → m.D → SV) : List TD → Option (Bool × SV)
  | [d1, e1, f, g, h, i] => (d1.as a).bind fun x => (e1.as b).bind fun y => (f.as c).bind fun z => (g.as d).bind fun u => (h.as e).bind fun v => (i.as m).map fun w => (k x y z u v w, r x y z u v w)
  | _ => none

theorem FC0.inv {k : Bool} {r : SV} {tds : List TD} {s : SV} (h : FC0 k r tds = some (true, s)) : tds = [] ∧ k = true ∧ s = r := by
  unfold FC0 at h
  split at h
  · simp at h; exact ⟨rfl, h.1, h.2.symm⟩
  · simp at h
theorem FC1.inv {a : Ty} {k : a.D → Bool} {r : a.D → SV} {tds : List TD} {s : SV} (h : FC1 a k r tds = some (true, s)) : ∃ x, tds = [⟨a, x⟩] ∧ k x = true ∧ s = r x := by
  unfold FC1 at h
  split at h
  · simp only [Option.map_eq_some_iff, Prod.mk.injEq] at h
    obtain ⟨x, hx, h1, h2⟩ := h
    rw [TD.as_eq hx]; exact ⟨x, rfl, h1, h2.symm⟩
  · simp at h
theorem FC2.inv {a b : Ty} {k : a.D → b.D → Bool} {r : a.D → b.D → SV} {tds : List TD} {s : SV} (h : FC2 a b k r tds = some (true, s)) : ∃ x y, tds = [⟨a, x⟩, ⟨b, y⟩] ∧ k x y = true ∧ s = r x y := by
  unfold FC2 at h
  split at h
  · simp only [Option.bind_eq_some_iff, Option.map_eq_some_iff, Prod.mk.injEq] at h
    obtain ⟨x, hx, y, hy, h1, h2⟩ := h
    rw [TD.as_eq hx, TD.as_eq hy]; exact ⟨x, y, rfl, h1, h2.symm⟩
  · simp at h
theorem FC3.inv {a b c : Ty} {k : a.D → b.D → c.D → Bool} {r : a.D → b.D → c.D → SV} {tds : List TD} {s : SV} (h : FC3 a b c k r tds = some (true, s)) : ∃ x y z, tds = [⟨a, x⟩, ⟨b, y⟩, ⟨c, z⟩] ∧ k x y z = true ∧ s = r x y z := by
  unfold FC3 at h
  split at h
  · simp only [Option.bind_eq_some_iff, Option.map_eq_some_iff, Prod.mk.injEq] at h
    obtain ⟨x, hx, y, hy, z, hz, h1, h2⟩ := h
    rw [TD.as_eq hx, TD.as_eq hy, TD.as_eq hz]; exact ⟨x, y, z, rfl, h1, h2.symm⟩
  · simp at h
theorem FC4.inv {a b c d : Ty} {k : a.D → b.D → c.D → d.D → Bool} {r : a.D → b.D → c.D → d.D → SV} {tds : List TD} {s : SV} (h : FC4 a b c d k r tds = some (true, s)) :
    ∃ x y z u, tds = [⟨a, x⟩, ⟨b, y⟩, ⟨c, z⟩, ⟨d, u⟩] ∧ k x y z u = true ∧ s = r x y z u := by
  unfold FC4 at h
  split at h
  · simp only [Option.bind_eq_some_iff, Option.map_eq_some_iff, Prod.mk.injEq] at h
    obtain ⟨x, hx, y, hy, z, hz, u, hu, h1, h2⟩ := h
    rw [TD.as_eq hx, TD.as_eq hy, TD.as_eq hz, TD.as_eq hu]; exact ⟨x, y, z, u, rfl, h1, h2.symm⟩
  · simp at h
theorem FC5.inv {a b c d e : Ty} {k : a.D → b.D → c.D → d.D → e.D → Bool} {r : a.D → b.D → c.D → d.D → e.D → SV} {tds : List TD} {s : SV} (h : FC5 a b c d e k r tds = some (true, s)) :
    ∃ x y z u v, tds = [⟨a, x⟩, ⟨b, y⟩, ⟨c, z⟩, ⟨d, u⟩, ⟨e, v⟩] ∧ k x y z u v = true ∧ s = r x y z u v := by
  unfold FC5 at h
  split at h
  · simp only [Option.bind_eq_some_iff, Option.map_eq_some_iff, Prod.mk.injEq] at h
    obtain ⟨x, hx, y, hy, z, hz, u, hu, v, hv, h1, h2⟩ := h
    rw [TD.as_eq hx, TD.as_eq hy, TD.as_eq hz, TD.as_eq hu, TD.as_eq hv]; exact ⟨x, y, z, u, v, rfl, h1, h2.symm⟩
  · simp at h
theorem FC6.inv {a b c d e m : Ty} {k : a.D → b.D → c.D → d.D → e.D → m.D → Bool} {r : a.D → b.D → c.D → d.D → e.D → m.D → SV} {tds : List TD} {s : SV} (h : FC6 a b c d e m k r tds = some (true, s)) :
    ∃ x y z u v w, tds = [⟨a, x⟩, ⟨b, y⟩, ⟨c, z⟩, ⟨d, u⟩, ⟨e, v⟩, ⟨m, w⟩] ∧ k x y z u v w = true ∧ s = r x y z u v w := by
  unfold FC6 at h
  split at h
  · simp only [Option.bind_eq_some_iff, Option.map_eq_some_iff, Prod.mk.injEq] at h
    obtain ⟨x, hx, y, hy, z, hz, u, hu, v, hv, w, hw, h1, h2⟩ := h
    rw [TD.as_eq hx, TD.as_eq hy, TD.as_eq hz, TD.as_eq hu, TD.as_eq hv, TD.as_eq hw]; exact ⟨x, y, z, u, v, w, rfl, h1, h2.symm⟩
  · simp at h

section
variable {P : Program} {T : Nat → Option Ty} {G G' : Tbl} {N : Nat} {rs : List ResultVar}
theorem Goes.ret' {v r : SV} (h : v = r) : Goes G T N rs (.ret v) r := h ▸ .ret v
theorem Goes.no {r : SV} (h : False) : Goes G T N rs .fail r := h.elim
/-- from the entry -/
theorem Goes.run0 {f : Func} {n : Nat} {ks : List Nat} {tds : List TD} {L : Leaf} {r : SV} (he : run G T f.ntmps f.results.toList (fun _ => ks) n (bod f) (entry tds) = L)
    (h : Goes G T f.ntmps f.results.toList L r) : Goes G T f.ntmps f.results.toList (.more (bod f) (entry tds)) r := .more n (fun _ => ks) _ _ _ (.of_eq he h)
end


section
variable {P : Program} {T : Nat → Option Ty} {G : Tbl} {f : Nat} {fn : Func}
theorem Env.fc0 {k : Bool} {r : SV} (hE : Env P T G) (hf : P.funcs[f]? = some fn) (hb : fn.body.isSome = true) (hn : (fn.name == "runtime.NumGoroutine") = false) (hl : Nat.ble 0 fn.ntmps = true)
    (h : k = true → Goes G T fn.ntmps fn.results.toList (.more (bod fn) (entry [])) (r)) : Env P T (G.add f (FC0  k r)) := by
  refine hE.fun' hf hb hn fun tds s hs => ?_
  obtain ⟨rfl, hk, rfl⟩ := FC0.inv hs
  exact ⟨Nat.le_of_ble_eq_true hl, h hk⟩
theorem Env.fc1 {a0 : Ty} {k : a0.D → Bool} {r : a0.D → SV} (hE : Env P T G) (hf : P.funcs[f]? = some fn) (hb : fn.body.isSome = true) (hn : (fn.name == "runtime.NumGoroutine") = false) (hl : Nat.ble 1 fn.ntmps = true)
    (h : ∀ x, k x = true → Goes G T fn.ntmps fn.results.toList (.more (bod fn) (entry [⟨a0, x⟩])) (r x)) : Env P T (G.add f (FC1 a0 k r)) := by
  refine hE.fun' hf hb hn fun tds s hs => ?_
  obtain ⟨x, rfl, hk, rfl⟩ := FC1.inv hs
  exact ⟨Nat.le_of_ble_eq_true hl, h x hk⟩
theorem Env.fc2 {a0 a1 : Ty} {k : a0.D → a1.D → Bool} {r : a0.D → a1.D → SV} (hE : Env P T G) (hf : P.funcs[f]? = some fn) (hb : fn.body.isSome = true) (hn : (fn.name == "runtime.NumGoroutine") = false) (hl : Nat.ble 2 fn.ntmps = true)
    (h : ∀ x y, k x y = true → Goes G T fn.ntmps fn.results.toList (.more (bod fn) (entry [⟨a0, x⟩, ⟨a1, y⟩])) (r x y)) : Env P T (G.add f (FC2 a0 a1 k r)) := by
  refine hE.fun' hf hb hn fun tds s hs => ?_
  obtain ⟨x, y, rfl, hk, rfl⟩ := FC2.inv hs
  exact ⟨Nat.le_of_ble_eq_true hl, h x y hk⟩
theorem Env.fc3 {a0 a1 a2 : Ty} {k : a0.D → a1.D → a2.D → Bool} {r : a0.D → a1.D → a2.D → SV} (hE : Env P T G) (hf : P.funcs[f]? = some fn) (hb : fn.body.isSome = true) (hn : (fn.name == "runtime.NumGoroutine") = false) (hl : Nat.ble 3 fn.ntmps = true)
    (h : ∀ x y z, k x y z = true → Goes G T fn.ntmps fn.results.toList (.more (bod fn) (entry [⟨a0, x⟩, ⟨a1, y⟩, ⟨a2, z⟩])) (r x y z)) : Env P T (G.add f (FC3 a0 a1 a2 k r)) := by
  refine hE.fun' hf hb hn fun tds s hs => ?_
  obtain ⟨x, y, z, rfl, hk, rfl⟩ := FC3.inv hs
  exact ⟨Nat.le_of_ble_eq_true hl, h x y z hk⟩
theorem Env.fc4 {a0 a1 a2 a3 : Ty} {k : a0.D → a1.D → a2.D → a3.D → Bool} {r : a0.D → a1.D → a2.D → a3.D → SV} (hE : Env P T G) (hf : P.funcs[f]? = some fn) (hb : fn.body.isSome = true) (hn : (fn.name == "runtime.NumGoroutine") = false) (hl : Nat.ble 4 fn.ntmps = true)
    (h : ∀ x y z u, k x y z u = true → Goes G T fn.ntmps fn.results.toList (.more (bod fn) (entry [⟨a0, x⟩, ⟨a1, y⟩, ⟨a2, z⟩, ⟨a3, u⟩])) (r x y z u)) : Env P T (G.add f (FC4 a0 a1 a2 a3 k r)) := by
  refine hE.fun' hf hb hn fun tds s hs => ?_
  obtain ⟨x, y, z, u, rfl, hk, rfl⟩ := FC4.inv hs
  exact ⟨Nat.le_of_ble_eq_true hl, h x y z u hk⟩
theorem Env.fc5 {a0 a1 a2 a3 a4 : Ty} {k : a0.D → a1.D → a2.D → a3.D → a4.D → Bool} {r : a0.D → a1.D → a2.D → a3.D → a4.D → SV} (hE : Env P T G) (hf : P.funcs[f]? = some fn) (hb : fn.body.isSome = true) (hn : (fn.name == "runtime.NumGoroutine") = false) (hl : Nat.ble 5 fn.ntmps = true)
    (h : ∀ x y z u v, k x y z u v = true → Goes G T fn.ntmps fn.results.toList (.more (bod fn) (entry [⟨a0, x⟩, ⟨a1, y⟩, ⟨a2, z⟩, ⟨a3, u⟩, ⟨a4, v⟩])) (r x y z u v)) : Env P T (G.add f (FC5 a0 a1 a2 a3 a4 k r)) := by
  refine hE.fun' hf hb hn fun tds s hs => ?_
  obtain ⟨x, y, z, u, v, rfl, hk, rfl⟩ := FC5.inv hs
  exact ⟨Nat.le_of_ble_eq_true hl, h x y z u v hk⟩
theorem Env.fc6 {a0 a1 a2 a3 a4 a5 : Ty} {k : a0.D → a1.D → a2.D → a3.D → a4.D → a5.D → Bool} {r : a0.D → a1.D → a2.D → a3.D → a4.D → a5.D → SV} (hE : Env P T G) (hf : P.funcs[f]? = some fn) (hb : fn.body.isSome = true) (hn : (fn.name == "runtime.NumGoroutine") = false) (hl : Nat.ble 6 fn.ntmps = true)
    (h : ∀ x y z u v w, k x y z u v w = true → Goes G T fn.ntmps fn.results.toList (.more (bod fn) (entry [⟨a0, x⟩, ⟨a1, y⟩, ⟨a2, z⟩, ⟨a3, u⟩, ⟨a4, v⟩, ⟨a5, w⟩])) (r x y z u v w)) : Env P T (G.add f (FC6 a0 a1 a2 a3 a4 a5 k r)) := by
  refine hE.fun' hf hb hn fun tds s hs => ?_
  obtain ⟨x, y, z, u, v, w, rfl, hk, rfl⟩ := FC6.inv hs
  exact ⟨Nat.le_of_ble_eq_true hl, h x y z u v w hk⟩
end

end Go.Lift
namespace Go.Lift

/-- function f keeps the contract F -/
def Has (P : Program) (T : Nat → Option Ty) (f : Nat) (F : List TD → Option (Bool × SV)) : Prop := Env P T (Tbl.none.add f F)

section
variable {P : Program} {T : Nat → Option Ty} {G : Tbl} {f : Nat} {F : List TD → Option (Bool × SV)}

theorem Tbl.add_self (tds : List TD) : (G.add f F) f tds = F tds := by unfold Tbl.add; simp

theorem Env.only (h : Env P T (G.add f F)) : Has P T f F := by
  refine ⟨h.types, fun g tds r hg => ?_, fun g tds r hg => ?_, h.mixed⟩
  · unfold Tbl.add at hg
    cases hb : Nat.beq g f with
    | true =>
      rw [hb] at hg
      have := Nat.eq_of_beq_eq_true hb; subst this
      exact h.fns g tds r (by rw [Tbl.add_self]; exact hg)
    | false => rw [hb] at hg; simp [Tbl.none] at hg
  · unfold Tbl.add at hg
    cases hb : Nat.beq g f with
    | true =>
      rw [hb] at hg
      have := Nat.eq_of_beq_eq_true hb; subst this
      exact h.good g tds r (by rw [Tbl.add_self]; exact hg)
    | false => rw [hb] at hg; simp [Tbl.none] at hg

theorem Env.more (h : Env P T G) (h' : Has P T f F) : Env P T (G.add f F) := by
  refine ⟨h.types, fun g tds r hg => ?_, fun g tds r hg => ?_, h.mixed⟩
  · unfold Tbl.add at hg
    cases hb : Nat.beq g f with
    | true =>
      rw [hb] at hg
      have := Nat.eq_of_beq_eq_true hb; subst this
      exact h'.fns g tds r (by rw [Tbl.add_self]; exact hg)
    | false => rw [hb] at hg; exact h.fns g tds r hg
  · unfold Tbl.add at hg
    cases hb : Nat.beq g f with
    | true =>
      rw [hb] at hg
      have := Nat.eq_of_beq_eq_true hb; subst this
      exact h'.good g tds r (by rw [Tbl.add_self]; exact hg)
    | false => rw [hb] at hg; exact h.good g tds r hg

/-- a stronger contract -/
theorem Has.sub {F' : List TD → Option (Bool × SV)} (h : Has P T f F) (hs : ∀ tds r, F' tds = some r → F tds = some r) : Has P T f F' := by
  refine ⟨h.types, fun g tds r hg => ?_, fun g tds r hg => ?_, h.mixed⟩
  · unfold Tbl.add at hg
    cases hb : Nat.beq g f with
    | true =>
      rw [hb] at hg
      have := Nat.eq_of_beq_eq_true hb; subst this
      exact h.fns g tds r (by rw [Tbl.add_self]; exact hs _ _ hg)
    | false => rw [hb] at hg; simp [Tbl.none] at hg
  · unfold Tbl.add at hg
    cases hb : Nat.beq g f with
    | true =>
      rw [hb] at hg
      have := Nat.eq_of_beq_eq_true hb; subst this
      exact h.good g tds r (by rw [Tbl.add_self]; exact hs _ _ hg)
    | false => rw [hb] at hg; simp [Tbl.none] at hg

theorem Has.env (h : Has P T f F) : Env P T Tbl.none := ⟨h.types, fun f tds r h => by simp [Tbl.none] at h, fun f tds r h => by simp [Tbl.none] at h, h.mixed⟩
end

section
variable {P : Program} {T : Nat → Option Ty} {G : Tbl} {f : Nat} {fn : Func}
theorem Has.fc0 {k : Bool} {r : SV} (hE : Env P T G) (hf : P.funcs[f]? = some fn) (hb : fn.body.isSome = true) (hn : (fn.name == "runtime.NumGoroutine") = false) (hl : Nat.ble 0 fn.ntmps = true)
    (h : k = true → Goes G T fn.ntmps fn.results.toList (.more (bod fn) (entry [])) (r)) : Has P T f (FC0  k r) :=
  (Env.fc0 hE hf hb hn hl h).only
theorem Has.fc1 {a0 : Ty} {k : a0.D → Bool} {r : a0.D → SV} (hE : Env P T G) (hf : P.funcs[f]? = some fn) (hb : fn.body.isSome = true) (hn : (fn.name == "runtime.NumGoroutine") = false) (hl : Nat.ble 1 fn.ntmps = true)
    (h : ∀ x, k x = true → Goes G T fn.ntmps fn.results.toList (.more (bod fn) (entry [⟨a0, x⟩])) (r x)) : Has P T f (FC1 a0 k r) :=
  (Env.fc1 hE hf hb hn hl h).only
theorem Has.fc2 {a0 a1 : Ty} {k : a0.D → a1.D → Bool} {r : a0.D → a1.D → SV} (hE : Env P T G) (hf : P.funcs[f]? = some fn) (hb : fn.body.isSome = true) (hn : (fn.name == "runtime.NumGoroutine") = false) (hl : Nat.ble 2 fn.ntmps = true)
    (h : ∀ x y, k x y = true → Goes G T fn.ntmps fn.results.toList (.more (bod fn) (entry [⟨a0, x⟩, ⟨a1, y⟩])) (r x y)) : Has P T f (FC2 a0 a1 k r) :=
  (Env.fc2 hE hf hb hn hl h).only
theorem Has.fc3 {a0 a1 a2 : Ty} {k : a0.D → a1.D → a2.D → Bool} {r : a0.D → a1.D → a2.D → SV} (hE : Env P T G) (hf : P.funcs[f]? = some fn) (hb : fn.body.isSome = true) (hn : (fn.name == "runtime.NumGoroutine") = false) (hl : Nat.ble 3 fn.ntmps = true)
    (h : ∀ x y z, k x y z = true → Goes G T fn.ntmps fn.results.toList (.more (bod fn) (entry [⟨a0, x⟩, ⟨a1, y⟩, ⟨a2, z⟩])) (r x y z)) : Has P T f (FC3 a0 a1 a2 k r) :=
  (Env.fc3 hE hf hb hn hl h).only
theorem Has.fc4 {a0 a1 a2 a3 : Ty} {k : a0.D → a1.D → a2.D → a3.D → Bool} {r : a0.D → a1.D → a2.D → a3.D → SV} (hE : Env P T G) (hf : P.funcs[f]? = some fn) (hb : fn.body.isSome = true) (hn : (fn.name == "runtime.NumGoroutine") = false) (hl : Nat.ble 4 fn.ntmps = true)
    (h : ∀ x y z u, k x y z u = true → Goes G T fn.ntmps fn.results.toList (.more (bod fn) (entry [⟨a0, x⟩, ⟨a1, y⟩, ⟨a2, z⟩, ⟨a3, u⟩])) (r x y z u)) : Has P T f (FC4 a0 a1 a2 a3 k r) :=
  (Env.fc4 hE hf hb hn hl h).only
theorem Has.fc5 {a0 a1 a2 a3 a4 : Ty} {k : a0.D → a1.D → a2.D → a3.D → a4.D → Bool} {r : a0.D → a1.D → a2.D → a3.D → a4.D → SV} (hE : Env P T G) (hf : P.funcs[f]? = some fn) (hb : fn.body.isSome = true) (hn : (fn.name == "runtime.NumGoroutine") = false) (hl : Nat.ble 5 fn.ntmps = true)
    (h : ∀ x y z u v, k x y z u v = true → Goes G T fn.ntmps fn.results.toList (.more (bod fn) (entry [⟨a0, x⟩, ⟨a1, y⟩, ⟨a2, z⟩, ⟨a3, u⟩, ⟨a4, v⟩])) (r x y z u v)) : Has P T f (FC5 a0 a1 a2 a3 a4 k r) :=
  (Env.fc5 hE hf hb hn hl h).only
theorem Has.fc6 {a0 a1 a2 a3 a4 a5 : Ty} {k : a0.D → a1.D → a2.D → a3.D → a4.D → a5.D → Bool} {r : a0.D → a1.D → a2.D → a3.D → a4.D → a5.D → SV} (hE : Env P T G) (hf : P.funcs[f]? = some fn) (hb : fn.body.isSome = true) (hn : (fn.name == "runtime.NumGoroutine") = false) (hl : Nat.ble 6 fn.ntmps = true)
    (h : ∀ x y z u v w, k x y z u v w = true → Goes G T fn.ntmps fn.results.toList (.more (bod fn) (entry [⟨a0, x⟩, ⟨a1, y⟩, ⟨a2, z⟩, ⟨a3, u⟩, ⟨a4, v⟩, ⟨a5, w⟩])) (r x y z u v w)) : Has P T f (FC6 a0 a1 a2 a3 a4 a5 k r) :=
  (Env.fc6 hE hf hb hn hl h).only
end

/-- a part of a function's code -/
def Code.at' : Code → List Nat → Code
  | c, [] => c
  | .seq a b, i :: r => bif Nat.beq i 0 then Code.at' a r else Code.at' b r
  | .cond _ a b, i :: r => bif Nat.beq i 0 then Code.at' a r else Code.at' b r
  | .block _ a, _ :: r => Code.at' a r
  | .loop a, _ :: r => Code.at' a r
  | c, _ => c
def cAt (f : Func) (p : List Nat) : Code := Code.at' (f.body.getD .skip) p
/-- what is kept at loop heads, by the length of what comes behind -/
def kf (l : List (Nat × List Nat)) (n : Nat) : List Nat := match look n l with | some x => x | none => (look (n % 64) l).getD []

section
variable {P : Program} {T : Nat → Option Ty} {G G' : Tbl} {N : Nat} {rs : List ResultVar}
theorem Goes.run1 {f : Func} {n : Nat} {ks : Nat → List Nat} {tds : List TD} {L : Leaf} {r : SV} (he : run G T f.ntmps f.results.toList ks n (bod f) (entry tds) = L)
    (h : Goes G T f.ntmps f.results.toList L r) : Goes G T f.ntmps f.results.toList (.more (bod f) (entry tds)) r := .more n ks _ _ _ (.of_eq he h)
/-- a loop, entered or met again; its round is known -/
theorem Goes.lp' {n : Nat} {ks : Nat → List Nat} {L : Leaf} {st : St} {r : SV} {R : Leaf} (he : run G T N rs ks n L.round st = R) (h : Goes G T N rs R r) : Goes G T N rs (.loop L.body L.kont st) r :=
  .lp n ks (.of_eq he h)
end
end Go.Lift
set_option linter.unusedVariables false
namespace Go.Lift

section
variable {P : Program} {T : Nat → Option Ty} {f : Nat} {F F' : List TD → Option (Bool × SV)}

/-- own memory, laid down as data -/
theorem cool {σ : Store} {w : World} {n0 : Nat} {t : Ty} {l : List t.D} {v : Value} (hh : Holds w σ) (hB : BoxR σ w n0 (.vec t l) v) :
    ∃ τ, Store.le σ τ ∧ Holds w τ ∧ (∀ k o, τ k = some o → σ k = some o ∨ n0 ≤ k) ∧ RelV τ ⟨.slice t, l⟩ v := by
  have hblk := hB.block
  have hle : Store.le σ (fun k => if hBlock v = some k then w.heap[k]? else σ k) := by
    intro k o hk
    show (if hBlock v = some k then w.heap[k]? else σ k) = some o
    split
    · rename_i e; have := (hblk k e).2.2.1; rw [hk] at this; simp at this
    · exact hk
  have hg : ∀ g, hBlock v = some g → (fun k => if hBlock v = some k then w.heap[k]? else σ k) g = w.heap[g]? := fun g e => by simp [e]
  refine ⟨_, hle, fun k o hk => ?_, fun k o hk => ?_, box_slice' hle hg hB⟩
  · change (if hBlock v = some k then w.heap[k]? else σ k) = some o at hk
    split at hk
    · exact hk
    · exact hh k o hk
  · change (if hBlock v = some k then w.heap[k]? else σ k) = some o at hk
    split at hk
    · rename_i e; exact .inr (hblk k e).2.1
    · exact .inl hk

/-- a function that gives memory of its own also gives data -/
theorem Has.cool (h : Has P T f F) (hs : ∀ tds r, F' tds = some r → ∃ (t : Ty) (l : List t.D), F tds = some (r.1, .own t l) ∧ r.2 = .tv ⟨.slice t, l⟩) : Has P T f F' := by
  refine ⟨h.types, fun g tds r hg => ?_, fun g tds r hg => ?_, h.mixed⟩
  · unfold Tbl.add at hg
    cases hb : Nat.beq g f with
    | true =>
      rw [hb] at hg
      have := Nat.eq_of_beq_eq_true hb; subst this
      obtain ⟨t, l, h1, _⟩ := hs _ _ hg
      exact h.fns g tds _ (by rw [Tbl.add_self]; exact h1)
    | false => rw [hb] at hg; simp [Tbl.none] at hg
  · unfold Tbl.add at hg
    cases hb : Nat.beq g f with
    | true =>
      rw [hb] at hg
      have := Nat.eq_of_beq_eq_true hb; subst this
      obtain ⟨t, l, h1, h2⟩ := hs _ _ hg
      dsimp only at h1 h2
      subst h2
      intro σ w vs hh ha
      refine Calls.mono (h.good g tds (.own t l) (by rw [Tbl.add_self]; exact h1) σ w vs hh ha) fun e w' he => ?_
      obtain ⟨v, σ', e1, st, hr⟩ := he
      obtain ⟨τ, a1, a2, a3, a4⟩ := Lift.cool st.holds hr
      refine ⟨v, τ, e1, ⟨st.le.trans a1, a2, fun b o hb => ?_, st.size, st.block, st.os, st.output, st.tape⟩, a4⟩
      rcases a3 b o hb with h3 | h3
      · exact st.news b o h3
      · exact .inr h3
    | false => rw [hb] at hg; simp [Tbl.none] at hg
theorem Has.cool5 {a b c d e t : Ty} {k : a.D → b.D → c.D → d.D → e.D → Bool} {r : a.D → b.D → c.D → d.D → e.D → List t.D} (h : Has P T f (FC5 a b c d e k fun x y z u v => .own t (r x y z u v))) :
    Has P T f (FC5 a b c d e k fun x y z u v => .tv ⟨.slice t, r x y z u v⟩) := by
  refine h.cool fun tds s hs => ?_
  unfold FC5 at *
  split at hs
  · simp only [Option.bind_eq_some_iff, Option.map_eq_some_iff] at hs
    obtain ⟨x, hx, y, hy, z, hz, u, hu, v, hv, rfl⟩ := hs
    exact ⟨t, r x y z u v, by simp only [hx, hy, hz, hu, hv, Option.bind_some, Option.map_some], rfl⟩
  · simp at hs
end
end Go.Lift
