/- A part of the proof that the law returns true for every input: no condition. -/
import Derived.Test.YtincaojcmkklbaaE18
set_option linter.unusedSimpArgs false
set_option linter.unusedVariables false
namespace Go.Lift

section
variable {P : Program} {T : Nat → Option Ty} {G : Tbl} {w w' : World} {σ σ' τ : Store} {H H' : Nat → Value} {n0 N : Nat} {ops : Array Oper} {C C' : Nat → Prop}

theorem Rel.weaken {st : St} {a : Act} (h : Rel C N n0 σ H st a w) (hc : ∀ k, C' k → C k) : Rel C' N n0 σ H st a w :=
  ⟨h.holds, h.size, h.defers, h.base, h.box, h.apart, fun k s hk hck => h.slot k s hk (hc k hck)⟩

theorem Rel.putAny {st : St} {a : Act} {d : Option Nat} {s : SV} {v : Value} (h : Rel C N n0 σ H st a w) (hd : dstOK N d) (hc : ∀ k, C' k → C k ∧ d ≠ some k) : Rel C' N n0 σ H (st.put d s) (a.put d v) w := by
  cases d with
  | none => exact h.weaken fun k hk => (hc k hk).1
  | some d =>
    refine ⟨h.holds, by rw [put_size]; exact h.size, by rw [put_defers]; exact h.defers, h.base, h.box, h.apart, fun k s' hk hck => ?_⟩
    have hne : ¬ k = d := fun e => (hc k hck).2 (by rw [e])
    simp only [St.put, look_ins, if_neg hne] at hk ⊢
    rw [getD_put (by rw [h.size]; exact hd d rfl), if_neg hne]
    exact h.slot k s' hk (hc k hck).1

def Closed (ops : Array Oper) (D : Nat → Prop) : Prop := ∀ (j : Nat) (p : Oper) (m : Nat) (b : Bool), D j → ops.toList[j]? = some p → p.guard = some (m, b) → D m

structure Ready (ops : Array Oper) (D : Nat → Prop) (i : Nat) (o : Oper) : Prop where
  at_ : ops.toList[i]? = some o
  fresh : ¬ D i
  guard : ∀ m b, o.guard = some (m, b) → D m
  closed : Closed ops D

theorem Ready.want_put (hS : Static N ops) {D : Nat → Prop} {i : Nat} {o : Oper} (hR : Ready ops D i o) {a : Act} {v : Value} {j : Nat} {p : Oper} (hj : D j ∨ j = i) (hp : ops.toList[j]? = some p) :
    want ops p (a.put o.dst v) = want ops p a := by
  refine Lift.want_put hS hR.at_ fun m b hg e => ?_
  subst e
  rcases hj with hj | rfl
  · exact hR.fresh (hR.closed j p _ b hj hp hg)
  · have := hR.at_; rw [hp] at this; simp at this; subst this
    exact hR.fresh (hR.guard _ b hg)

/-- the frame of a done operation -/
theorem inv_done (hS : Static N ops) {D : Nat → Prop} {i : Nat} {o : Oper} (hR : Ready ops D i o) {st st' : St} {a : Act} {v : Value} (hI : Inv ops D N n0 σ H st a w)
    (hrel : Rel (Cn ops D a) N n0 σ' H' st' (a.put o.dst v) w') (hw : want ops o a = true) : Inv ops (fun j => D j ∨ j = i) N n0 σ' H' st' (a.put o.dst v) w' where
  rel := hrel.weaken fun k hk j p hj hp hd => by
    have := hk j p (.inl hj) hp hd
    rwa [hR.want_put hS (.inl hj) hp] at this
  skip := fun j p k hj hp hd hww => by
    rw [hR.want_put hS hj hp] at hww
    rcases hj with hj | rfl
    · have hk := hI.skip j p k hj hp hd hww
      cases hod : o.dst with
      | none => exact hk
      | some d =>
        have hne : ¬ k = d := fun e => by
          have := hS.inj j i p o d hp hR.at_ (by rw [hd, e]) hod
          subst this; exact hR.fresh hj
        rw [getD_put (by rw [hI.rel.size]; exact hS.lt i o d hR.at_ hod), if_neg hne]
        exact hk
    · have := hR.at_; rw [hp] at this; simp at this; subst this
      rw [hw] at hww; simp at hww

/-- the frame of an operation that is passed over -/
theorem inv_skip (hS : Static N ops) {D : Nat → Prop} {i : Nat} {o : Oper} (hR : Ready ops D i o) {st : St} {a : Act} (hI : Inv ops D N n0 σ H st a w) (hw : want ops o a = false) {st' : St}
    (hst : ∀ (C' : Nat → Prop), (∀ k, C' k → Cn ops D a k ∧ o.dst ≠ some k) → Rel C' N n0 σ H st' (a.put o.dst undef) w) : Inv ops (fun j => D j ∨ j = i) N n0 σ H st' (a.put o.dst undef) w where
  rel := hst _ fun k hk => by
    refine ⟨fun j p hj hp hd => ?_, fun e => ?_⟩
    · have := hk j p (.inl hj) hp hd
      rwa [hR.want_put hS (.inl hj) hp] at this
    · have := hk i o (.inr rfl) hR.at_ e
      rw [hR.want_put hS (.inr rfl) hR.at_, hw] at this
      simp at this
  skip := fun j p k hj hp hd hww => by
    rw [hR.want_put hS hj hp] at hww
    rcases hj with hj | rfl
    · have hk := hI.skip j p k hj hp hd hww
      cases hod : o.dst with
      | none => exact hk
      | some d =>
        have hne : ¬ k = d := fun e => by
          have := hS.inj j i p o d hp hR.at_ (by rw [hd, e]) hod
          subst this; exact hR.fresh hj
        rw [getD_put (by rw [hI.rel.size]; exact hS.lt i o d hR.at_ hod), if_neg hne]
        exact hk
    · have := hR.at_; rw [hp] at this; simp at this; subst this
      rw [hd, getD_put (by rw [hI.rel.size]; exact hS.lt j p k hp hd), if_pos rfl]

def GuardIs (ops : Array Oper) (st : St) (o : Oper) (g : Bool) : Prop :=
  (o.guard = none ∧ g = true) ∨ ∃ mb, o.guard = some mb ∧ guardVal ops.toList st ops.toList.length mb = some g

theorem GuardIs.want (hS : Static N ops) {D : Nat → Prop} {i : Nat} {o : Oper} (hR : Ready ops D i o) {st : St} {a : Act} (hI : Inv ops D N n0 σ H st a w) {g : Bool} (hg : GuardIs ops st o g) : want ops o a = g := by
  rcases hg with ⟨h1, rfl⟩ | ⟨⟨m, b⟩, h1, h2⟩
  · exact want_none h1
  · rw [want_some h1]
    exact guardVal_want hS hI _ m b g h2 (hR.guard m b h1) hR.closed

theorem dst_ok (hS : Static N ops) {i : Nat} {o : Oper} (hi : ops.toList[i]? = some o) : dstOK N o.dst := fun k hk => hS.lt i o k hi hk

theorem wpOp_run {i : Nat} {o : Oper} (hi : ops.toList[i]? = some o) {K : Act → World → Prop} {Q : Exit → Act → World → Prop} {a : Act} (hw : want ops o a = true) (h : o.wp P a w K Q) : wpOp P ops Q i K a w := by
  have h1 : ops[i]? = some o := by simpa using hi
  unfold want at hw
  simp only [wpOp, h1, hw, if_true]
  exact .inl h

theorem wpOp_pass {i : Nat} {o : Oper} (hi : ops.toList[i]? = some o) {K : Act → World → Prop} {Q : Exit → Act → World → Prop} {a : Act} (hw : want ops o a = false) (h : K (a.put o.dst undef) w) : wpOp P ops Q i K a w := by
  have h1 : ops[i]? = some o := by simpa using hi
  unfold want at hw
  simp only [wpOp, h1, hw, Bool.false_eq_true, if_false]
  exact h

theorem inv_value (hE : Env P T G) (hS : Static N ops) {D : Nat → Prop} {i : Nat} {o : Oper} (hR : Ready ops D i o) {st : St} {a : Act} (hI : Inv ops D N n0 σ H st a w) {g c : Bool} {v : SV} (hg : GuardIs ops st o g)
    (hv : opVal G T st.bx (opd st) o = some (c, v)) (hc : (c || !g) = true) {K : Act → World → Prop} {Q : Exit → Act → World → Prop}
    (hK : ∀ σ' a' w', Trans n0 σ w σ' w' → Inv ops (fun j => D j ∨ j = i) N n0 σ' H (st.put o.dst v) a' w' → K a' w') : wpOp P ops Q i K a w := by
  have hw := hg.want hS hR hI
  cases g with
  | true =>
    simp at hc; subst hc
    have hρ := (opd_ok hS hI hR.at_ hw hR.guard hR.closed).1
    refine wpOp_run hR.at_ hw (opVal_yields hE hI.rel.holds hI.rel.box hρ hv K Q fun v' σ' w' hst hsv => ?_)
    exact hK σ' _ w' (hst.trans' hI.rel.base) (inv_done hS hR hI ((hI.rel.step hst).put (dst_ok hS hR.at_) hsv) hw)
  | false =>
    refine wpOp_pass hR.at_ hw (hK σ _ w (Trans.refl hI.rel.holds) (inv_skip hS hR hI hw fun C' hC' => hI.rel.putAny (dst_ok hS hR.at_) hC'))

theorem Rel.lit {st : St} {a : Act} {d : Nat} {b : Bool} (h : Rel C N n0 σ H st a w) (hv : a.tmps.getD d undef = .bool b) : Rel C N n0 σ H ⟨ins d (.tv ⟨.bool, b⟩) st.sl, st.bx⟩ a w := by
  refine ⟨h.holds, h.size, h.defers, h.base, h.box, h.apart, fun k s hk hc => ?_⟩
  simp only [look_ins] at hk
  split at hk
  · rename_i e; subst e
    simp at hk; subst hk
    rw [hv]; exact relV_bool σ b
  · exact h.slot k s hk hc

theorem inv_lit (hS : Static N ops) {D : Nat → Prop} {i : Nat} {o : Oper} (hR : Ready ops D i o) {st : St} {a : Act} (hI : Inv ops D N n0 σ H st a w) {m : Nat} {b g : Bool} (hg : o.guard = some (m, b))
    (hv : guardVal ops.toList st ops.toList.length (m, b) = some g) : Inv ops D N n0 σ H (setLit ops.toList m (bif g then b else !b) st) a w := by
  unfold setLit
  split
  · rename_i d _ _ _ _ hm
    have hm' : ∃ om : Oper, ops.toList[m]? = some om ∧ om.guard = none ∧ om.dst = some d := ⟨_, hm, rfl, rfl⟩
    obtain ⟨om, hm, hgn, hd⟩ := hm'
    refine ⟨hI.rel.lit ?_, hI.skip⟩
    cases hn : ops.toList.length with
    | zero => rw [hn] at hv; simp [guardVal] at hv
    | succ n =>
      rw [hn] at hv
      simp only [guardVal, hm, Option.bind_some, hd, Option.bind_eq_some_iff, hgn] at hv
      obtain ⟨v, hv1, vb, hvb, hv⟩ := hv
      simp at hv
      have hs := hI.rel.slot d v hv1 (fun j p hj hp hpd => by
        have := hS.inj j m p om d hp hm hpd hd
        subst this; rw [hm] at hp; simp at hp; subst hp; exact want_none hgn)
      rw [boolean_inv hvb] at hs
      rw [svr_bool hs, ← hv]
      cases b <;> cases vb <;> rfl
  · exact hI

theorem inv_eff (hE : Env P T G) (hS : Static N ops) {D : Nat → Prop} {i : Nat} {o : Oper} (hR : Ready ops D i o) {st st' : St} {a : Act} (hI : Inv ops D N n0 σ H st a w) (hw : want ops o a = true) (hnv : opVal G T st.bx (opd st) o = none ∨ True)
    (hv : opStep G T o st = some (true, st') ∨ (opEff G T o st = some (true, st') ∧ ∀ c x y, o.op ≠ .pick c x y)) {K : Act → World → Prop} {Q : Exit → Act → World → Prop}
    (hK : ∀ σ' H' a' w', Trans n0 σ w σ' w' → Inv ops (fun j => D j ∨ j = i) N n0 σ' H' st' a' w' → K a' w') : wpOp P ops Q i K a w := by
  obtain ⟨hρ, hC⟩ := opd_ok hS hI hR.at_ hw hR.guard hR.closed
  have hpick : (∃ c x y, o.op = .pick c x y) ∨ ∀ c x y, o.op ≠ .pick c x y := by
    cases o.op <;> first | (left; exact ⟨_, _, _, rfl⟩) | (right; intro c x y h; cases h)
  have heff : EffOK P (Cn ops D a) N n0 o a w σ st' := by
    rcases hpick with ⟨c, x, y, ho⟩ | hp
    · rcases hv with hv | ⟨_, h2⟩
      · unfold opStep at hv
        split at hv
        · rename_i cc vv hov
          simp at hv
          obtain ⟨rfl, rfl⟩ := hv
          intro next Q' hn
          exact opVal_yields hE hI.rel.holds hI.rel.box hρ hov next Q' fun v' σ2 w2 hst hsv => hn v' σ2 w2 (hst.trans' hI.rel.base) ⟨H, (hI.rel.step hst).put (dst_ok hS hR.at_) hsv⟩
        · cases hd : o.dst <;> simp [opEff, ho, hd] at hv
      · exact (h2 c x y ho).elim
    · rcases hv with hv | ⟨hv, _⟩
      · exact opStep_ok hE hI.rel hρ (hC hp) (dst_ok hS hR.at_) hv
      · exact opEff_ok hE hI.rel (hC hp) (dst_ok hS hR.at_) hv
  refine wpOp_run hR.at_ hw (heff K Q fun v σ' w' ht ⟨H', hrel⟩ => ?_)
  exact hK σ' H' _ w' ht (inv_done hS hR hI hrel hw)

end
end Go.Lift
