/- A part of the proof that the law returns true for every input: no condition. -/
import Derived.Test.YtincaojcmkklbaaE19
set_option linter.unusedSimpArgs false
set_option linter.unusedVariables false
namespace Go.Lift

section
variable {P : Program} {T : Nat → Option Ty} {G : Tbl} {w w' : World} {σ σ' τ : Store} {H H' : Nat → Value} {n0 N : Nat} {ops : Array Oper} {C C' : Nat → Prop}

theorem Inv.congr {D D' : Nat → Prop} {st : St} {a : Act} (h : Inv ops D N n0 σ H st a w) (hd : ∀ (j : Nat) (o : Oper), ops.toList[j]? = some o → (D j ↔ D' j)) : Inv ops D' N n0 σ H st a w :=
  ⟨h.rel.weaken fun k hk j o hj ho hod => hk j o ((hd j o ho).1 hj) ho hod, fun j o k hj ho hod hw => h.skip j o k ((hd j o ho).2 hj) ho hod hw⟩

theorem guard_lt (hS : Static N ops) {i : Nat} {o : Oper} (hi : ops.toList[i]? = some o) {m : Nat} {b : Bool} (hg : o.guard = some (m, b)) : m < i := by
  have hok := hS.ok i o hi
  simp only [okOper, hg, Bool.and_eq_true] at hok
  exact blt_lt hok.1.1.2

theorem ready_lt (hS : Static N ops) {i : Nat} {o : Oper} (hi : ops.toList[i]? = some o) : Ready ops (· < i) i o :=
  ⟨hi, Nat.lt_irrefl i, fun m b hg => guard_lt hS hi hg, fun j p m b hj hp hg => Nat.lt_trans (guard_lt hS hp hg) hj⟩

theorem lt_succ_eq (i : Nat) : (fun j => j < i ∨ j = i) = (fun j => j < i + 1) := by funext j; apply propext; omega

theorem execR_one {Φ : Leaf → Prop} (hfail : ¬ Φ .fail) (hE : Env P T G) (hS : Static N ops) (k : St → Leaf) {o : Oper} {l : List Oper} {i : Nat} {st : St} {a : Act} (hi : ops.toList[i]? = some o)
    (hI : Inv ops (· < i) N n0 σ H st a w) (hΦ : Φ (execR G T false ops.toList (o :: l) st k)) {K : Act → World → Prop} {Q : Exit → Act → World → Prop}
    (step : ∀ st', Φ (execR G T false ops.toList l st' k) → ∀ σ1 H1 a1 w1, Trans n0 σ w σ1 w1 → Inv ops (fun j => j < i ∨ j = i) N n0 σ1 H1 st' a1 w1 → K a1 w1) : wpOp P ops Q i K a w := by
  have hR := ready_lt hS hi
  simp only [execR, Bool.false_and, cond_false, Bool.not_false, Bool.true_or, cond_true] at hΦ
  cases hg : o.guard with
  | none =>
    simp only [hg] at hΦ
    cases hop : opStep G T o st with
    | none => simp only [hop] at hΦ; exact (hfail hΦ).elim
    | some r =>
      obtain ⟨c, st'⟩ := r
      simp only [hop] at hΦ
      cases c with
      | false => exact (hfail hΦ).elim
      | true =>
        simp only [cond_true] at hΦ
        exact inv_eff hE hS hR hI (want_none hg) (.inr trivial) (.inl hop) fun σ1 H1 a1 w1 ht hI1 => step st' hΦ σ1 H1 a1 w1 ht hI1
  | some mb =>
    obtain ⟨m, b⟩ := mb
    simp only [hg] at hΦ
    cases hgv : guardVal ops.toList st ops.toList.length (m, b) with
    | none => simp only [hgv] at hΦ; exact (hfail hΦ).elim
    | some g =>
      simp only [hgv] at hΦ
      have hG : GuardIs ops st o g := .inr ⟨(m, b), hg, hgv⟩
      cases hov : opVal G T st.bx (opd st) o with
      | some r =>
        obtain ⟨c, v⟩ := r
        simp only [hov] at hΦ
        cases hc : (c || !g) with
        | false => simp only [hc, cond_false] at hΦ; exact (hfail hΦ).elim
        | true =>
          simp only [hc, cond_true] at hΦ
          exact inv_value hE hS hR hI hG hov hc fun σ1 a1 w1 ht hI1 => step _ hΦ σ1 H a1 w1 ht hI1
      | none =>
        simp only [hov] at hΦ
        have hlit := inv_lit hS hR hI hg hgv
        have hw := hG.want hS hR hI
        cases g with
        | true =>
          simp only [cond_true] at hΦ hlit
          cases hop : opEff G T o (setLit ops.toList m b st) with
          | none => simp only [hop] at hΦ; exact (hfail hΦ).elim
          | some r =>
            obtain ⟨c, st'⟩ := r
            simp only [hop] at hΦ
            cases c with
            | false => exact (hfail hΦ).elim
            | true =>
              simp only [cond_true] at hΦ
              refine inv_eff hE hS hR hlit hw (.inr trivial) (.inr ⟨hop, fun c x y ho => ?_⟩) fun σ1 H1 a1 w1 ht hI1 => step st' hΦ σ1 H1 a1 w1 ht hI1
              cases hd : o.dst <;> simp [opEff, ho, hd] at hop
        | false =>
          simp only [cond_false] at hΦ hlit
          refine wpOp_pass hi hw ?_
          refine step _ hΦ σ H _ w (Trans.refl hI.rel.holds) (inv_skip hS hR hlit hw fun C' hC' => ?_)
          have h1 := (hlit.rel.weaken (C' := C') fun k hk => (hC' k hk).1).unput (d := o.dst) (v := undef) (dst_ok hS hi)
          exact h1


theorem execR_seq {Φ : Leaf → Prop} (hfail : ¬ Φ .fail) (hE : Env P T G) (hS : Static N ops) (k : St → Leaf) : ∀ (l : List Oper) (i : Nat) (st : St) (a : Act) (w : World) (σ : Store) (H : Nat → Value),
    ops.toList.drop i = l → Inv ops (· < i) N n0 σ H st a w → Φ (execR G T false ops.toList l st k) →
    ∀ (Q : Exit → Act → World → Prop), (∀ σ' H' st' a' w', Trans n0 σ w σ' w' → Inv ops (fun j => j < ops.toList.length) N n0 σ' H' st' a' w' → Φ (k st') → Q .normal a' w') → wpOps P ops Q (List.range' i l.length) a w
  | [], i, st, a, w, σ, H, hd, hI, hΦ, Q, hQ => by
    have hlen : ops.toList.length ≤ i := by
      have := congrArg List.length hd
      simp at this ⊢; omega
    simp only [List.length_nil, List.range'_zero, wpOps]
    exact hQ σ H st a w (Trans.refl hI.rel.holds) (hI.congr fun j o hj => by have := (List.getElem?_eq_some_iff.1 hj).1; omega) hΦ
  | o :: l, i, st, a, w, σ, H, hd, hI, hΦ, Q, hQ => by
    have hi : ops.toList[i]? = some o := by
      have := congrArg (·[0]?) hd
      simpa using this
    have hd' : ops.toList.drop (i + 1) = l := by
      have := congrArg List.tail hd
      simpa using this
    rw [List.length_cons, List.range'_succ, wpOps_cons]
    refine execR_one hfail hE hS k hi hI hΦ fun st' hΦ' σ1 H1 a1 w1 ht hI1 => ?_
    rw [lt_succ_eq] at hI1
    exact execR_seq hfail hE hS k l (i + 1) st' a1 w1 σ1 H1 hd' hI1 hΦ' Q fun σ2 H2 st2 a2 w2 ht2 hI2 hk => hQ σ2 H2 st2 a2 w2 (ht.trans ht2) hI2 hk

end
end Go.Lift
