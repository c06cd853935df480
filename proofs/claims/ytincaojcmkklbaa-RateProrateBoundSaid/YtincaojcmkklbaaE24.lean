/- A part of the proof that the law returns true for every input: no condition. -/
import Derived.Test.YtincaojcmkklbaaE23
set_option linter.unusedSimpArgs false
set_option linter.unusedVariables false
namespace Go.Lift

section
variable {P : Program} {T : Nat → Option Ty} {G : Tbl} {w w' : World} {σ σ' τ : Store} {H H' : Nat → Value} {n0 N : Nat} {ops : Array Oper} {C C' : Nat → Prop}

theorem look_unguard : ∀ (l : List Oper) (st : St) (k : Nat), (unguard l st).bx = st.bx ∧ ((∃ (j : Nat) (o : Oper), l[j]? = some o ∧ o.guard ≠ none ∧ o.dst = some k) → look k (unguard l st).sl = none) ∧
    (∀ s, look k (unguard l st).sl = some s → look k st.sl = some s)
  | [], st, k => ⟨rfl, fun ⟨j, o, h, _⟩ => by simp at h, fun s h => h⟩
  | o :: l, st, k => by
    simp only [unguard]
    cases hg : o.guard with
    | none =>
      obtain ⟨h1, h2, h3⟩ := look_unguard l st k
      refine ⟨h1, fun ⟨j, p, hp, hpg, hpd⟩ => ?_, h3⟩
      cases j with
      | zero => simp at hp; subst hp; exact (hpg hg).elim
      | succ j => exact h2 ⟨j, p, by simpa using hp, hpg, hpd⟩
    | some g =>
      obtain ⟨h1, h2, h3⟩ := look_unguard l (st.unput o.dst) k
      have hsub : ∀ s, look k (st.unput o.dst).sl = some s → look k st.sl = some s ∧ o.dst ≠ some k := by
        intro s hs
        cases hd : o.dst with
        | none => rw [hd] at hs; exact ⟨hs, by simp⟩
        | some d =>
          rw [hd] at hs
          simp only [St.unput, look_del] at hs
          split at hs
          · simp at hs
          · rename_i e; exact ⟨hs, fun h => e (by simp at h; exact h.symm)⟩
      refine ⟨h1.trans (by cases o.dst <;> rfl), fun ⟨j, p, hp, hpg, hpd⟩ => ?_, fun s hs => (hsub s (h3 s hs)).1⟩
      cases j with
      | zero =>
        simp at hp; subst hp
        cases hl : look k (unguard l (st.unput o.dst)).sl with
        | none => rfl
        | some s => exact ((hsub s (h3 s hl)).2 hpd).elim
      | succ j => exact h2 ⟨j, p, by simpa using hp, hpg, hpd⟩

theorem inv_end {st : St} {a : Act} (h : Inv ops (fun j => j < ops.toList.length) N n0 σ H st a w) : Rel (fun _ => True) N n0 σ H (unguard ops.toList st) a w := by
  have hl := look_unguard ops.toList st
  have hb := (hl 0).1
  refine ⟨h.rel.holds, h.rel.size, h.rel.defers, h.rel.base, fun k b hk => h.rel.box k b (by rw [← hb]; exact hk), fun k k' b b' g hk hk' => h.rel.apart k k' b b' g (by rw [← hb]; exact hk) (by rw [← hb]; exact hk'), fun k s hk _ => ?_⟩
  rw [hb]
  refine h.rel.slot k s ((hl k).2.2 s hk) fun j o _ ho hd => ?_
  cases hg : o.guard with
  | none => exact want_none hg
  | some g =>
    have := (hl k).2.1 ⟨j, o, ho, by simp [hg], hd⟩
    rw [hk] at this; simp at this

theorem inv_start {st : St} {a : Act} (h : Rel (fun _ => True) N n0 σ H st a w) (D : Nat → Prop) (hD : ∀ j, ¬ D j) : Inv ops D N n0 σ H st a w :=
  ⟨h.weaken fun _ _ => trivial, fun j o k hj => (hD j hj).elim⟩

theorem region_sound {Φ : Leaf → Prop} (hfail : ¬ Φ .fail) (hE : Env P T G) {id : Nat} {draw : Bool} {st : St} {a : Act} {k : St → Leaf} (hI : Rel (fun _ => True) N n0 σ H st a w)
    (hg : (guardsOK N ops.toList && (!draw || drawOK ops.toList)) = true) (hΦ : Φ (execR G T draw ops.toList ops.toList st fun st' => k (unguard ops.toList st'))) {Q : Exit → Act → World → Prop}
    (hQ : ∀ σ' H' st' a' w', Trans n0 σ w σ' w' → Rel (fun _ => True) N n0 σ' H' st' a' w' → Φ (k st') → Q .normal a' w') : (Code.region id ops draw).wp P Q a w := by
  simp only [Bool.and_eq_true, Bool.or_eq_true, Bool.not_eq_true'] at hg
  obtain ⟨hg1, hg2⟩ := hg
  have hS := static_of hg1
  cases draw with
  | false =>
    refine wp_region ?_
    have := execR_seq (Φ := Φ) hfail hE hS (fun st' => k (unguard ops.toList st')) ops.toList 0 st a w σ H rfl (inv_start hI _ fun j => Nat.not_lt_zero j) hΦ Q fun σ' H' st' a' w' ht hI' hk => hQ σ' H' _ a' w' ht (inv_end hI') hk
    rw [List.range_eq_range']
    simpa using this
  | true =>
    have hW := drawn_of (hg2.resolve_left (by simp))
    refine wp_region_any hE.mixed ?_
    have hsp0 : ∀ vs, SpecSt ops vs (· < 0) st st := fun vs => ⟨rfl, fun j o k hj => (Nat.not_lt_zero j hj).elim, fun k _ => rfl⟩
    obtain ⟨m, vs, st', _, hm, htail, _, hsp, hk, hF⟩ := execR_ro (G := G) (T := T) (ops := ops) hfail hS (fun st' => k (unguard ops.toList st')) ops.toList 0 st (fun _ => .nils) rfl (Nat.zero_le _) (hsp0 _) hΦ
    have hm : m ≤ ops.size := by simpa using hm
    have hdom : ∀ i, m ≤ i → ∀ o, ops.toList[i]? = some o → domin ops.toList i o = true := fun i hi o ho => tailOK_spec htail hi ho
    have hI1 := hI.step (step_drew hI.holds)
    have hnone : ∀ j, ¬ Dl (Array.replicate ops.size false) j := by
      intro j
      unfold Dl
      simp [Array.getD, Array.getElem?_replicate]
    refine ro_any hE hS hW (vs := vs) (st0 := st) hm hdom (fun j o hj ho => hF j o (Nat.zero_le _) hj ho) ops.size (Array.replicate ops.size false) a w.drew σ st (by simp) (fun j hj => (hnone j hj).elim) ((hsp0 vs).congr fun j => ⟨fun h => (Nat.not_lt_zero j h).elim, fun h => (hnone j h).elim⟩)
      (inv_start hI1 _ hnone) (fun j o e hj => (hnone j hj).elim) ?_ fun σ' a' w' st2 fuel' listed' ht hsz' hDl' hun' hsp2 hI2 => ?_
    · unfold unl
      exact Nat.le_trans List.countP_le_length (by simp)
    · have hsame := hsp2.same hsp
      have hI3 := hI2.look_congr hsame.1 hsame.2
      exact chain_any hfail hE hS hW (fun st' => k (unguard ops.toList st')) _ m fuel' listed' st' a' w' σ' H rfl hdom hm hsz' hDl' hun' hI3 hk
        fun σ3 H3 st3 a3 w3 ht3 hI4 hk3 => hQ σ3 H3 _ a3 w3 (((step_drew hI.holds).trans' hI.base |>.trans ht).trans ht3) (inv_end hI4) hk3

/-! the way through the code -/
inductive Goes (G : Tbl) (T : Nat → Option Ty) (N : Nat) (rs : List ResultVar) : Leaf → SV → Prop
  | ret (v : SV) : Goes G T N rs (.ret v) v
  | loop (n : Nat) (ks : Nat → List Nat) (body : Code) (k : List Item) (st : St) (r : SV) : Goes G T N rs (run G T N rs ks n (.code body :: .inLoop body :: k) st) r → Goes G T N rs (.loop body k st) r
  | more (n : Nat) (ks : Nat → List Nat) (todo : List Item) (st : St) (r : SV) : Goes G T N rs (run G T N rs ks n todo st) r → Goes G T N rs (.more todo st) r

/-- where a machine stands that a leaf speaks of -/
def Rest (P : Program) (T : Nat → Option Ty) (N n0 : Nat) (rs : List ResultVar) (b : Frame) (cs : List Frame) (m : Machine) (σ : Store) (w : World) : Leaf → Prop
  | .fail => False
  | .ret v => ∃ a w' σ' H st todo, retOf T rs st = some v ∧ Trans n0 σ w σ' w' ∧ Rel (fun _ => True) N n0 σ' H st a w' ∧ Steps P m (lone { b.at a todo with mode := .returning } cs w')
  | .loop body k st => ∃ a w' σ' H, Trans n0 σ w σ' w' ∧ Rel (fun _ => True) N n0 σ' H st a w' ∧ Steps P m (lone (b.at a (.code body :: .inLoop body :: k)) cs w')
  | .more todo st => ∃ a w' σ' H, Trans n0 σ w σ' w' ∧ Rel (fun _ => True) N n0 σ' H st a w' ∧ Steps P m (lone (b.at a todo) cs w')

theorem run_reach {ks : Nat → List Nat} {Φ : Leaf → Prop} (hfail : ¬ Φ .fail) (hE : Env P T G) {rs : List ResultVar} {b : Frame} {cs : List Frame} {m : Machine} {σ0 : Store} {w0 : World} : ∀ (n : Nat) (todo : List Item) (st : St) (a : Act) (w : World) (σ : Store) (H : Nat → Value),
    Trans n0 σ0 w0 σ w → Rel (fun _ => True) N n0 σ H st a w → Steps P m (lone (b.at a todo) cs w) → Φ (run G T N rs ks n todo st) → ∃ L, Φ L ∧ Rest P T N n0 rs b cs m σ0 w0 L
  | 0, todo, st, a, w, σ, H, ht, hR, hs, hΦ => ⟨_, hΦ, a, w, σ, H, ht, hR.keep, hs⟩
  | n + 1, [], st, a, w, σ, H, ht, hR, hs, hΦ => by
    simp only [run, leave] at hΦ
    cases hr : retOf T rs st with
    | none => rw [hr] at hΦ; exact (hfail hΦ).elim
    | some v =>
      rw [hr] at hΦ
      exact ⟨_, hΦ, a, w, σ, H, st, [], hr, ht, hR, hs.trans (.one step_end)⟩
  | n + 1, x :: k, st, a, w, σ, H, ht, hR, hs, hΦ => by
    have ih := run_reach (ks := ks) (Φ := Φ) hfail hE (rs := rs) (b := b) (cs := cs) (m := m) (σ0 := σ0) (w0 := w0) n
    simp only [run] at hΦ
    split at hΦ
    · simp only [leave] at hΦ
      cases hr : retOf T rs st with
      | none => rw [hr] at hΦ; exact (hfail hΦ).elim
      | some v =>
        rw [hr] at hΦ
        exact ⟨_, hΦ, a, w, σ, H, st, _, hr, ht, hR, hs.trans (.one step_ret)⟩
    · exact ih k st a w σ H ht hR (hs.trans (.one step_skip)) hΦ
    · exact ih k st a w σ H ht hR (hs.trans (.one step_inBlock)) hΦ
    · exact ih _ st a w σ H ht hR (hs.trans (.one step_seq)) hΦ
    · rename_i c x y
      split at hΦ
      · rename_i t hc
        have hv := svr_bool (hR.opd (fun _ _ => trivial) hc)
        cases t with
        | true => simp only [cond_true] at hΦ; exact ih _ st a w σ H ht hR (hs.trans (.one (step_cond hv))) hΦ
        | false => simp only [cond_false] at hΦ; exact ih _ st a w σ H ht hR (hs.trans (.one (step_cond hv))) hΦ
      · exact (hfail hΦ).elim
    · exact ih _ st a w σ H ht hR (hs.trans (.one step_block)) hΦ
    · exact ⟨_, hΦ, a, w, σ, H, ht, hR.keep, hs.trans (.one step_loop)⟩
    · exact ⟨_, hΦ, a, w, σ, H, ht, hR.keep, hs.trans (.one step_inLoop)⟩
    · split at hΦ
      · rename_i k' hk'
        exact ih k' st a w σ H ht hR (hs.trans (.one (step_exit hk'))) hΦ
      · exact (hfail hΦ).elim
    · rename_i id ops draw
      cases hg : guardsOK N ops.toList && (!draw || drawOK ops.toList) with
      | false => rw [hg] at hΦ; exact (hfail hΦ).elim
      | true =>
        rw [hg] at hΦ
        simp only [cond_true] at hΦ
        have hw := region_sound (Φ := Φ) hfail hE (id := id) (k := fun st' => run G T N rs ks n k st') hR hg hΦ
          (Q := fun e a' w' => e = .normal ∧ ∃ σ' H' st', Trans n0 σ w σ' w' ∧ Rel (fun _ => True) N n0 σ' H' st' a' w' ∧ Φ (run G T N rs ks n k st')) fun σ' H' st' a' w' h1 h2 h3 => ⟨rfl, σ', H', st', h1, h2, h3⟩
        obtain ⟨e, a', w', ⟨he, σ', H', st', h1, h2, h3⟩, harr⟩ := hw b k cs
        subst he
        exact ih k st' a' w' σ' H' (ht.trans h1) h2 (hs.trans harr) h3
    · exact (hfail hΦ).elim

end
end Go.Lift
