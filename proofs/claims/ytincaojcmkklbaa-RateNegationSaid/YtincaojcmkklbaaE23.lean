/- A part of the proof that the law returns true for every input: no condition. -/
import Derived.Test.YtincaojcmkklbaaE22
set_option linter.unusedSimpArgs false
set_option linter.unusedVariables false
namespace Go.Lift

theorem cnt_lt {p q : Nat → Bool} (h : ∀ x, q x = true → p x = true) : ∀ (l : List Nat), (∃ x ∈ l, p x = true ∧ q x = false) → l.countP q < l.countP p
  | [], ⟨x, hx, _⟩ => by simp at hx
  | a :: l, ⟨x, hx, h1, h2⟩ => by
    have hle : l.countP q ≤ l.countP p := List.countP_mono_left fun y _ hy => h y hy
    simp only [List.countP_cons]
    rcases List.mem_cons.1 hx with rfl | hx
    · simp only [h1, h2]; simp; omega
    · have := cnt_lt h l ⟨x, hx, h1, h2⟩
      cases hq : q a with
      | false => simp; omega
      | true => simp [h a hq]; omega

section
variable {P : Program} {T : Nat → Option Ty} {G : Tbl} {w w' : World} {σ σ' τ : Store} {H H' : Nat → Value} {n0 N : Nat} {ops : Array Oper} {C C' : Nat → Prop}

def Dl (listed : Array Bool) (j : Nat) : Prop := listed.getD j false = true
def unl (n : Nat) (listed : Array Bool) : Nat := (List.range n).countP fun j => !listed.getD j false

theorem Dl_set {listed : Array Bool} {i : Nat} (hi : i < listed.size) (j : Nat) : Dl (listed.setIfInBounds i true) j ↔ (Dl listed j ∨ j = i) := by
  unfold Dl
  simp only [Array.getD_eq_getD_getElem?, Array.getElem?_setIfInBounds]
  by_cases e : i = j
  · subst e; simp [hi]
  · simp [e, Ne.symm e]

theorem Rel.look_congr {st st' : St} {a : Act} (h : Rel C N n0 σ H st a w) (hb : st'.bx = st.bx) (hl : ∀ k, look k st'.sl = look k st.sl) : Rel C N n0 σ H st' a w := by
  refine ⟨h.holds, h.size, h.defers, h.base, fun k b hk => h.box k b (by rw [← hb]; exact hk), fun k k' b b' g hk hk' => h.apart k k' b b' g (by rw [← hb]; exact hk) (by rw [← hb]; exact hk'), fun k s hk hc => ?_⟩
  rw [hb]; exact h.slot k s (by rw [← hl]; exact hk) hc

theorem Inv.look_congr {D : Nat → Prop} {st st' : St} {a : Act} (h : Inv ops D N n0 σ H st a w) (hb : st'.bx = st.bx) (hl : ∀ k, look k st'.sl = look k st.sl) : Inv ops D N n0 σ H st' a w :=
  ⟨h.rel.look_congr hb hl, h.skip⟩

theorem SpecSt.same {vs : Nat → SV} {D : Nat → Prop} {st0 st st' : St} (h : SpecSt ops vs D st0 st) (h' : SpecSt ops vs D st0 st') : st'.bx = st.bx ∧ ∀ k, look k st'.sl = look k st.sl := by
  refine ⟨h'.bx.trans h.bx.symm, fun k => ?_⟩
  by_cases hex : ∃ (j : Nat) (o : Oper), D j ∧ ops.toList[j]? = some o ∧ o.dst = some k
  · obtain ⟨j, o, hj, ho, hd⟩ := hex
    rw [h.done j o k hj ho hd, h'.done j o k hj ho hd]
  · have : ∀ (j : Nat) (o : Oper), D j → ops.toList[j]? = some o → o.dst ≠ some k := fun j o hj ho hd => hex ⟨j, o, hj, ho, hd⟩
    rw [h.rest k this, h'.rest k this]

theorem SpecSt.congr {vs : Nat → SV} {D D' : Nat → Prop} {st0 st : St} (h : SpecSt ops vs D st0 st) (hd : ∀ j, D j ↔ D' j) : SpecSt ops vs D' st0 st :=
  ⟨h.bx, fun j o k hj => h.done j o k ((hd j).2 hj), fun k hk => h.rest k fun j o hj => hk j o ((hd j).1 hj)⟩

theorem ready_nil (hW : Drawn ops) {listed : Array Bool} (hsz : listed.size = ops.size) (h : Region.ready .any ops listed = []) : ∀ j, j < ops.size → Dl listed j := by
  intro j
  induction j using Nat.strongRecOn with
  | _ j ih =>
    intro hj
    cases hl : listed.getD j false with
    | true => exact hl
    | false =>
      exfalso
      have hmem : j ∈ Region.ready .any ops listed := by
        unfold Region.ready
        simp only [List.mem_filter, List.mem_range, Bool.and_eq_true, Bool.not_eq_true']
        refine ⟨hj, ?_, ?_⟩
        · simp [Array.getD, hsz, hj] at hl ⊢; exact hl
        · have ho : ops[j]? = some ops[j] := by simp [hj]
          rw [ho]
          simp only [Option.map_some, Option.getD_some, Array.all_eq_true_iff_forall_mem, Bool.or_eq_true, Bool.not_eq_true']
          intro e he
          cases hb : Region.binds .any e with
          | false => left; rfl
          | true =>
            right
            have hlt := hW.back j ops[j] e (by simp [hj]) (by simpa using he) hb
            exact ih e.on hlt (by omega)
      rw [h] at hmem
      simp at hmem

theorem unl_zero {listed : Array Bool} (h : unl ops.size listed = 0) : ∀ j, j < ops.size → Dl listed j := by
  intro j hj
  have := List.countP_eq_zero.1 h j (List.mem_range.2 hj)
  simpa [Dl] using this

theorem ready_of_all {listed : Array Bool} (hsz : listed.size = ops.size) (h : ∀ j, j < ops.size → Dl listed j) : Region.ready .any ops listed = [] := by
  unfold Region.ready
  rw [List.filter_eq_nil_iff]
  intro j hj
  have hj := List.mem_range.1 hj
  have := h j hj
  simp [Dl, Array.getD, hsz, hj] at this
  simp [Array.getD, hsz, hj, this]

theorem domin_spec {i : Nat} {o : Oper} (h : domin ops.toList i o = true) {D : Nat → Prop} (hcl : EdgeClosed ops D) (hed : ∀ e ∈ o.after.toList, Region.binds .any e = true → D e.on) : ∀ j, j < i → D j := by
  have key : ∀ n j, i - j = n → j < i → D j := by
    intro n
    induction n using Nat.strongRecOn with
    | _ n ih =>
      intro j hn hj
      unfold domin at h
      have hj' := List.all_eq_true.1 h j (List.mem_range.2 hj)
      simp only [Bool.or_eq_true] at hj'
      rcases hj' with hj' | hj'
      · obtain ⟨e, he, h1, h2⟩ := hasEdge_spec hj'
        exact h1 ▸ hed e he h2
      · obtain ⟨k, hk, hk2⟩ := List.any_eq_true.1 hj'
        have hk := List.mem_range.1 hk
        simp only [Bool.and_eq_true] at hk2
        obtain ⟨hjk, hk3⟩ := hk2
        have hjk := blt_lt hjk
        have hDk := ih (i - k) (by omega) k rfl hk
        cases hp : ops.toList[k]? with
        | none => rw [hp] at hk3; simp at hk3
        | some p =>
          rw [hp] at hk3
          obtain ⟨e, he, h1, h2⟩ := hasEdge_spec hk3
          exact h1 ▸ hcl k p e hDk hp he h2
  exact fun j hj => key _ j rfl hj

theorem tailGo_spec {all : List Oper} : ∀ (l : List Oper) (m : Nat), tailGo all m l = true → ∀ (j : Nat) (o : Oper), l[j]? = some o → domin all (m + j) o = true
  | [], _, _, _, _, h => by simp at h
  | p :: l, m, h, j, o, hj => by
    simp only [tailGo, Bool.and_eq_true] at h
    cases j with
    | zero => simp at hj; subst hj; exact h.1
    | succ j =>
      have := tailGo_spec l (m + 1) h.2 j o (by simpa using hj)
      rw [show m + (j + 1) = m + 1 + j by omega]; exact this

theorem tailOK_spec {m : Nat} (h : tailOK ops.toList m = true) {i : Nat} {o : Oper} (hm : m ≤ i) (hi : ops.toList[i]? = some o) : domin ops.toList i o = true := by
  have := tailGo_spec _ m h (i - m) o (by rw [List.getElem?_drop, show m + (i - m) = i by omega]; exact hi)
  rwa [show m + (i - m) = i by omega] at this

theorem notD {listed : Array Bool} (hsz : listed.size = ops.size) {i : Nat} {o : Oper} (ho : ops.toList[i]? = some o) (hl : listed.getD i true = false) : i < ops.size ∧ ¬ Dl listed i := by
  have hilt : i < ops.size := by have := (List.getElem?_eq_some_iff.1 ho).1; simpa using this
  refine ⟨hilt, ?_⟩
  unfold Dl
  simp [Array.getD, hsz, hilt] at hl ⊢
  exact hl

theorem unl_set {listed : Array Bool} {i : Nat} (hilt : i < ops.size) (hsz : listed.size = ops.size) (hnD : ¬ Dl listed i) : unl ops.size (listed.setIfInBounds i true) < unl ops.size listed := by
  have hset := Dl_set (listed := listed) (i := i) (by omega)
  refine cnt_lt (fun x hx => ?_) _ ⟨i, List.mem_range.2 hilt, ?_, ?_⟩
  · cases hxl : listed.getD x false with
    | false => rfl
    | true =>
      have := (hset x).2 (.inl hxl)
      unfold Dl at this
      rw [this] at hx; simp at hx
  · unfold Dl at hnD; simpa using hnD
  · have := (hset i).2 (.inr rfl)
    unfold Dl at this
    simp [this]

/-- from place i on the draw has no choice -/
theorem chain_any {Φ : Leaf → Prop} (hfail : ¬ Φ .fail) (hE : Env P T G) (hS : Static N ops) (hW : Drawn ops) (k : St → Leaf) {Q : Exit → Act → World → Prop} : ∀ (l : List Oper) (i : Nat) (fuel : Nat) (listed : Array Bool) (st : St) (a : Act) (w : World) (σ : Store) (H : Nat → Value),
    ops.toList.drop i = l → (∀ m, i ≤ m → ∀ o, ops.toList[m]? = some o → domin ops.toList m o = true) → i ≤ ops.size → listed.size = ops.size → (∀ j, Dl listed j ↔ j < i) → unl ops.size listed ≤ fuel → Inv ops (· < i) N n0 σ H st a w → Φ (execR G T false ops.toList l st k) →
    (∀ σ' H' st' a' w', Trans n0 σ w σ' w' → Inv ops (fun j => j < ops.toList.length) N n0 σ' H' st' a' w' → Φ (k st') → Q .normal a' w') → wpAny P .any ops Q fuel listed a w
  | [], i, fuel, listed, st, a, w, σ, H, hd, hdom, hle, hsz, hDl, hun, hI, hΦ, hQ => by
    have hlen : ops.toList.length ≤ i := by
      have := congrArg List.length hd
      simp at this ⊢; omega
    have hall : ∀ j, j < ops.size → Dl listed j := fun j hj => (hDl j).2 (by simp at hlen; omega)
    have hq : Q .normal a w := hQ σ H st a w (Trans.refl hI.rel.holds) (hI.congr fun j o hj => by have := (List.getElem?_eq_some_iff.1 hj).1; omega) (by simpa [execR] using hΦ)
    cases fuel with
    | zero => exact ⟨ready_of_all hsz hall, hq⟩
    | succ fuel => exact ⟨fun _ => hq, fun i' hi' => by rw [ready_of_all hsz hall] at hi'; simp at hi'⟩
  | o :: l, i, fuel, listed, st, a, w, σ, H, hd, hdom, hle, hsz, hDl, hun, hI, hΦ, hQ => by
    have hi : ops.toList[i]? = some o := by
      have := congrArg (·[0]?) hd
      simpa using this
    have hd' : ops.toList.drop (i + 1) = l := by
      have := congrArg List.tail hd
      simpa using this
    have hilt : i < ops.size := by have := (List.getElem?_eq_some_iff.1 hi).1; simpa using this
    have hnDi : ¬ Dl listed i := fun h => by have := (hDl i).1 h; omega
    cases fuel with
    | zero => exact (hnDi (unl_zero (ops := ops) (Nat.le_zero.1 hun) i hilt)).elim
    | succ fuel =>
      have hcl : EdgeClosed ops (Dl listed) := fun j p e hj hp he hb => (hDl e.on).2 (by have := hW.back j p e hp he hb; have := (hDl j).1 hj; omega)
      refine ⟨fun hnil => (hnDi (ready_nil hW hsz hnil i hilt)).elim, fun i' hi' => ?_⟩
      obtain ⟨o', ho', hl', hed⟩ := ready_mem hi'
      obtain ⟨hilt', hnD'⟩ := notD hsz ho' hl'
      have hge : i ≤ i' := Nat.le_of_not_lt fun h => hnD' ((hDl i').2 h)
      have hle' : i' ≤ i := Nat.le_of_not_lt fun h => hnDi (domin_spec (hdom i' hge o' ho') hcl hed i h)
      obtain rfl : i' = i := Nat.le_antisymm hle' hge
      refine execR_one hfail hE hS k hi hI hΦ fun st' hΦ' σ1 H1 a1 w1 ht hI1 => ?_
      rw [lt_succ_eq] at hI1
      have hset := Dl_set (listed := listed) (i := i') (by omega)
      exact chain_any hfail hE hS hW k l (i' + 1) fuel (listed.setIfInBounds i' true) st' a1 w1 σ1 H1 hd' (fun m hm => hdom m (by omega)) (by omega) (by simpa using hsz)
        (fun j => by rw [hset j, hDl j]; omega) (by have := unl_set (ops := ops) hilt hsz hnDi; omega) hI1 hΦ' fun σ2 H2 st2 a2 w2 ht2 hI2 hk => hQ σ2 H2 st2 a2 w2 (ht.trans ht2) hI2 hk

theorem ro_any (hE : Env P T G) (hS : Static N ops) (hW : Drawn ops) {vs : Nat → SV} {st0 : St} {m : Nat} (hm : m ≤ ops.size) (hdom : ∀ i, m ≤ i → ∀ o, ops.toList[i]? = some o → domin ops.toList i o = true)
    (hF : ∀ (j : Nat) (o : Oper), j < m → ops.toList[j]? = some o → ∃ (st : St) (c g : Bool), SpecSt ops vs (· < j) st0 st ∧ GuardIs ops st o g ∧ opVal G T st.bx (opd st) o = some (c, vs j) ∧ (c || !g) = true)
    {Q : Exit → Act → World → Prop} : ∀ (fuel : Nat) (listed : Array Bool) (a : Act) (w : World) (σ : Store) (st : St), listed.size = ops.size → (∀ j, Dl listed j → j < m) → SpecSt ops vs (Dl listed) st0 st → Inv ops (Dl listed) N n0 σ H st a w → EdgeClosed ops (Dl listed) →
    unl ops.size listed ≤ fuel → (∀ σ' a' w' st' fuel' listed', Trans n0 σ w σ' w' → listed'.size = ops.size → (∀ j, Dl listed' j ↔ j < m) → unl ops.size listed' ≤ fuel' → SpecSt ops vs (· < m) st0 st' → Inv ops (· < m) N n0 σ' H st' a' w' → wpAny P .any ops Q fuel' listed' a' w') → wpAny P .any ops Q fuel listed a w := by
  intro fuel
  induction fuel with
  | zero =>
    intro listed a w σ st hsz hlm hsp hI hcl hun hQ
    have hall := unl_zero (ops := ops) (Nat.le_zero.1 hun)
    have hiff : ∀ j, Dl listed j ↔ j < m := fun j => ⟨hlm j, fun h => hall j (by omega)⟩
    exact hQ σ a w st 0 listed (Trans.refl hI.rel.holds) hsz hiff hun (hsp.congr hiff) (hI.congr fun j o _ => hiff j)
  | succ fuel ih =>
    intro listed a w σ st hsz hlm hsp hI hcl hun hQ
    by_cases hall : ∀ j, j < m → Dl listed j
    · have hiff : ∀ j, Dl listed j ↔ j < m := fun j => ⟨hlm j, hall j⟩
      exact hQ σ a w st (fuel + 1) listed (Trans.refl hI.rel.holds) hsz hiff hun (hsp.congr hiff) (hI.congr fun j o _ => hiff j)
    refine ⟨fun hnil => ?_, fun i hi => ?_⟩
    · exact (hall fun j hj => ready_nil hW hsz hnil j (by omega)).elim
    · obtain ⟨o, ho, hl, hed⟩ := ready_mem hi
      obtain ⟨hilt, hnD⟩ := notD hsz ho hl
      have him : i < m := Nat.lt_of_not_le fun h => hall fun j hj => domin_spec (hdom i h o ho) hcl hed j (by omega)
      have hR : Ready ops (Dl listed) i o := by
        have hgd : ∀ (j : Nat) (p : Oper) (m : Nat) (b : Bool), ops.toList[j]? = some p → p.guard = some (m, b) → (∀ e ∈ p.after.toList, Region.binds .any e = true → Dl listed e.on) → Dl listed m := by
          intro j p m b hp hg hedge
          have hlt := guard_lt hS hp hg
          have hok := hS.ok j p hp
          simp only [okOper, hg, Bool.and_eq_true] at hok
          have hdst := hok.1.2
          cases hom' : ops.toList[m]? with
          | none => simp [hom'] at hdst
          | some om' =>
            simp only [hom'] at hdst
            obtain ⟨d', hd'⟩ := Option.isSome_iff_exists.1 hdst
            have hlook : d' ∈ looksOf ops.toList p := by simp [looksOf, hg, hom', hd']
            rcases hW.looks j m p om' d' hp hom' hd' hlook with e | ⟨_, h2⟩ | ⟨h1, _⟩
            · omega
            · obtain ⟨e, he, h3, h4⟩ := hasEdge_spec h2
              exact h3 ▸ hedge e he h4
            · omega
        exact ⟨ho, hnD, fun m b hg => hgd i o m b ho hg hed, fun j p m b hj hp hg => hgd j p m b hp hg fun e he hb => hcl j p e hj hp he hb⟩
      obtain ⟨sti, c, g, hspi, hg, hov, hc⟩ := hF i o him ho
      have hlook : ∀ t, t ∈ looksOf ops.toList o → look t st.sl = look t sti.sl := fun t ht => agree_look hS hW hsp ho hspi hcl hed hnD ht
      have hov' : opVal G T st.bx (opd st) o = some (c, vs i) := by
        rw [hsp.bx, ← hspi.bx, ← hov]
        refine opVal_congr fun x hx => ?_
        cases x with
        | tmp t => exact hlook t (List.mem_append_left _ (tmps_mem hx))
        | _ => rfl
      have hg' : GuardIs ops st o g := by
        rcases hg with h1 | ⟨⟨m, b⟩, h1, h2⟩
        · exact .inl h1
        · refine .inr ⟨(m, b), h1, ?_⟩
          rw [guardVal_agree hS hW hsp hspi hcl _ m b (hR.guard m b h1) (guard_lt hS ho h1)]
          exact h2
      refine inv_value hE hS hR hI hg' hov' hc fun σ1 a1 w1 ht hI1 => ?_
      have hset := Dl_set (listed := listed) (i := i) (by omega)
      refine ih (listed.setIfInBounds i true) a1 w1 σ1 (st.put o.dst (vs i)) (by simpa using hsz) (fun j hj => ?_) ((hsp.put hS ho).congr fun j => (hset j).symm) (hI1.congr fun j o _ => (hset j).symm) ?_ ?_ fun σ2 a2 w2 st2 f2 l2 ht2 => hQ σ2 a2 w2 st2 f2 l2 (ht.trans ht2)
      · rcases (hset j).1 hj with hj | rfl
        · exact hlm j hj
        · exact him
      · intro j p e hj hp he hb
        rcases (hset j).1 hj with hj | rfl
        · exact (hset e.on).2 (.inl (hcl j p e hj hp he hb))
        · rw [ho] at hp; simp at hp; subst hp
          exact (hset e.on).2 (.inl (hed e he hb))
      · have := unl_set (ops := ops) hilt hsz hnD
        omega

end
end Go.Lift
