/- A part of the proof that the law returns true for every input: no condition. -/
import Derived.Test.YtincaojcmkklbaaE21
set_option linter.unusedSimpArgs false
set_option linter.unusedVariables false
namespace Go.Lift

theorem dsi_spec : ∀ (l : List Oper) (k j : Nat) (o : Oper) (d : Nat), l[j]? = some o → o.dst = some d → (d, k + j, o) ∈ dsi k l
  | [], _, _, _, _, h, _ => by simp at h
  | o' :: r, k, j, o, d, h, hd => by
    simp only [dsi]
    cases j with
    | zero => simp at h; subst h; simp [hd]
    | succ j =>
      have := dsi_spec r (k + 1) j o d (by simpa using h) hd
      rw [show k + (j + 1) = k + 1 + j by omega]
      split
      · exact List.mem_cons_of_mem _ this
      · exact this

theorem drawOpers_spec {all : List Oper} {ds : List (Nat × Nat × Oper)} : ∀ (l : List Oper) (k : Nat), drawOpers all ds k l = true → ∀ (j : Nat) (o : Oper), l[j]? = some o →
    drawOper all ds (k + j) o = true ∧ ∀ e ∈ o.after.toList, Region.binds .any e = true → e.on < k + j
  | [], _, _, _, _, h => by simp at h
  | o' :: r, k, h, j, o, hj => by
    simp only [drawOpers, Bool.and_eq_true] at h
    cases j with
    | zero =>
      simp at hj; subst hj
      refine ⟨h.1.1, fun e he hb => ?_⟩
      have := List.all_eq_true.1 h.1.2 e he
      simp only [hb, Bool.not_true, Bool.false_or] at this
      exact blt_lt this
    | succ j => rw [show k + (j + 1) = k + 1 + j by omega]; exact drawOpers_spec r (k + 1) h.2 j o (by simpa using hj)

theorem hasEdge_spec {o : Oper} {j : Nat} (h : hasEdge o j = true) : ∃ e ∈ o.after.toList, e.on = j ∧ Region.binds .any e = true := by
  simp only [hasEdge, List.any_eq_true, Bool.and_eq_true] at h
  obtain ⟨e, he, h1, h2⟩ := h
  exact ⟨e, he, Nat.eq_of_beq_eq_true h1, h2⟩

structure Drawn (ops : Array Oper) : Prop where
  looks : ∀ (i j : Nat) (o p : Oper) (d : Nat), ops.toList[i]? = some o → ops.toList[j]? = some p → p.dst = some d → d ∈ looksOf ops.toList o → j = i ∨ (j < i ∧ hasEdge o j = true) ∨ (i < j ∧ hasEdge p i = true)
  back : ∀ (i : Nat) (o : Oper) (e : Edge), ops.toList[i]? = some o → e ∈ o.after.toList → Region.binds .any e = true → e.on < i

theorem drawn_of {ops : Array Oper} (h : drawOK ops.toList = true) : Drawn ops := by
  refine ⟨fun i j o p d hi hj hd ht => ?_, fun i o e hi he hb => by simpa using (drawOpers_spec ops.toList 0 h i o hi).2 e he hb⟩
  have h1 := (drawOpers_spec ops.toList 0 h i o hi).1
  have h2 := List.all_eq_true.1 h1 d ht
  have h3 := List.all_eq_true.1 h2 _ (dsi_spec ops.toList 0 j p d hj hd)
  simp only [beq_self, Bool.not_true, Bool.false_or, Bool.or_eq_true, Nat.zero_add] at h3
  rcases h3 with h3 | h3
  · exact .inl (Nat.eq_of_beq_eq_true h3)
  · right
    cases hb : Nat.blt j i with
    | true => rw [hb] at h3; exact .inl ⟨blt_lt hb, h3⟩
    | false =>
      rw [hb] at h3
      by_cases e : j = i
      · subst e; simp only [cond_false] at h3
        obtain ⟨e', he', h4, h5⟩ := hasEdge_spec h3
        have := (drawOpers_spec ops.toList 0 h j p hj).2 e' he' h5
        omega
      · right
        have hge : ¬ j < i := fun hlt => by
          have : Nat.blt j i = true := by simpa [Nat.blt, Nat.lt_iff_add_one_le] using hlt
          rw [this] at hb; simp at hb
        exact ⟨by omega, h3⟩

section
variable {P : Program} {T : Nat → Option Ty} {G : Tbl} {w w' : World} {σ σ' τ : Store} {H H' : Nat → Value} {n0 N : Nat} {ops : Array Oper} {C C' : Nat → Prop}

/-- the state after the operations in D, by what they yield -/
structure SpecSt (ops : Array Oper) (vs : Nat → SV) (D : Nat → Prop) (st0 st : St) : Prop where
  bx : st.bx = st0.bx
  done : ∀ (j : Nat) (o : Oper) (k : Nat), D j → ops.toList[j]? = some o → o.dst = some k → look k st.sl = some (vs j)
  rest : ∀ k, (∀ (j : Nat) (o : Oper), D j → ops.toList[j]? = some o → o.dst ≠ some k) → look k st.sl = look k st0.sl

theorem SpecSt.put (hS : Static N ops) {vs : Nat → SV} {D : Nat → Prop} {st0 st : St} (h : SpecSt ops vs D st0 st) {i : Nat} {o : Oper} (hi : ops.toList[i]? = some o) :
    SpecSt ops vs (fun j => D j ∨ j = i) st0 (st.put o.dst (vs i)) := by
  cases hd : o.dst with
  | none =>
    refine ⟨h.bx, fun j p k hj hp hk => ?_, fun k hk => h.rest k fun j p hj => hk j p (.inl hj)⟩
    rcases hj with hj | rfl
    · exact h.done j p k hj hp hk
    · rw [hi] at hp; simp at hp; subst hp; rw [hd] at hk; simp at hk
  | some d =>
    refine ⟨h.bx, fun j p k hj hp hk => ?_, fun k hk => ?_⟩
    · simp only [St.put, look_ins]
      rcases hj with hj | rfl
      · by_cases e : k = d
        · subst e
          have := hS.inj j i p o k hp hi hk hd
          subst this; simp
        · rw [if_neg e]; exact h.done j p k hj hp hk
      · rw [hi] at hp; simp at hp; subst hp; rw [hd] at hk; simp at hk; subst hk; simp
    · have hne : ¬ k = d := fun e => hk i o (.inr rfl) hi (by rw [hd, e])
      simp only [St.put, look_ins, if_neg hne]
      exact h.rest k fun j p hj => hk j p (.inl hj)

def EdgeClosed (ops : Array Oper) (D : Nat → Prop) : Prop := ∀ (j : Nat) (o : Oper) (e : Edge), D j → ops.toList[j]? = some o → e ∈ o.after.toList → Region.binds .any e = true → D e.on

theorem agree_look (hS : Static N ops) (hW : Drawn ops) {vs : Nat → SV} {D : Nat → Prop} {st0 st st' : St} (h : SpecSt ops vs D st0 st) {i : Nat} {o : Oper} (hi : ops.toList[i]? = some o) (h' : SpecSt ops vs (· < i) st0 st')
    (hD : EdgeClosed ops D) (hready : ∀ e ∈ o.after.toList, Region.binds .any e = true → D e.on) (hiD : ¬ D i) {t : Nat} (ht : t ∈ looksOf ops.toList o) : look t st.sl = look t st'.sl := by
  by_cases hex : ∃ (j : Nat) (p : Oper), ops.toList[j]? = some p ∧ p.dst = some t
  · obtain ⟨j, p, hp, hd⟩ := hex
    have uniq : ∀ (D' : Nat → Prop), ¬ D' j → ∀ (q : Nat) (r : Oper), D' q → ops.toList[q]? = some r → r.dst ≠ some t := by
      intro D' hn q r hq hr e
      have := hS.inj q j r p t hr hp e hd
      subst this; exact hn hq
    rcases hW.looks i j o p t hi hp hd ht with e | ⟨h1, h2⟩ | ⟨h1, h2⟩
    · subst e
      rw [hi] at hp; simp at hp; subst hp
      rw [h.rest t (uniq D hiD), h'.rest t (uniq (· < j) (Nat.lt_irrefl j))]
    · obtain ⟨e, he, h3, h4⟩ := hasEdge_spec h2
      have hj : D j := h3 ▸ hready e he h4
      rw [h.done j p t hj hp hd, h'.done j p t h1 hp hd]
    · obtain ⟨e, he, h3, h4⟩ := hasEdge_spec h2
      by_cases hj : D j
      · have hii : D i := h3 ▸ hD j p e hj hp he h4
        exact (hiD hii).elim
      · rw [h.rest t (uniq D hj), h'.rest t (uniq (· < i) (by omega))]
  · have none : ∀ (D' : Nat → Prop) (q : Nat) (r : Oper), D' q → ops.toList[q]? = some r → r.dst ≠ some t := fun D' q r _ hr e => hex ⟨q, r, hr, e⟩
    rw [h.rest t (none D), h'.rest t (none (· < i))]


theorem look_both {vs : Nat → SV} {D : Nat → Prop} {st0 st st' : St} (h : SpecSt ops vs D st0 st) {i : Nat} (h' : SpecSt ops vs (· < i) st0 st') {q : Nat} {p : Oper} {t : Nat} (hp : ops.toList[q]? = some p) (hd : p.dst = some t)
    (hq : D q) (hlt : q < i) : look t st.sl = look t st'.sl := by
  rw [h.done q p t hq hp hd, h'.done q p t hlt hp hd]

theorem guardVal_agree (hS : Static N ops) (hW : Drawn ops) {vs : Nat → SV} {D : Nat → Prop} {st0 st st' : St} (h : SpecSt ops vs D st0 st) {i : Nat} (h' : SpecSt ops vs (· < i) st0 st') (hD : EdgeClosed ops D) :
    ∀ (n m : Nat) (b : Bool), D m → m < i → guardVal ops.toList st n (m, b) = guardVal ops.toList st' n (m, b)
  | 0, _, _, _, _ => rfl
  | n + 1, m, b, hm, hlt => by
    simp only [guardVal]
    cases hom : ops.toList[m]? with
    | none => rfl
    | some om =>
      simp only [Option.bind_some]
      cases hd : om.dst with
      | none => rfl
      | some d =>
        simp only [Option.bind_some, look_both h h' hom hd hm hlt]
        cases hg : om.guard with
        | none => rfl
        | some mb =>
          obtain ⟨m', b'⟩ := mb
          have hlt' := guard_lt hS hom hg
          have hm' : D m' := by
            have hok := hS.ok m om hom
            simp only [okOper, hg, Bool.and_eq_true] at hok
            have hdst := hok.1.2
            cases hom' : ops.toList[m']? with
            | none => simp [hom'] at hdst
            | some om' =>
              simp only [hom'] at hdst
              obtain ⟨d', hd'⟩ := Option.isSome_iff_exists.1 hdst
              have hlook : d' ∈ looksOf ops.toList om := by
                simp [looksOf, hg, hom', hd']
              rcases hW.looks m m' om om' d' hom hom' hd' hlook with e | ⟨_, h2⟩ | ⟨h1, _⟩
              · omega
              · obtain ⟨e, he, h3, h4⟩ := hasEdge_spec h2
                exact h3 ▸ hD m om e hm hom he h4
              · omega
          simp only [guardVal_agree hS hW h h' hD n m' b' hm' (by omega)]

/-- what the run in the text's order has found -/
structure Found (G : Tbl) (T : Nat → Option Ty) (ops : Array Oper) (vs : Nat → SV) (st0 : St) : Prop where
  op : ∀ (i : Nat) (o : Oper), ops.toList[i]? = some o → ∃ (st : St) (c g : Bool), SpecSt ops vs (· < i) st0 st ∧ GuardIs ops st o g ∧ opVal G T st.bx (opd st) o = some (c, vs i) ∧ (c || !g) = true

theorem tailOK_end {all : List Oper} {i : Nat} (h : all.length ≤ i) : tailOK all i = true := by
  unfold tailOK
  rw [List.drop_eq_nil_of_le h]
  rfl

/-- the run of a drawn region: up to place m it only reads; from there on each operation waits for all before it -/
theorem execR_ro {Φ : Leaf → Prop} (hfail : ¬ Φ .fail) (hS : Static N ops) (k : St → Leaf) {st0 : St} : ∀ (l : List Oper) (i : Nat) (st : St) (vs : Nat → SV), ops.toList.drop i = l → i ≤ ops.toList.length → SpecSt ops vs (· < i) st0 st →
    Φ (execR G T true ops.toList l st k) →
    ∃ (m : Nat) (vs' : Nat → SV) (st' : St), i ≤ m ∧ m ≤ ops.toList.length ∧ tailOK ops.toList m = true ∧ (∀ j, j < i → vs' j = vs j) ∧ SpecSt ops vs' (· < m) st0 st' ∧ Φ (execR G T false ops.toList (ops.toList.drop m) st' k) ∧
      ∀ (j : Nat) (o : Oper), i ≤ j → j < m → ops.toList[j]? = some o → ∃ (st : St) (c g : Bool), SpecSt ops vs' (· < j) st0 st ∧ GuardIs ops st o g ∧ opVal G T st.bx (opd st) o = some (c, vs' j) ∧ (c || !g) = true
  | [], i, st, vs, hd, hle, hsp, hΦ => by
    have hlen : ops.toList.length ≤ i := by
      have := congrArg List.length hd
      simp at this ⊢; omega
    refine ⟨i, vs, st, Nat.le_refl _, hle, tailOK_end hlen, fun _ _ => rfl, hsp, ?_, fun j o hj hj' ho => by omega⟩
    rw [hd]
    simpa [execR] using hΦ
  | o :: l, i, st, vs, hd, hle, hsp, hΦ => by
    have hi : ops.toList[i]? = some o := by
      have := congrArg (·[0]?) hd
      simpa using this
    have hd' : ops.toList.drop (i + 1) = l := by
      have := congrArg List.tail hd
      simpa using this
    have hlt : i < ops.toList.length := (List.getElem?_eq_some_iff.1 hi).1
    have hidx : ops.toList.length - (l.length + 1) = i := by
      have := congrArg List.length hd
      simp at this ⊢; simp at hlt; omega
    have stop : tailOK ops.toList i = true → Φ (execR G T false ops.toList (o :: l) st k) →
        ∃ (m : Nat) (vs' : Nat → SV) (st' : St), i ≤ m ∧ m ≤ ops.toList.length ∧ tailOK ops.toList m = true ∧ (∀ j, j < i → vs' j = vs j) ∧ SpecSt ops vs' (· < m) st0 st' ∧ Φ (execR G T false ops.toList (ops.toList.drop m) st' k) ∧
          ∀ (j : Nat) (o : Oper), i ≤ j → j < m → ops.toList[j]? = some o → ∃ (st : St) (c g : Bool), SpecSt ops vs' (· < j) st0 st ∧ GuardIs ops st o g ∧ opVal G T st.bx (opd st) o = some (c, vs' j) ∧ (c || !g) = true :=
      fun h1 h2 => ⟨i, vs, st, Nat.le_refl _, hle, h1, fun _ _ => rfl, hsp, by rw [hd]; exact h2, fun j o hj hj' ho => by omega⟩
    simp only [execR, hidx] at hΦ
    have main : ∀ (c g : Bool) (v : SV), GuardIs ops st o g → opVal G T st.bx (opd st) o = some (c, v) → (c || !g) = true → Φ (execR G T true ops.toList l (st.put o.dst v) k) →
        ∃ (m : Nat) (vs' : Nat → SV) (st' : St), i ≤ m ∧ m ≤ ops.toList.length ∧ tailOK ops.toList m = true ∧ (∀ j, j < i → vs' j = vs j) ∧ SpecSt ops vs' (· < m) st0 st' ∧ Φ (execR G T false ops.toList (ops.toList.drop m) st' k) ∧
          ∀ (j : Nat) (o : Oper), i ≤ j → j < m → ops.toList[j]? = some o → ∃ (st : St) (c g : Bool), SpecSt ops vs' (· < j) st0 st ∧ GuardIs ops st o g ∧ opVal G T st.bx (opd st) o = some (c, vs' j) ∧ (c || !g) = true := by
      intro c g v hg hov hc hΦ'
      have congrS : ∀ (u u' : Nat → SV) (n : Nat) (s : St), (∀ j, j < n → u' j = u j) → SpecSt ops u (· < n) st0 s → SpecSt ops u' (· < n) st0 s := fun u u' n s he hs =>
        ⟨hs.bx, fun j p k hj hp hk => by rw [he j hj]; exact hs.done j p k hj hp hk, hs.rest⟩
      have hsp1 : SpecSt ops (fun j => if j = i then v else vs j) (· < i) st0 st := congrS vs _ i st (fun j hj => by simp [show ¬ j = i by omega]) hsp
      have hsp2 := hsp1.put hS hi
      simp only [if_pos rfl] at hsp2
      have hsp3 : SpecSt ops (fun j => if j = i then v else vs j) (· < i + 1) st0 (st.put o.dst v) := by
        have := lt_succ_eq i
        rw [this] at hsp2
        exact hsp2
      obtain ⟨m, vs', st', hm1, hm2, hm3, h1, h2, h3, h4⟩ := execR_ro hfail hS k l (i + 1) _ _ hd' hlt hsp3 hΦ'
      have hvi : vs' i = v := by rw [h1 i (by omega)]; simp
      refine ⟨m, vs', st', by omega, hm2, hm3, fun j hj => by rw [h1 j (by omega)]; simp [show ¬ j = i by omega], h2, h3, fun j p hj hjm hp => ?_⟩
      by_cases e : j = i
      · subst e
        rw [hi] at hp; simp at hp; subst hp
        refine ⟨st, c, g, congrS vs vs' j st (fun q hq => by rw [h1 q (by omega)]; simp [show ¬ q = j by omega]) hsp, hg, by rw [hvi]; exact hov, hc⟩
      · exact h4 j p (by omega) hjm hp
    cases hg : o.guard with
    | none =>
      simp only [hg, cond_true, Bool.true_and] at hΦ
      cases hop : opVal G T st.bx (opd st) o with
      | none =>
        simp only [hop, Option.map_none] at hΦ
        cases ht : tailOK ops.toList i with
        | false => rw [ht] at hΦ; exact (hfail hΦ).elim
        | true =>
          rw [ht] at hΦ
          refine stop ht ?_
          simp only [execR, hg, cond_false, Bool.false_and]
          exact hΦ
      | some r =>
        obtain ⟨c, v⟩ := r
        simp only [hop, Option.map_some] at hΦ
        cases c with
        | false => exact (hfail hΦ).elim
        | true => exact main true true v (.inl ⟨hg, rfl⟩) hop rfl hΦ
    | some mb =>
      obtain ⟨m, b⟩ := mb
      simp only [hg] at hΦ
      cases hgv : guardVal ops.toList st ops.toList.length (m, b) with
      | none => simp only [hgv] at hΦ; exact (hfail hΦ).elim
      | some g =>
        simp only [hgv] at hΦ
        cases hov : opVal G T st.bx (opd st) o with
        | none =>
          simp only [hov, Bool.not_true, Bool.false_or] at hΦ
          cases ht : tailOK ops.toList i with
          | false => rw [ht] at hΦ; exact (hfail hΦ).elim
          | true =>
            rw [ht] at hΦ
            refine stop ht ?_
            simp only [execR, hg, hgv, hov, Bool.not_false, Bool.true_or, cond_true]
            simpa using hΦ
        | some r =>
          obtain ⟨c, v⟩ := r
          simp only [hov] at hΦ
          cases hc : (c || !g) with
          | false => simp only [hc, cond_false] at hΦ; exact (hfail hΦ).elim
          | true =>
            simp only [hc, cond_true] at hΦ
            exact main c g v (.inr ⟨(m, b), hg, hgv⟩) hov hc hΦ

theorem ready_mem {listed : Array Bool} {i : Nat} (h : i ∈ Region.ready .any ops listed) : ∃ o, ops.toList[i]? = some o ∧ listed.getD i true = false ∧ ∀ e ∈ o.after.toList, Region.binds .any e = true → listed.getD e.on false = true := by
  unfold Region.ready at h
  simp only [List.mem_filter, List.mem_range, Bool.and_eq_true, Bool.not_eq_true'] at h
  obtain ⟨hlt, h1, h2⟩ := h
  have ho : ops[i]? = some ops[i] := by simp [hlt]
  rw [ho] at h2
  simp only [Option.map_some, Option.getD_some, Array.all_eq_true_iff_forall_mem, Bool.or_eq_true, Bool.not_eq_true'] at h2
  refine ⟨ops[i], by simp [hlt], h1, fun e he hb => ?_⟩
  rcases h2 e (by simpa using he) with h3 | h3
  · rw [hb] at h3; simp at h3
  · exact h3

end
end Go.Lift
