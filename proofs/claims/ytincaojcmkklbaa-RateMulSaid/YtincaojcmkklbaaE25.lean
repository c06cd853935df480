/- A part of the proof that the law returns true for every input: no condition. -/
import Derived.Test.YtincaojcmkklbaaE24
set_option linter.unusedSimpArgs false
set_option linter.unusedVariables false
namespace Go.Lift

section
variable {P : Program} {T : Nat → Option Ty} {G : Tbl} {w w' : World} {σ σ' τ : Store} {H H' : Nat → Value} {n0 N : Nat} {ops : Array Oper} {C C' : Nat → Prop}

/-- what is read when a frame is left -/
def Final (P : Program) (T : Nat → Option Ty) (N n0 : Nat) (rs : List ResultVar) (b : Frame) (cs : List Frame) (m : Machine) (σ : Store) (w : World) (r : SV) : Prop :=
  ∃ a w' σ' H st todo, retOf T rs st = some r ∧ Trans n0 σ w σ' w' ∧ Rel (fun _ => True) N n0 σ' H st a w' ∧ Steps P m (lone { b.at a todo with mode := .returning } cs w')

theorem goes_sound (hE : Env P T G) {rs : List ResultVar} {L : Leaf} {r : SV} (h : Goes G T N rs L r) : ∀ {b : Frame} {cs : List Frame} {m : Machine} {σ0 : Store} {w0 : World}, Rest P T N n0 rs b cs m σ0 w0 L → Final P T N n0 rs b cs m σ0 w0 r := by
  have hfail : ∀ r, ¬ Goes G T N rs .fail r := by intro r h; cases h
  induction h with
  | ret v => intro b cs m σ0 w0 h; exact h
  | loop n ks body k st r hg ih =>
    intro b cs m σ0 w0 ⟨a, w, σ, H, ht, hR, hs⟩
    obtain ⟨L, ⟨_, hL⟩, hrest⟩ := run_reach (ks := ks) (Φ := fun L => Goes G T N rs L r ∧ ∀ {b : Frame} {cs : List Frame} {m : Machine} {σ0 : Store} {w0 : World}, Rest P T N n0 rs b cs m σ0 w0 L → Final P T N n0 rs b cs m σ0 w0 r)
      (fun h => hfail r h.1) hE n _ _ a w σ H ht hR hs ⟨hg, ih⟩
    exact hL hrest
  | more n ks todo st r hg ih =>
    intro b cs m σ0 w0 ⟨a, w, σ, H, ht, hR, hs⟩
    obtain ⟨L, ⟨_, hL⟩, hrest⟩ := run_reach (ks := ks) (Φ := fun L => Goes G T N rs L r ∧ ∀ {b : Frame} {cs : List Frame} {m : Machine} {σ0 : Store} {w0 : World}, Rest P T N n0 rs b cs m σ0 w0 L → Final P T N n0 rs b cs m σ0 w0 r)
      (fun h => hfail r h.1) hE n _ _ a w σ H ht hR hs ⟨hg, ih⟩
    exact hL hrest


/-! results -/
def resRun (tmps : Array Value) : ResultVar → Sem Value
  | .tmp t => pure (tmps.getD t undef)
  | .cell a t => do loadVar t (← asAddr (tmps.getD a undef))

theorem results_eq (fn : Func) (tmps : Array Value) : results fn tmps = (do
    let vs ← fn.results.mapM (resRun tmps)
    pure (if h : vs.size = 1 then vs[0] else .tuple vs)) := by
  unfold results
  have : (fun (r : ResultVar) => (match r with | .tmp t => pure (tmps.getD t undef) | .cell a t => do loadVar t (← asAddr (tmps.getD a undef)) : Sem Value)) = resRun tmps := by
    funext r; cases r <;> rfl
  rw [← this]
  rfl

def Ret1 (σ : Store) (w : World) (n0 : Nat) (H : Nat → Value) (st : St) (rv : ResultVar) (v : Value) : SV → Prop
  | .tv d => RelV σ d v
  | .own t l => ∃ b tm, rv = .tmp tm ∧ look tm st.sl = some (.ref b) ∧ look b st.bx = some (.vec t l) ∧ v = H b
  | _ => False

theorem ret_one (hE : Env P T G) {st : St} {a : Act} (h : Rel (fun _ => True) N n0 σ H st a w) {rv : ResultVar} {s : SV} (hr : retOne T st rv = some s) :
    ∃ v, (resRun a.tmps rv).run P w = .ok v w ∧ Ret1 σ w n0 H st rv v s := by
  cases rv with
  | tmp t =>
    simp only [retOne, Option.bind_eq_some_iff] at hr
    obtain ⟨sv, hsv, hr⟩ := hr
    have hs := h.slot t sv hsv trivial
    refine ⟨a.tmps.getD t undef, rfl, ?_⟩
    split at hr
    · rename_i b
      split at hr
      · rename_i e l hb
        simp at hr; subst hr
        obtain ⟨_, _, _, h2⟩ := hs
        exact ⟨b, t, rfl, hsv, hb, h2⟩
      · simp at hr
    · simp at hr; subst hr; exact hs
    · simp at hr
  | cell ad t =>
    simp only [retOne, Option.bind_eq_some_iff] at hr
    obtain ⟨ty, hty, sv, hsv, hr⟩ := hr
    have hs := h.slot ad sv hsv trivial
    split at hr
    · rename_i b
      split at hr
      · rename_i d hb
        simp only [Option.map_eq_some_iff] at hr
        obtain ⟨x, hx, rfl⟩ := hr
        have := TD.as_eq hx; subst this
        obtain ⟨d0, e, g, h1, h2, h3, h4⟩ := hs
        rw [hb] at h1; simp at h1; subst h1
        obtain ⟨g', cs, cty, k1, k2, k3, _⟩ := h.box b _ hb
        rw [h3] at k1; simp at k1; subst k1
        have hat : At w ⟨g, 0, none⟩ cs.toList := at_row k2 (p := []) (r := []) (by simp) rfl
        obtain ⟨v, hv1, hv2⟩ := run_loadAt (P := P) (σ := σ) (hE.types _ _ hty) hat k3
        have hv1' : (loadVar t ⟨g, 0, none⟩).run P w = .ok v w := by simpa [Instr.loadAt, Instr.sureAddr] using hv1
        refine ⟨v, ?_, hv2⟩
        have h4' : a.tmps.getD ad undef = .pointer (some ⟨g, 0, none⟩) := by rw [h4]; rfl
        show (do loadVar t (← asAddr (a.tmps.getD ad undef)) : Sem Value).run P w = _
        rw [h4']
        simp only [Sem.run_bind, asAddr, Sem.run_pure, Result.andThen_ok, hv1']
      · simp at hr
    · simp at hr

theorem ret_all (hE : Env P T G) {st : St} {a : Act} (h : Rel (fun _ => True) N n0 σ H st a w) : ∀ {rs : List ResultVar} {l : List SV}, mapO (retOne T st) rs = some l →
    ∃ vs : List Value, (rs.mapM (resRun a.tmps)).run P w = .ok vs w ∧ vs.length = l.length ∧ ∀ (i : Nat) (s : SV) (u : Value), l[i]? = some s → vs[i]? = some u → ∃ rv, rs[i]? = some rv ∧ Ret1 σ w n0 H st rv u s
  | [], l, hm => by
    simp [mapO] at hm; subst hm
    exact ⟨[], by simp, rfl, fun i s u hs => by simp at hs⟩
  | rv :: rs, l, hm => by
    simp only [mapO, Option.bind_eq_some_iff] at hm
    obtain ⟨s, hs, l', hl', hm⟩ := hm
    simp at hm; subst hm
    obtain ⟨v, h1, h2⟩ := ret_one hE h hs
    obtain ⟨vs, g1, g2, g3⟩ := ret_all hE h hl'
    refine ⟨v :: vs, by simp [List.mapM_cons, h1, g1], by simp [g2], fun i s' u hs' hu => ?_⟩
    cases i with
    | zero => simp at hs' hu; subst hs'; subst hu; exact ⟨rv, rfl, h2⟩
    | succ i => simpa using g3 i s' u (by simpa using hs') (by simpa using hu)

theorem retBoxes_inj {st : St} : ∀ {rs : List ResultVar}, (retBoxes st rs).Nodup → ∀ (i j : Nat) (t t' b : Nat), rs[i]? = some (.tmp t) → rs[j]? = some (.tmp t') → look t st.sl = some (.ref b) → look t' st.sl = some (.ref b) → i = j
  | [], _, _, _, _, _, _, h, _, _, _ => by simp at h
  | rv :: rs, hn, i, j, t, t', b, hi, hj, ht, ht' => by
    have mem : ∀ (k tm : Nat), rs[k]? = some (.tmp tm) → look tm st.sl = some (.ref b) → b ∈ retBoxes st rs := by
      clear hn hi hj ht ht'
      induction rs with
      | nil => intro k tm h; simp at h
      | cons r0 rs ih =>
        intro k tm hk hl
        cases k with
        | zero => simp at hk; subst hk; simp [retBoxes, hl]
        | succ k =>
          have := ih k tm (by simpa using hk) hl
          cases r0 with
          | tmp t0 =>
            simp only [retBoxes]
            split
            · exact List.mem_cons_of_mem _ this
            · exact this
          | cell _ _ => simpa [retBoxes] using this
    have tl : (retBoxes st rs).Nodup := by
      cases rv with
      | tmp t0 =>
        simp only [retBoxes] at hn
        split at hn
        · exact (List.nodup_cons.1 hn).2
        · exact hn
      | cell _ _ => simpa [retBoxes] using hn
    cases i with
    | zero =>
      simp at hi; subst hi
      cases j with
      | zero => rfl
      | succ j =>
        simp only [retBoxes, ht] at hn
        exact ((List.nodup_cons.1 hn).1 (mem j t' (by simpa using hj) ht')).elim
    | succ i =>
      cases j with
      | zero =>
        simp at hj; subst hj
        simp only [retBoxes, ht'] at hn
        exact ((List.nodup_cons.1 hn).1 (mem i t (by simpa using hi) ht)).elim
      | succ j => exact congrArg (· + 1) (retBoxes_inj tl i j t t' b (by simpa using hi) (by simpa using hj) ht ht')

theorem run_results (hE : Env P T G) {fn : Func} {st : St} {a : Act} (h : Rel (fun _ => True) N n0 σ H st a w) {r : SV} (hr : retOf T fn.results.toList st = some r) :
    ∃ v, (results fn a.tmps).run P w = .ok v w ∧ RetR σ w n0 r v := by
  rw [results_eq]
  have key : ∀ (l : List SV), mapO (retOne T st) fn.results.toList = some l → ∃ vs : List Value, (fn.results.mapM (resRun a.tmps)).run P w = .ok vs.toArray w ∧ vs.length = l.length ∧
      ∀ (i : Nat) (s : SV) (u : Value), l[i]? = some s → vs[i]? = some u → ∃ rv, fn.results.toList[i]? = some rv ∧ Ret1 σ w n0 H st rv u s := by
    intro l hl
    obtain ⟨vs, h1, h2, h3⟩ := ret_all hE h hl
    exact ⟨vs, by rw [Array.mapM_eq_mapM_toList]; simp [h1], h2, h3⟩
  unfold retOf at hr
  split at hr
  · rename_i rv hrs
    obtain ⟨vs, h1, h2, h3⟩ := key [r] (by rw [hrs]; simp [mapO, hr])
    match vs, h2 with
    | [v], _ =>
      obtain ⟨rv', hrv, h4⟩ := h3 0 r v rfl rfl
      refine ⟨v, by simp [h1], ?_⟩
      cases r with
      | tv d => exact h4
      | own t l => obtain ⟨b, tm, _, _, hb, hv⟩ := h4; rw [hv]; exact h.box b _ hb
      | _ => exact h4.elim
  · rename_i hne
    obtain ⟨hdis, hr⟩ := cond_none hr
    simp only [Option.map_eq_some_iff] at hr
    obtain ⟨l, hl, rfl⟩ := hr
    obtain ⟨vs, h1, h2, h3⟩ := key l hl
    have hlen := (mapO_spec hl).1
    have hsz : ¬ vs.length = 1 := by
      intro e
      rw [h2, hlen] at e
      match hq : fn.results.toList, e with
      | [x], _ => exact hne x hq
    refine ⟨.tuple vs.toArray, by simp [h1, hsz], vs.toArray, rfl, by simp [h2], fun i s u hs hu => ?_, fun i j t t' m m' u u' g hi hj hu hu' hne' hg => ?_⟩
    · obtain ⟨rv, hrv, h4⟩ := h3 i s u hs (by simpa using hu)
      cases s with
      | tv d => exact h4
      | own t l => obtain ⟨b, tm, _, _, hb, hv⟩ := h4; rw [hv]; exact h.box b _ hb
      | _ => exact h4.elim
    · obtain ⟨rv, hrv, b, tm, e1, e2, e3, e4⟩ := h3 i _ u hi (by simpa using hu)
      obtain ⟨rv', hrv', b', tm', e1', e2', e3', e4'⟩ := h3 j _ u' hj (by simpa using hu')
      subst e1; subst e1'
      have hbb : b ≠ b' := fun e => by
        subst e
        exact hne' (retBoxes_inj (distinctB_spec hdis) i j tm tm' b hrv hrv' e2 e2')
      rw [e4] at hg
      rw [e4']
      exact h.apart b b' _ _ g e3 e3' hbb hg

/-! the call -/
theorem look_entry : ∀ (l : List TD) (i k : Nat), look k (entry.go i l) = if i ≤ k then (l[k - i]?).map SV.tv else none
  | [], i, k => by simp [entry.go, look]
  | d :: l, i, k => by
    simp only [entry.go, look]
    by_cases e : i = k
    · subst e; simp
    · simp only [beq_false e, cond_false, look_entry l (i + 1) k]
      by_cases h : i ≤ k
      · have h1 : i + 1 ≤ k := by omega
        rw [if_pos h, if_pos h1, show k - i = (k - (i + 1)) + 1 by omega]
        simp
      · rw [if_neg h, if_neg (by omega)]

theorem calls_of_goes (hE : Env P T G) {f : Nat} {fn : Func} {c : Code} (hf : P.funcs[f]? = some fn) (hb : fn.body = some c) {tds : List TD} (hlen : tds.length ≤ fn.ntmps) {r : SV}
    (hg : Goes G T fn.ntmps fn.results.toList (.more [.code c] (entry tds)) r) {vs : Array Value} (hh : Holds w σ) (hargs : ArgsR σ tds vs) :
    Calls P f vs w fun e w' => ∃ v σ', e = .returned v ∧ Step σ w σ' w' ∧ RetR σ' w' w.heap.size r v := by
  intro cs
  let b : Frame := { (default : Frame) with fn := f, kind := .normal }
  have henter : Frame.enter P f vs .normal = b.at { tmps := vs ++ Array.replicate (fn.ntmps - vs.size) undef, defers := [] } [.code c] := by
    simp [Frame.enter, Frame.at, hf, hb, b]
  have hR : Rel (fun _ => True) fn.ntmps w.heap.size σ (fun _ => undef) (entry tds) { tmps := vs ++ Array.replicate (fn.ntmps - vs.size) undef, defers := [] } w := by
    refine ⟨hh, by simp; have := hargs.1; omega, rfl, Nat.le_refl _, fun k b hk => by simp [entry, look] at hk, fun k k' b b' g hk => by simp [entry, look] at hk, fun k s hk _ => ?_⟩
    simp only [entry] at hk
    rw [look_entry] at hk
    simp only [Nat.zero_le, if_true, Nat.sub_zero, Option.map_eq_some_iff] at hk
    obtain ⟨d, hd, rfl⟩ := hk
    have hlt : k < vs.size := by rw [hargs.1]; exact (List.getElem?_eq_some_iff.1 hd).1
    have hv : vs[k]? = some vs[k] := by simp [hlt]
    have := hargs.2 k d vs[k] hd hv
    have e : (vs ++ Array.replicate (fn.ntmps - vs.size) undef).getD k undef = vs[k] := by
      simp [Array.getD_eq_getD_getElem?, Array.getElem?_append, hlt]
    rw [e]; exact this
  have hfin := goes_sound hE hg (b := b) (cs := cs) (m := lone (Frame.enter P f vs .normal) cs w) (σ0 := σ) (w0 := w) (n0 := w.heap.size)
    ⟨_, w, σ, _, Trans.refl hh, hR, by rw [henter]; exact Steps.refl _ _⟩
  obtain ⟨a, w', σ', H, st, todo, hret, htr, hrel, hs⟩ := hfin
  obtain ⟨v, hv1, hv2⟩ := run_results hE hrel hret
  exact ⟨.returned v, w', _, ⟨v, σ', rfl, htr.step, hv2⟩, hs, rfl, rfl, hrel.defers, rfl, fn, hf, hv1⟩

end

/-! one function more -/
def Tbl.add (G : Tbl) (f : Nat) (F : List TD → Option (Bool × SV)) : Tbl := fun g tds => bif Nat.beq g f then F tds else G g tds

def Tbl.none : Tbl := fun _ _ => Option.none

theorem Env.start {P : Program} {T : Nat → Option Ty} (hT : ∀ ty t, T ty = some t → chk P t ty = true) (hm : P.follows .mixedOrders = true) : Env P T Tbl.none :=
  ⟨hT, fun f tds r h => by simp [Tbl.none] at h, fun f tds r h => by simp [Tbl.none] at h, hm⟩

theorem Env.add {P : Program} {T : Nat → Option Ty} {G : Tbl} (hE : Env P T G) {f : Nat} {fn : Func} {c : Code} (hf : P.funcs[f]? = some fn) (hb : fn.body = some c) (hn : (fn.name == "runtime.NumGoroutine") = false)
    {F : List TD → Option (Bool × SV)} (h : ∀ tds r, F tds = some (true, r) → tds.length ≤ fn.ntmps ∧ Goes G T fn.ntmps fn.results.toList (.more [.code c] (entry tds)) r) : Env P T (G.add f F) := by
  refine ⟨hE.types, fun g tds r hg => ?_, fun g tds r hg => ?_, hE.mixed⟩
  · unfold Tbl.add at hg
    cases hb' : Nat.beq g f with
    | true => have := Nat.eq_of_beq_eq_true hb'; subst this; exact ⟨fn, hf, by simp [hb], hn⟩
    | false => rw [hb'] at hg; exact hE.fns g tds r hg
  · unfold Tbl.add at hg
    cases hb' : Nat.beq g f with
    | true =>
      rw [hb'] at hg
      have := Nat.eq_of_beq_eq_true hb'; subst this
      obtain ⟨h1, h2⟩ := h tds r hg
      intro σ w vs hh hargs
      exact calls_of_goes hE hf hb h1 h2 hh hargs
    | false => rw [hb'] at hg; exact hE.good g tds r hg

end Go.Lift
