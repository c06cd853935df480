/- A part of the proof that the law returns true for every input: no condition. -/
import Derived.Test.YtincaojcmkklbaaE15
set_option linter.unusedSimpArgs false
namespace Go.Lift

section
variable {P : Program} {T : Nat → Option Ty} {G : Tbl} {w w' : World} {σ σ' τ : Store} {bx bx' : List (Nat × Box)} {H H' : Nat → Value} {n0 n1 N : Nat} {C : Nat → Prop}

theorem BoxR.lower {b : Box} {v : Value} (h : BoxR σ w n1 b v) (hn : n0 ≤ n1) : BoxR σ w n0 b v := by
  cases b with
  | var d => obtain ⟨g, cs, ty, h1, h2, h3, h4, h5⟩ := h; exact ⟨g, cs, ty, h1, h2, h3, Nat.le_trans hn h4, h5⟩
  | vec t l =>
    obtain ⟨ety, xs, h1, h2, h3, h4⟩ := h
    refine ⟨ety, xs, ⟨h1.1, ?_⟩, h2, h3, h4⟩
    rcases h1.2 with e | ⟨g, cap, cur, e1, e2, rest⟩
    · exact .inl e
    · exact .inr ⟨g, cap, cur, e1, Nat.le_trans hn e2, rest⟩

theorem Rel.addBox {st : St} {a : Act} {key : Nat} {b : Box} {u : Value} (h : Rel C N n0 σ H st a w) (hb : BoxR σ w n0 b u)
    (hf : ∀ k b' g, look k st.bx = some b' → k ≠ key → hBlock u = some g → hBlock (H k) ≠ some g) :
    Rel C N n0 σ (fun k => if k = key then u else H k) ⟨(st.kill key).sl, ins key b (st.kill key).bx⟩ a w := by
  have h1 := h.kill (d := key)
  refine ⟨h.holds, h.size, h.defers, h.base, fun k b' hk => ?_, fun k k' b1 b2 g hk hk' hne hg hg' => ?_, fun k s' hk hc => ?_⟩
  · simp only [look_ins] at hk
    by_cases e : k = key
    · simp [e] at hk ⊢; subst hk; exact hb
    · simp [e] at hk ⊢; exact h1.box k b' hk
  · simp only [look_ins] at hk hk'
    by_cases e : k = key
    · by_cases e' : k' = key
      · exact hne (e.trans e'.symm)
      · simp [e, e'] at hk hk' hg hg'
        exact hf k' b2 g (by simpa [St.kill, look_del, e'] using hk') e' hg hg'
    · by_cases e' : k' = key
      · simp [e, e'] at hk hk' hg hg'
        exact hf k b1 g (by simpa [St.kill, look_del, e] using hk) e hg' hg
      · simp [e, e'] at hk hk' hg hg'
        exact h1.apart k k' b1 b2 g hk hk' hne hg hg'
  · refine SVR.off (d := key) (kill_not hk) (fun c hc' => ?_) (h1.slot k s' hk hc)
    simp [look_ins, hc']

theorem installs_rel (d : Nat) (l0 : List SV) (vs : Array Value) (hret : ∀ (i : Nat) (s : SV) (u : Value), l0[i]? = some s → vs[i]? = some u → match s with
        | .tv d => RelV σ d u
        | .own t l => BoxR σ w n1 (.vec t l) u
        | _ => False) (hn1 : n0 ≤ n1)
    (hap : ∀ (i j : Nat) (t t' : Ty) (m : List t.D) (m' : List t'.D) (u u' : Value) (g : Nat), l0[i]? = some (.own t m) → l0[j]? = some (.own t' m') → vs[i]? = some u → vs[j]? = some u' → i ≠ j → hBlock u = some g → hBlock u' ≠ some g)
    (hsz : vs.size = l0.length) {a : Act} : ∀ (rest : List SV) (i : Nat) (st : St) (done : List SV) (H : Nat → Value), l0.drop i = rest → done.length = i → Rel C N n0 σ H st a w →
    (∀ (k : Nat) (b' : Box) (g : Nat), look k st.bx = some b' → hBlock (H k) = some g → g < n1 ∨ ∃ j t m, j < i ∧ l0[j]? = some (.own t m) ∧ vs[j]? = some (H k)) →
    (∀ (j : Nat) (s : SV), done[j]? = some s → (∃ d' : TD, s = .tv d' ∧ l0[j]? = some (.tv d')) ∨ (s = .ref (1000 + 100 * d + j) ∧ ∃ t m, look (1000 + 100 * d + j) st.bx = some (.vec t m) ∧ vs[j]? = some (H (1000 + 100 * d + j)))) →
    ∃ H', Rel C N n0 σ H' (installs d st done i rest).1 a w ∧ SVR σ (installs d st done i rest).1.bx H' (.tup (installs d st done i rest).2) (.tuple vs)
  | [], i, st, done, H, hdrop, hdl, hR, _, hdone => by
    have hlen : l0.length ≤ i := by
      have := congrArg List.length hdrop
      simp at this; omega
    have hdi : done.length ≤ l0.length := by
      rcases Nat.lt_or_ge l0.length done.length with hlt | hge
      · have hx : done[l0.length]? = some done[l0.length] := by simp [hlt]
        rcases hdone l0.length _ hx with ⟨d', e1, e2⟩ | ⟨e1, t, m, e2, e3⟩
        · simp at e2
        · have := (Array.getElem?_eq_some_iff.1 e3).1; omega
      · exact hge
    refine ⟨H, hR, vs, rfl, by simp only [installs]; omega, fun j s u hj hu => ?_⟩
    simp only [installs] at hj
    rcases hdone j s hj with ⟨d', rfl, e2⟩ | ⟨rfl, t, m, e2, e3⟩
    · exact hret j _ u e2 hu
    · rw [hu] at e3; simp at e3
      exact ⟨t, m, e2, e3⟩
  | s :: rest, i, st, done, H, hdrop, hdl, hR, hold, hdone => by
    have hi : l0[i]? = some s := by
      have := congrArg (·[0]?) hdrop
      simpa using this
    have hdrop' : l0.drop (i + 1) = rest := by
      have := congrArg List.tail hdrop
      simpa using this
    have hiv : i < vs.size := by rw [hsz]; exact (List.getElem?_eq_some_iff.1 hi).1
    have hu : vs[i]? = some vs[i] := by simp [hiv]
    have hri := hret i s vs[i] hi hu
    cases s with
    | own t m =>
      simp only [installs]
      have hfresh : ∀ k b' g, look k st.bx = some b' → k ≠ 1000 + 100 * d + i → hBlock vs[i] = some g → hBlock (H k) ≠ some g := by
        intro k b' g hk _ hg hkg
        rcases hold k b' g hk hkg with h1 | ⟨j, t', m', hj, h1, h2⟩
        · have := (BoxR.block hri g hg).2.1; omega
        · exact hap j i t' t m' m (H k) vs[i] g h1 hi h2 hu (by omega) hkg hg
      have hR' := hR.addBox (key := 1000 + 100 * d + i) (b := .vec t m) (u := vs[i]) (hri.lower hn1) hfresh
      refine installs_rel d l0 vs hret hn1 hap hsz rest (i + 1) _ _ _ hdrop' (by simp [hdl]) hR' (fun k b' g hk hkg => ?_) (fun j s' hj => ?_)
      · simp only [look_ins] at hk
        by_cases ek : k = 1000 + 100 * d + i
        · right; exact ⟨i, t, m, by omega, hi, by simp [ek, hu]⟩
        · simp [ek, St.kill, look_del] at hk hkg ⊢
          rcases hold k b' g hk hkg with h1 | ⟨j, t', m', hj, h1, h2⟩
          · exact .inl h1
          · exact .inr ⟨j, by omega, ⟨t', m', h1⟩, h2⟩
      · by_cases ej : j < i
        · rw [List.getElem?_append_left (by omega)] at hj
          rcases hdone j s' hj with h1 | ⟨h1, t', m', h2, h3⟩
          · exact .inl h1
          · right
            have hne : ¬ (1000 + 100 * d + j = 1000 + 100 * d + i) := by omega
            refine ⟨h1, t', m', ?_, ?_⟩
            · simp only [look_ins, if_neg hne, St.kill, look_del]; exact h2
            · simp only [if_neg hne]; exact h3
        · have ej' : j = i := by
            have := (List.getElem?_eq_some_iff.1 hj).1
            simp at this; omega
          subst ej'
          rw [List.getElem?_append_right (by omega)] at hj
          simp [hdl] at hj
          right
          exact ⟨hj.symm, t, m, by simp [look_ins], by simp [hu]⟩
    | tv d' =>
      simp only [installs]
      refine installs_rel d l0 vs hret hn1 hap hsz rest (i + 1) st _ H hdrop' (by simp [hdl]) hR (fun k b' g hk hkg => ?_) (fun j s' hj => ?_)
      · rcases hold k b' g hk hkg with h1 | ⟨j, t', m', hj, h1, h2⟩
        · exact .inl h1
        · exact .inr ⟨j, t', m', by omega, h1, h2⟩
      · by_cases ej : j < i
        · rw [List.getElem?_append_left (by omega)] at hj
          exact hdone j s' hj
        · have ej' : j = i := by
            have := (List.getElem?_eq_some_iff.1 hj).1
            simp at this; omega
          subst ej'
          rw [List.getElem?_append_right (by omega)] at hj
          simp [hdl] at hj
          exact .inl ⟨d', hj.symm, hi⟩
    | _ => exact hri.elim

theorem eff_call (hE : Env P T G) {o : Oper} {a : Act} {st : St} (h : Rel C N n0 σ H st a w) {d f : Nat} {c : Call} (ho : o.op = .call c) (hc : c.callee = .value (.func f)) (hd : o.dst = some d) (hN : d < N)
    {svs : List SV} {tds : List TD} {r : SV} (hC : ∀ x ∈ c.args.toList, ∀ k, x = .tmp k → C k) (h1 : mapO (opd st) c.args.toList = some svs) (h2 : svs.any SV.isRef = false) (h3 : argsTD T st.bx c.argTypes.toList svs = some tds)
    (hg : G f tds = some (true, r)) : EffOK P C N n0 o a w σ (install st d r) := by
  intro next Q hn
  obtain ⟨m1, m2⟩ := mapO_spec h1
  obtain ⟨t1, t2⟩ := argsTD_spec h3
  have hargs : ArgsR σ tds (c.args.map a.eval) := by
    refine ⟨by simp [t1, m1], fun i dd v hdd hv => ?_⟩
    simp only [Array.getElem?_map, Option.map_eq_some_iff] at hv
    obtain ⟨x, hx, rfl⟩ := hv
    have hx' : c.args.toList[i]? = some x := by simpa using hx
    obtain ⟨y, hy1, hy2⟩ := m2 i x hx'
    obtain ⟨d', hd1, hd2⟩ := t2 i y hy2
    rw [hdd] at hd1
    simp at hd1; subst hd1
    have hsv := h.opd (hC x (List.mem_of_getElem? hx')) hy1
    refine (data_rel h.holds h.box hd2 hsv).1 ?_
    have := List.any_eq_false.1 h2 y (List.mem_of_getElem? hy2)
    simpa using this
  refine wp_call hE ho hc hg h.holds hargs fun v σ' w' hs hr => ?_
  refine hn v σ' w' (hs.trans' h.base) ?_
  have hR := h.step hs
  rw [hd]
  cases r with
  | tv dd => exact ⟨H, hR.put (d := some d) (fun k hk => by simp at hk; omega) (s := .tv dd) hr⟩
  | own t l =>
    have hr' : BoxR σ' w' w.heap.size (.vec t l) v := hr
    have hR2 := h.newBox (a := a) (v := v) (s := .ref d) hs hN (b := .vec t l) (u := v) (BoxR.lower hr' h.base) (fun g hg => (BoxR.block hr' g hg).2.1) fun bx' H' h1 h2 => ⟨_, _, h1, h2.symm⟩
    exact ⟨_, hR2⟩
  | tup l =>
    obtain ⟨vs, rfl, hsz, hret, hap⟩ := hr
    obtain ⟨H', r1, r2⟩ := installs_rel (C := C) (N := N) d l vs hret h.base hap hsz l 0 st [] H rfl rfl hR
      (fun k b' g hk hkg => .inl ((h.box k b' hk).block g hkg).1) (fun j s hj => by simp at hj)
    exact ⟨H', r1.put (d := some d) (fun k hk => by simp at hk; omega) r2⟩
  | _ => exact hr.elim

end
end Go.Lift
