/- A part of the proof that the law returns true for every input: no condition. -/
import Derived.Test.YtincaojcmkklbaaE7
namespace Go.Lift

def heapS (w : World) : Store := fun b => w.heap[b]?
theorem holds_heapS (w : World) : Holds w (heapS w) := fun _ _ h => h
theorem Holds.le_heapS {w : World} {σ : Store} (h : Holds w σ) : Store.le σ (heapS w) := h

def FnOK (P : Program) (f : Nat) : Prop := ∃ fn : Func, P.funcs[f]? = some fn ∧ fn.body.isNone = false ∧ (fn.name == "runtime.NumGoroutine") = false

structure Env (P : Program) (T : Nat → Option Ty) (G : Tbl) : Prop where
  types : ∀ ty t, T ty = some t → chk P t ty = true
  fns : ∀ f tds r, G f tds = some r → FnOK P f
  good : Good P G
  mixed : P.follows .mixedOrders = true

section
variable {P : Program} {T : Nat → Option Ty} {G : Tbl} {w : World} {σ : Store} {bx : List (Nat × Box)} {H : Nat → Value} {n0 : Nat}

theorem lies_heapS {w : World} {a : Addr} {cs : List Value} (h : At w a cs) : Lies (heapS w) a cs := by
  intro j v hv
  have := h j v hv
  unfold World.cell? at this
  unfold Store.cell? heapS
  exact this

theorem box_slice {e : Ty} {l : List e.D} {v : Value} (hh : Holds w σ) (h : BoxR σ w n0 (.vec e l) v) : RelV (heapS w) ⟨.slice e, l⟩ v := by
  obtain ⟨ety, xs, hown, henc, _⟩ := h
  rcases Nat.eq_zero_or_pos l.length with h0 | hpos
  · have hl : l = [] := List.eq_nil_of_length_eq_zero h0
    subst hl
    rcases hown.2 with ⟨rfl, _⟩ | ⟨g, cap, cur, rfl, _, hg, h1, _, h3, h4⟩
    · exact relV_nil _ _
    · exact ⟨⟨some ⟨g, 0, none⟩, cap, by simp [Value.cells], by simp, by simp, fun i hi => by simp at hi⟩, rfl⟩
  · obtain ⟨g, cap, cur, rfl, hg, hcap, hcs, htake, _⟩ := ownsRow_inv hown hpos
    refine ⟨⟨some ⟨g, 0, none⟩, cap, by simp [Value.cells], hcap, by simp, ?_⟩, rfl⟩
    refine EncL.toSlice l xs (henc.mono hh.le_heapS) ⟨g, 0, none⟩ (lies_heapS ?_)
    intro j v hv
    exact hown.cells (g := g) rfl j v hv

theorem data_rel {t : Ty} {y : t.D} {s : SV} {v : Value} (hh : Holds w σ) (hB : BoxesR σ w n0 bx H) (hd : s.data bx t = some y) (h : SVR σ bx H s v) :
    (s.isRef = false → RelV σ ⟨t, y⟩ v) ∧ RelV (heapS w) ⟨t, y⟩ v := by
  cases s with
  | tv d =>
    have := TD.as_eq hd; subst this
    exact ⟨fun _ => h, RelV.mono hh.le_heapS h⟩
  | nils =>
    have hv : v = .slice none 0 0 := h
    subst hv
    cases t with
    | slice e => simp [SV.data, nilD] at hd; subst hd; exact ⟨fun _ => relV_nil _ _, relV_nil _ _⟩
    | _ => simp [SV.data, nilD] at hd
  | ref b =>
    obtain ⟨e, l, h1, h2⟩ := h
    simp only [SV.data, h1] at hd
    have := TD.as_eq hd
    have hb := box_slice hh (hB b _ h1)
    rw [this, ← h2] at hb
    exact ⟨by simp [SV.isRef], hb⟩
  | view b lo hi =>
    obtain ⟨e, l, h1, h2, h3, h4⟩ := h
    simp only [SV.data, h1] at hd
    have := TD.as_eq hd
    have hb := relV_view (box_slice hh (hB b _ h1)) lo hi h2 h3
    rw [this, ← h4] at hb
    exact ⟨by simp [SV.isRef], hb⟩
  | _ => simp [SV.data] at hd

theorem mapO_spec {α β : Type} {f : α → Option β} : ∀ {l : List α} {m : List β}, mapO f l = some m → m.length = l.length ∧ ∀ (i : Nat) (x : α), l[i]? = some x → ∃ y, f x = some y ∧ m[i]? = some y
  | [], m, h => by simp [mapO] at h; subst h; simp
  | a :: l, m, h => by
    simp only [mapO, Option.bind_eq_some_iff] at h
    obtain ⟨b, hb, s, hs, h⟩ := h
    simp at h; subst h
    obtain ⟨h1, h2⟩ := mapO_spec hs
    refine ⟨by simp [h1], fun i x hx => ?_⟩
    cases i with
    | zero => simp at hx; subst hx; exact ⟨b, hb, rfl⟩
    | succ i => simpa using h2 i x (by simpa using hx)

theorem argsTD_spec : ∀ {ts : List Nat} {vs : List SV} {tds : List TD}, argsTD T bx ts vs = some tds → tds.length = vs.length ∧
    ∀ (i : Nat) (s : SV), vs[i]? = some s → ∃ d : TD, tds[i]? = some d ∧ s.data bx d.t = some d.x
  | [], [], tds, h => by simp [argsTD] at h; subst h; simp
  | t :: ts, v :: vs, tds, h => by
    simp only [argsTD, Option.bind_eq_some_iff] at h
    obtain ⟨u, hu, x, hx, r, hr, h⟩ := h
    simp at h; subst h
    obtain ⟨h1, h2⟩ := argsTD_spec hr
    refine ⟨by simp [h1], fun i s hs => ?_⟩
    cases i with
    | zero => simp at hs; subst hs; exact ⟨_, rfl, hx⟩
    | succ i => simpa using h2 i s (by simpa using hs)
  | [], _ :: _, _, h => by simp [argsTD] at h
  | _ :: _, [], _, h => by simp [argsTD] at h

theorem run_call {o : Oper} {a : Act} {c : Call} (ho : o.op = .call c) {f : Nat} (hc : c.callee = .value (.func f)) (hf : FnOK P f) :
    (execOp a.eval o).run P w = .ok (.enter f (c.args.map a.eval)) w := by
  obtain ⟨fn, h1, h2, h3⟩ := hf
  have h3' : fn.name ≠ "runtime.NumGoroutine" := by simpa using h3
  have h2' : fn.body ≠ none := by intro h; simp [h] at h2
  simp [execOp, ho, resolve, hc, show a.eval (.func f) = .func (.func f) #[] #[] from rfl, Deferred.ofValue, invoke, callFunc, h1, h2', h3']

theorem wp_call (hE : Env P T G) {o : Oper} {a : Act} {c : Call} (ho : o.op = .call c) {f : Nat} (hc : c.callee = .value (.func f)) {tds : List TD} {r : SV} (hg : G f tds = some (true, r))
    {τ : Store} (ht : Holds w τ) (hargs : ArgsR τ tds (c.args.map a.eval)) {next : Act → World → Prop} {Q : Exit → Act → World → Prop}
    (hn : ∀ v τ' w', Step τ w τ' w' → RetR τ' w' w.heap.size r v → next (a.put o.dst v) w') : o.wp P a w next Q := by
  unfold Oper.wp
  rw [run_call ho hc (hE.fns f tds _ hg), Oper.upon_enter]
  refine (hE.good f tds r hg τ w _ ht hargs).mono fun e w' ⟨v, τ', he, hs, hr⟩ => ?_
  subst he
  exact hn v τ' w' hs hr

theorem svr_of_svr1 {s : SV} {v : Value} (h : SVR1 σ bx H s v) : SVR σ bx H s v := by
  cases s <;> first | exact h | exact h.elim

theorem retR_plain {w' : World} {m : Nat} {r : SV} {v : Value} (h : RetR σ w' m r v) (hp : r.plainR = true) : SVR σ bx H r v := by
  cases r with
  | tv d => exact h
  | tup l =>
    obtain ⟨vs, h1, h2, h3, _⟩ := h
    refine ⟨vs, h1, h2, fun i s u hs hu => ?_⟩
    have := h3 i s u hs hu
    simp only [SV.plainR, List.all_eq_true] at hp
    have hps := hp s (List.mem_of_getElem? hs)
    cases s <;> simp_all
    exact this
  | _ => simp [SV.plainR] at hp

theorem retR_flat {w' : World} {m : Nat} {r : SV} {v : Value} {τ : Store} (h : RetR τ w' m r v) (hp : r.flatR = true) : SVR σ bx H r v := by
  cases r with
  | tv d => exact ⟨Enc.flat _ _ _ hp h.1, h.2⟩
  | tup l =>
    obtain ⟨vs, h1, h2, h3, _⟩ := h
    refine ⟨vs, h1, h2, fun i s u hs hu => ?_⟩
    have := h3 i s u hs hu
    simp only [SV.flatR, List.all_eq_true] at hp
    have hps := hp s (List.mem_of_getElem? hs)
    cases s <;> simp_all
    exact ⟨Enc.flat _ _ _ hps this.1, this.2⟩
  | _ => simp [SV.flatR] at hp

/-- what an operation yields, its own world apart -/
def Yields (P : Program) (o : Oper) (a : Act) (w : World) (σ : Store) (bx : List (Nat × Box)) (H : Nat → Value) (s : SV) : Prop :=
  ∀ (next : Act → World → Prop) (Q : Exit → Act → World → Prop), (∀ v σ' w', Step σ w σ' w' → SVR σ' bx H s v → next (a.put o.dst v) w') → o.wp P a w next Q

theorem Gives.yields {o : Oper} {a : Act} {s : SV} (hh : Holds w σ) (h : Gives P o a w σ bx H s) : Yields P o a w σ bx H s :=
  fun _ _ hn => let ⟨v, h1, h2⟩ := h; wp_val h1 (hn v σ w (Step.refl hh) h2)

theorem yields_call (hE : Env P T G) (hh : Holds w σ) (hB : BoxesR σ w n0 bx H) {o : Oper} {a : Act} {c : Call} (ho : o.op = .call c) {ρ : Operand → Option SV} {f : Nat} (hc : c.callee = .value (.func f))
    (hρ : ∀ x ∈ c.args.toList, ∀ s, ρ x = some s → SVR σ bx H s (a.eval x)) {s : SV} (hv : callVal G T bx ρ c = some (true, s)) : Yields P o a w σ bx H s := by
  simp only [callVal, hc, Option.bind_eq_some_iff] at hv
  obtain ⟨svs, h1, tds, h2, ⟨b, r⟩, h3, hv⟩ := hv
  obtain ⟨m1, m2⟩ := mapO_spec h1
  obtain ⟨t1, t2⟩ := argsTD_spec h2
  intro next Q hn
  have hargs : ∀ τ : Store, (∀ (x : Operand) (s : SV) (d : TD), x ∈ c.args.toList → s ∈ svs → ρ x = some s → s.data bx d.t = some d.x → RelV τ d (a.eval x)) → ArgsR τ tds (c.args.map a.eval) := by
    intro τ hτ
    refine ⟨by simp [t1, m1], fun i d v hd hv => ?_⟩
    simp only [Array.getElem?_map, Option.map_eq_some_iff] at hv
    obtain ⟨x, hx, rfl⟩ := hv
    have hx' : c.args.toList[i]? = some x := by simpa using hx
    obtain ⟨y, hy1, hy2⟩ := m2 i x hx'
    obtain ⟨d', hd1, hd2⟩ := t2 i y hy2
    rw [hd] at hd1
    simp at hd1; subst hd1
    exact hτ x y d (List.mem_of_getElem? hx') (List.mem_of_getElem? hy2) hy1 hd2
  cases hany : svs.any SV.isRef with
  | true =>
    simp only [hany, if_true] at hv
    cases hfl : r.flatR with
    | false => simp [hfl] at hv
    | true =>
      simp [hfl] at hv
      obtain ⟨rfl, rfl⟩ := hv
      refine wp_call hE ho hc h3 (holds_heapS w) (hargs _ fun x s d hx _ hxs hd => (data_rel hh hB hd (hρ x hx s hxs)).2) fun v τ' w' hst hr => ?_
      refine hn v σ w' ⟨Store.le.refl σ, fun b o hb => hst.holds b o (hst.le b o (hh b o hb)), fun b o hb => .inl hb, hst.size, hst.block, hst.os, hst.output, hst.tape⟩ (retR_flat hr hfl)
  | false =>
    simp only [hany, Bool.false_eq_true, if_false] at hv
    cases hfl : r.plainR with
    | false => simp [hfl] at hv
    | true =>
      simp [hfl] at hv
      obtain ⟨rfl, rfl⟩ := hv
      refine wp_call hE ho hc h3 hh (hargs _ fun x s d hx hs hxs hd => (data_rel hh hB hd (hρ x hx s hxs)).1 ?_) fun v τ' w' hst hr => hn v τ' w' hst (retR_plain hr hfl)
      have := List.any_eq_false.1 hany s hs
      simpa using this

/-! len, max, min -/
theorem run_len_slice' {ty et : Nat} (hu : P.underlying ty = some (.slice et)) (ad : Option Addr) (n c : Nat) (rt : Nat) : (Builtin.len_ #[ty] rt #[.slice ad n c]).run P w = .ok (.int .i64 n) w := by
  simp [Builtin.len_, run_underlying hu, goInt]

end
end Go.Lift
