/- A part of the proof that the law returns true for every input: no condition. -/
import Derived.Test.YtincaojcmkklbaaE8
namespace Go.Lift

section
variable {P : Program} {T : Nat → Option Ty} {G : Tbl} {w : World} {σ : Store} {bx : List (Nat × Box)} {H : Nat → Value} {n0 : Nat}

def OpdR (ρ : Operand → Option SV) (o : Oper) (a : Act) (σ : Store) (bx : List (Nat × Box)) (H : Nat → Value) : Prop :=
  match o.op with
  | .pick c x y => (∀ s, ρ c = some s → SVR σ bx H s (a.eval c)) ∧ (a.eval c = .bool true → ∀ s, ρ x = some s → SVR σ bx H s (a.eval x)) ∧
      (a.eval c = .bool false → ∀ s, ρ y = some s → SVR σ bx H s (a.eval y))
  | op => ∀ x ∈ op.operands.toList, ∀ s, ρ x = some s → SVR σ bx H s (a.eval x)

theorem gives_len {o : Oper} {a : Act} {c : Call} (ho : o.op = .call c) (hc : c.callee = .builtin .len) {ρ : Operand → Option SV} (hT : ∀ ty t, T ty = some t → chk P t ty = true) (hh : Holds w σ) (hB : BoxesR σ w n0 bx H)
    (hρ : ∀ x ∈ c.args.toList, ∀ s, ρ x = some s → SVR σ bx H s (a.eval x)) {s : SV} (hv : callVal G T bx ρ c = some (true, s)) : Gives P o a w σ bx H s := by
  simp only [callVal, hc] at hv
  split at hv
  · rename_i x t hargs htys
    have ha : c.args = #[x] := by apply Array.ext'; simpa using hargs
    have ht : c.argTypes = #[t] := by apply Array.ext'; simpa using htys
    have hx := hρ x (by simp [hargs])
    have hrun : ∀ v n, a.eval x = v → (Builtin.len_ #[t] o.type #[v]).run P w = .ok (.int .i64 n) w → (execOp a.eval o).run P w = .ok (.value (.int .i64 n)) w := by
      intro v n h1 h2
      simp [execOp, ho, resolve, hc, invoke, builtin, ha, ht, h1, h2]
    simp only [Option.bind_eq_some_iff] at hv
    obtain ⟨ty, hty, hv⟩ := hv
    have hchk := hT t ty hty
    cases ty with
    | slice e =>
      obtain ⟨et, hu, _⟩ := chk_slice hchk
      simp only [Option.bind_eq_some_iff] at hv
      obtain ⟨sv, hsv, hv⟩ := hv
      have hr := hx sv hsv
      split at hv
      · simp at hv; subst hv
        obtain ⟨ad, cap, h1, _⟩ := RelV.slice hr
        exact ⟨_, hrun _ _ h1 (run_len_slice' hu _ _ _ _), relV_int σ _ _⟩
      · simp at hv; subst hv
        exact ⟨_, hrun _ _ hr (by simpa using run_len_slice' hu none 0 0 o.type), relV_int σ _ _⟩
      · rename_i b
        obtain ⟨t', l, h1, h2⟩ := hr
        simp only [h1] at hv
        simp at hv; subst hv
        obtain ⟨ad, cap, h3, _⟩ := RelV.slice (box_slice hh (hB b _ h1))
        exact ⟨_, hrun _ _ (h2.trans h3) (run_len_slice' hu _ _ _ _), relV_int σ _ _⟩
      · rename_i b lo hi
        obtain ⟨t', l, h1, h2, h3, h4⟩ := hr
        simp at hv; subst hv
        obtain ⟨ad, cap, h5, _⟩ := RelV.slice (box_slice hh (hB b _ h1))
        rw [h5] at h4
        exact ⟨_, hrun _ _ h4 (run_len_slice' hu _ _ _ _), relV_int σ _ _⟩
      · simp at hv
    | str =>
      simp only [Option.bind_eq_some_iff] at hv
      obtain ⟨sv, hsv, hv⟩ := hv
      have hr := hx sv hsv
      split at hv
      · rename_i st
        simp at hv; subst hv
        have h1 := RelV.str hr
        exact ⟨_, hrun _ _ h1 (by simp [Builtin.len_, run_underlying (chk_str hchk), goInt]), relV_int σ _ _⟩
      · simp at hv
    | _ => simp at hv
  · simp at hv

theorem run_max : ∀ (l : List Int) (k : IntKind) (n : Int), ((l.map (Value.int k)).foldlM Builtin.max2 (.int k n)).run P w = .ok (.int k (maxI l n)) w
  | [], k, n => by simp [maxI]
  | b :: l, k, n => by
    simp only [List.map_cons, List.foldlM_cons, Builtin.max2, maxI, Sem.run_bind, Sem.run_pure, Result.andThen_ok]
    exact run_max l k _

theorem run_min : ∀ (l : List Int) (k : IntKind) (n : Int), ((l.map (Value.int k)).foldlM Builtin.min2 (.int k n)).run P w = .ok (.int k (minI l n)) w
  | [], k, n => by simp [minI]
  | b :: l, k, n => by
    simp only [List.map_cons, List.foldlM_cons, Builtin.min2, minI, Sem.run_bind, Sem.run_pure, Result.andThen_ok]
    exact run_min l k _

theorem ints_spec {k : IntKind} : ∀ {vs : List SV} {l : List Int}, ints k vs = some l → vs = l.map fun n => .tv ⟨.int k, n⟩
  | [], l, h => by simp [ints] at h; subst h; rfl
  | v :: vs, l, h => by
    simp only [ints] at h
    split at h
    · rename_i k' n hv
      cases hk : decide (k' = k) with
      | false => simp [hk] at h
      | true =>
        simp [hk, Option.bind_eq_some_iff] at h
        simp at hk; subst hk
        obtain ⟨s, hs, h⟩ := h
        subst h
        rw [int_inv hv, ints_spec hs]; rfl
    · simp at h

theorem args_ints {a : Act} {ρ : Operand → Option SV} {k : IntKind} : ∀ {xs : List Operand} {l : List Int}, (∀ x ∈ xs, ∀ s, ρ x = some s → SVR σ bx H s (a.eval x)) →
    mapO ρ xs = some (l.map fun n => SV.tv ⟨.int k, n⟩) → xs.map a.eval = l.map (Value.int k)
  | [], l, _, h => by
    simp [mapO] at h
    have : l = [] := by cases l <;> simp_all
    subst this; rfl
  | x :: xs, l, hρ, h => by
    simp only [mapO, Option.bind_eq_some_iff] at h
    obtain ⟨b, hb, s, hs, h⟩ := h
    cases l with
    | nil => simp at h
    | cons n l =>
      simp only [List.map_cons, Option.some.injEq, List.cons.injEq] at h
      obtain ⟨rfl, rfl⟩ := h
      have h1 := svr_int (hρ x (by simp) _ hb)
      simp [h1, args_ints (fun y hy => hρ y (by simp [hy])) hs]

theorem gives_max {o : Oper} {a : Act} {c : Call} (ho : o.op = .call c) (hc : c.callee = .builtin .max) {ρ : Operand → Option SV}
    (hρ : ∀ x ∈ c.args.toList, ∀ s, ρ x = some s → SVR σ bx H s (a.eval x)) {s : SV} (hv : callVal G T bx ρ c = some (true, s)) : Gives P o a w σ bx H s := by
  simp only [callVal, hc, Option.bind_eq_some_iff] at hv
  obtain ⟨svs, h1, hv⟩ := hv
  split at hv
  · rename_i v vs
    split at hv
    · rename_i k n hn
      simp only [Option.bind_eq_some_iff, Option.some.injEq, Prod.mk.injEq, true_and] at hv
      obtain ⟨l, hl, rfl⟩ := hv
      have h2 : v :: vs = (n :: l).map fun n => SV.tv ⟨.int k, n⟩ := by rw [int_inv hn, ints_spec hl]; rfl
      rw [h2] at h1
      have h3 := args_ints hρ h1
      refine ⟨.int k (maxI l n), ?_, relV_int σ _ _⟩
      have : (c.args.map a.eval).toList = Value.int k n :: l.map (Value.int k) := by simpa using h3
      simp only [execOp, ho, resolve, hc, invoke, builtin, Sem.run_bind, Sem.run_pure, Result.andThen_ok, Builtin.max_, this, run_max]
    · simp at hv
  · simp at hv

theorem gives_min {o : Oper} {a : Act} {c : Call} (ho : o.op = .call c) (hc : c.callee = .builtin .min) {ρ : Operand → Option SV}
    (hρ : ∀ x ∈ c.args.toList, ∀ s, ρ x = some s → SVR σ bx H s (a.eval x)) {s : SV} (hv : callVal G T bx ρ c = some (true, s)) : Gives P o a w σ bx H s := by
  simp only [callVal, hc, Option.bind_eq_some_iff] at hv
  obtain ⟨svs, h1, hv⟩ := hv
  split at hv
  · rename_i v vs
    split at hv
    · rename_i k n hn
      simp only [Option.bind_eq_some_iff, Option.some.injEq, Prod.mk.injEq, true_and] at hv
      obtain ⟨l, hl, rfl⟩ := hv
      have h2 : v :: vs = (n :: l).map fun n => SV.tv ⟨.int k, n⟩ := by rw [int_inv hn, ints_spec hl]; rfl
      rw [h2] at h1
      have h3 := args_ints hρ h1
      refine ⟨.int k (minI l n), ?_, relV_int σ _ _⟩
      have : (c.args.map a.eval).toList = Value.int k n :: l.map (Value.int k) := by simpa using h3
      simp only [execOp, ho, resolve, hc, invoke, builtin, Sem.run_bind, Sem.run_pure, Result.andThen_ok, Builtin.min_, this, run_min]
    · simp at hv
  · simp at hv

theorem yields_callVal (hE : Env P T G) (hh : Holds w σ) (hB : BoxesR σ w n0 bx H) {o : Oper} {a : Act} {c : Call} (ho : o.op = .call c) {ρ : Operand → Option SV}
    (hρ : ∀ x ∈ c.args.toList, ∀ s, ρ x = some s → SVR σ bx H s (a.eval x)) {s : SV} (hv : callVal G T bx ρ c = some (true, s)) : Yields P o a w σ bx H s := by
  cases hc : c.callee with
  | value f =>
    cases f with
    | func f => exact yields_call hE hh hB ho hc hρ hv
    | _ => simp [callVal, hc] at hv
  | invoke r m => simp [callVal, hc] at hv
  | builtin b =>
    cases b with
    | len => exact (gives_len ho hc hE.types hh hB hρ hv).yields hh
    | max => exact (gives_max ho hc hρ hv).yields hh
    | min => exact (gives_min ho hc hρ hv).yields hh
    | _ => simp [callVal, hc] at hv

end
end Go.Lift
