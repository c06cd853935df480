/- A part of the proof that the law returns true for every input: no condition. -/
import Derived.Test.YtincaojcmkklbaaE3
namespace Go.Lift

theorem Step.refl {σ : Store} {w : World} (h : Holds w σ) : Step σ w σ w :=
  ⟨Store.le.refl σ, h, fun _ _ h => .inl h, Nat.le_refl _, fun _ _ => rfl, rfl, rfl, rfl⟩

section
variable {P : Program} {w : World} {σ : Store}

theorem wp_val {o : Oper} {a : Act} {v : Value} {w' : World} {next : Act → World → Prop} {Q : Exit → Act → World → Prop}
    (hr : (execOp a.eval o).run P w = .ok (.value v) w') (hn : next (a.put o.dst v) w') : o.wp P a w next Q := by
  unfold Oper.wp; rw [hr]; exact hn

theorem run_isAgg {t : Ty} {ty : Nat} (h : chk P t ty = true) : (isAgg ty).run P w = .ok t.isAgg w := by
  unfold isAgg
  cases t with
  | int k => simp [run_underlying (chk_int h), Ty.isAgg]
  | bool => simp [run_underlying (chk_bool h), Ty.isAgg]
  | str => simp [run_underlying (chk_str h), Ty.isAgg]
  | slice e => obtain ⟨et, hu, _⟩ := chk_slice h; simp [run_underlying hu, Ty.isAgg]
  | nil =>
    simp only [chk, Bool.and_eq_true] at h
    obtain ⟨_, h⟩ := h
    split at h
    · rename_i fs hu; simp [run_underlying hu, Ty.isAgg]
    · simp at h
  | cons a b =>
    rcases chk_cons h with ⟨fs, hu, _, _, _⟩ | ⟨n, et, hu, _⟩ <;> simp [run_underlying hu, Ty.isAgg]

theorem run_sizeOf {t : Ty} {ty : Nat} (h : chk P t ty = true) : (sizeOf ty).run P w = .ok t.size w := by
  obtain ⟨i, z, h1, h2, _⟩ := infoOK_spec (chk_info h)
  simp [sizeOf, typeInfo, h1, h2]

theorem run_zeroValue {t : Ty} {ty : Nat} (h : chk P t ty = true) : ∃ z, (zeroValue ty).run P w = .ok z w ∧ ∀ σ, RelV σ ⟨t, t.zero⟩ z := by
  obtain ⟨i, z, h1, h2, _, h4, h5, h6⟩ := infoOK_spec (chk_info h)
  exact ⟨z, by simp [zeroValue, typeInfo, h1, h4], fun σ => ⟨h5 σ, h6⟩⟩

/-- the cells of w at an address -/
def At (w : World) (a : Addr) (cs : List Value) : Prop := ∀ j v, cs[j]? = some v → w.cell? (a.add j) = some v

theorem Lies.at {σ : Store} (h : Holds w σ) {a : Addr} {cs : List Value} (hl : Lies σ a cs) : At w a cs := fun j v hv => h.cell (hl j v hv)

theorem at_row {g off : Nat} {cs : Array Value} {ty : Nat} {fr : Nat × Nat} (hg : w.heap[g]? = some (.cells cs ty fr)) {p c r : List Value} (h : cs.toList = p ++ c ++ r) (hp : p.length = off) :
    At w ⟨g, off, none⟩ c := by
  intro j v hv
  rw [addr_lit, cell_of_row w g _ cs ty fr hg]
  have : cs.toList[off + j]? = some v := by
    rw [h, List.append_assoc, List.getElem?_append_right (by omega), List.getElem?_append_left (by have := (List.getElem?_eq_some_iff.1 hv).1; omega)]
    rw [← hv]; congr 1; omega
  simpa using this

theorem run_loadAt {t : Ty} {ty : Nat} (h : chk P t ty = true) {x : t.D} {a : Addr} {cs : List Value} (ha : At w a cs) (he : Enc σ t x cs) :
    ∃ v, (Instr.loadAt ty (.pointer (some a))).run P w = .ok v w ∧ RelV σ ⟨t, x⟩ v := by
  have hp := relV_part (σ := σ) (d := ⟨t, x⟩) he
  refine ⟨_, ?_, hp⟩
  have hl : (loadCells a cs.length).run P w = .ok cs.toArray w := run_loadCells_list w a cs ha
  rw [he.length] at hl
  unfold Instr.loadAt Instr.sureAddr loadVar
  simp only [Sem.run_bind, Sem.run_pure, Result.andThen_ok, run_isAgg h]
  cases hag : t.isAgg with
  | true => simp [run_sizeOf h, hl]
  | false =>
    have hlen : cs.length = 1 := by rw [he.length]; cases t <;> simp_all [Ty.isAgg, Ty.size]
    match cs, hlen with
    | [u], _ =>
      have := ha 0 u rfl
      rw [addr_add_zero] at this
      simp [this]

end
end Go.Lift
