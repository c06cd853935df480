/- A part of the proof that the law returns true for every input: no condition. -/
import Derived.Test.YtincaojcmkklbaaE20
set_option linter.unusedSimpArgs false
set_option linter.unusedVariables false
namespace Go.Lift

/-! an operation looks at its operands alone -/
section
variable {G : Tbl} {T : Nat → Option Ty} {bx : List (Nat × Box)}

theorem mapO_congr {α β : Type} {f g : α → Option β} : ∀ {l : List α}, (∀ x ∈ l, f x = g x) → mapO f l = mapO g l
  | [], _ => rfl
  | a :: l, h => by
    simp only [mapO]
    rw [h a (by simp), mapO_congr fun x hx => h x (by simp [hx])]

theorem callVal_congr {ρ ρ' : Operand → Option SV} {c : Call} (h : ∀ x ∈ c.args.toList, ρ x = ρ' x) : callVal G T bx ρ c = callVal G T bx ρ' c := by
  have hm := mapO_congr h
  unfold callVal
  split
  · rw [hm]
  · split
    · rename_i x t hargs htys
      rw [h x (by simp [hargs])]
    · rfl
  · rw [hm]
  · rw [hm]
  · rfl

theorem buildV_congr {ρ ρ' : Operand → Option SV} {ty : Ty} : ∀ (parts : List (Nat × Operand)) (x : ty.D), (∀ p ∈ parts, ρ p.2 = ρ' p.2) → opVal.buildV bx ρ ty x parts = opVal.buildV bx ρ' ty x parts
  | [], _, _ => rfl
  | (i, v) :: r, x, h => by
    simp only [opVal.buildV]
    rw [h (i, v) (by simp)]
    simp only [buildV_congr r _ fun p hp => h p (by simp [hp])]

theorem optI_congr {ρ ρ' : Operand → Option SV} {x : Option Operand} (h : ∀ y ∈ x.toArray.toList, ρ y = ρ' y) : optI ρ x = optI ρ' x := by
  cases x with
  | none => rfl
  | some y => simp only [optI]; rw [h y (by simp)]

theorem opVal_congr {ρ ρ' : Operand → Option SV} {o : Oper} (h : ∀ x ∈ o.op.operands.toList, ρ x = ρ' x) : opVal G T bx ρ o = opVal G T bx ρ' o := by
  unfold opVal
  cases ho : o.op <;> rw [ho] at h <;> simp only [Op.operands] at h
  case call c => exact callVal_congr fun x hx => h x (by simp [Call.operands]; right; simpa using hx)
  case build t parts =>
    simp only
    congr 1; funext ty
    congr 1
    exact buildV_congr _ _ fun p hp => h p.2 (by simp; exact ⟨p.1, by simpa using hp⟩)
  case slice t x lo hi mx =>
    cases mx with
    | some m => rfl
    | none =>
      simp only
      rw [h x (by simp), optI_congr fun y hy => h y (by simp at hy ⊢; simp [hy]), optI_congr (x := hi) fun y hy => h y (by simp at hy ⊢; simp [hy])]
  all_goals first
    | rfl
    | (simp only; rw [h _ (by simp)]; done)
    | (simp only; rw [h _ (List.mem_cons_self ..), h _ (List.mem_cons_of_mem _ (List.mem_cons_self ..))]; done)
    | (simp only; rw [h _ (List.mem_cons_self ..), h _ (List.mem_cons_of_mem _ (List.mem_cons_self ..)), h _ (List.mem_cons_of_mem _ (List.mem_cons_of_mem _ (List.mem_cons_self ..)))]; done)
end
end Go.Lift
