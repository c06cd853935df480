/- A part of the proof that the law returns true for every input: no condition. -/
import Derived.Test.YtincaojcmkklbaaE27
set_option linter.unusedSimpArgs false
set_option linter.unusedVariables false
namespace Go.Lift

/-! Words for the proofs of functions -/
def Leaf.body : Leaf → Code
  | .loop b _ _ => b
  | _ => .skip
def Leaf.kont : Leaf → List Item
  | .loop _ k _ => k
  | _ => []
def Leaf.todo : Leaf → List Item
  | .more t _ => t
  | _ => []
/-- where a loop's round begins -/
def Leaf.round (L : Leaf) : List Item := .code L.body :: .inLoop L.body :: L.kont
def bod (f : Func) : List Item := [.code (f.body.getD .skip)]

theorem look_mem {α : Type} : ∀ (l : List (Nat × α)) (k : Nat) (v : α), look k l = some v → (k, v) ∈ l
  | [], k, v, h => by simp [look] at h
  | (j, u) :: r, k, v, h => by
    simp only [look] at h
    cases hb : Nat.beq j k with
    | true => rw [hb] at h; simp at h; have := Nat.eq_of_beq_eq_true hb; subst this; subst h; simp
    | false => rw [hb] at h; exact List.mem_cons_of_mem _ (look_mem r k v h)

theorem types_of {P : Program} {tbl : List (Nat × Ty)} (hb : (tbl.all fun p => chk P p.2 p.1) = true) (ty : Nat) (t : Ty) (h : look ty tbl = some t) : chk P t ty = true :=
  List.all_eq_true.1 hb _ (look_mem _ _ _ h)

abbrev I (n : Int) : TD := ⟨.int .i64, n⟩
abbrev B (b : Bool) : TD := ⟨.bool, b⟩
abbrev LI (l : List Int) : TD := ⟨.slice (.int .i64), l⟩
abbrev LB (l : List Bool) : TD := ⟨.slice .bool, l⟩

section
variable {P : Program} {T : Nat → Option Ty} {G G' : Tbl} {N : Nat} {rs : List ResultVar}

theorem Goes.of_eq {L L' : Leaf} {r : SV} (h : L = L') (hg : Goes G T N rs L' r) : Goes G T N rs L r := h ▸ hg

theorem Goes.bif {c : Bool} {A B : Leaf} {r : SV} (h1 : c = true → Goes G T N rs A r) (h2 : c = false → Goes G T N rs B r) : Goes G T N rs (bif c then A else B) r := by
  cases c
  · exact h2 rfl
  · exact h1 rfl

/-- a loop, entered or met again -/
theorem Goes.lp (n : Nat) (ks : Nat → List Nat) {L : Leaf} {st : St} {r : SV} (h : Goes G T N rs (run G T N rs ks n L.round st) r) : Goes G T N rs (.loop L.body L.kont st) r :=
  .loop n ks _ _ _ _ h

theorem Env.congr (h : Env P T G) (he : ∀ f tds, G' f tds = G f tds) : Env P T G' := by
  have : G' = G := by funext f tds; exact he f tds
  rw [this]; exact h

theorem Env.fun' (hE : Env P T G) {f : Nat} {fn : Func} (hf : P.funcs[f]? = some fn) (hb : fn.body.isSome = true) (hn : (fn.name == "runtime.NumGoroutine") = false)
    {F : List TD → Option (Bool × SV)} (h : ∀ tds r, F tds = some (true, r) → tds.length ≤ fn.ntmps ∧ Goes G T fn.ntmps fn.results.toList (.more (bod fn) (entry tds)) r) : Env P T (G.add f F) := by
  obtain ⟨c, hc⟩ := Option.isSome_iff_exists.1 hb
  refine hE.add hf hc hn fun tds r hr => ?_
  have := h tds r hr
  rw [show bod fn = [.code c] by simp [bod, hc]] at this
  exact this

end

theorem lenOK_le {n : Nat} (h : n ≤ lenBound) : lenOK n = true := by simp [lenOK, h]

theorem inB_nat {i n : Nat} (h : i < n) : inB (i : Int) n = true := by simp [inB, h]

/-- a number that its kind holds is not wrapped -/
theorem wrap_id {n : Int} (h1 : -9223372036854775808 ≤ n) (h2 : n ≤ 9223372036854775807) : IntKind.wrap .i64 n = n := by
  unfold IntKind.wrap
  simp [IntKind.signed, IntKind.bits]
  omega

end Go.Lift
