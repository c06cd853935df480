/- A part of the proof that the law returns true for every input: no condition. -/
import Derived.Test.YtincaojcmkklbaaE29
namespace Go.Lift

/-- function f keeps the contract F -/
def Has (P : Program) (T : Nat → Option Ty) (f : Nat) (F : List TD → Option (Bool × SV)) : Prop := Env P T (Tbl.none.add f F)

section
variable {P : Program} {T : Nat → Option Ty} {G : Tbl} {f : Nat} {F : List TD → Option (Bool × SV)}

theorem Tbl.add_self (tds : List TD) : (G.add f F) f tds = F tds := by unfold Tbl.add; simp

theorem Env.only (h : Env P T (G.add f F)) : Has P T f F := by
  refine ⟨h.types, fun g tds r hg => ?_, fun g tds r hg => ?_, h.mixed⟩
  · unfold Tbl.add at hg
    cases hb : Nat.beq g f with
    | true =>
      rw [hb] at hg
      have := Nat.eq_of_beq_eq_true hb; subst this
      exact h.fns g tds r (by rw [Tbl.add_self]; exact hg)
    | false => rw [hb] at hg; simp [Tbl.none] at hg
  · unfold Tbl.add at hg
    cases hb : Nat.beq g f with
    | true =>
      rw [hb] at hg
      have := Nat.eq_of_beq_eq_true hb; subst this
      exact h.good g tds r (by rw [Tbl.add_self]; exact hg)
    | false => rw [hb] at hg; simp [Tbl.none] at hg

theorem Env.more (h : Env P T G) (h' : Has P T f F) : Env P T (G.add f F) := by
  refine ⟨h.types, fun g tds r hg => ?_, fun g tds r hg => ?_, h.mixed⟩
  · unfold Tbl.add at hg
    cases hb : Nat.beq g f with
    | true =>
      rw [hb] at hg
      have := Nat.eq_of_beq_eq_true hb; subst this
      exact h'.fns g tds r (by rw [Tbl.add_self]; exact hg)
    | false => rw [hb] at hg; exact h.fns g tds r hg
  · unfold Tbl.add at hg
    cases hb : Nat.beq g f with
    | true =>
      rw [hb] at hg
      have := Nat.eq_of_beq_eq_true hb; subst this
      exact h'.good g tds r (by rw [Tbl.add_self]; exact hg)
    | false => rw [hb] at hg; exact h.good g tds r hg

/-- a stronger contract -/
theorem Has.sub {F' : List TD → Option (Bool × SV)} (h : Has P T f F) (hs : ∀ tds r, F' tds = some r → F tds = some r) : Has P T f F' := by
  refine ⟨h.types, fun g tds r hg => ?_, fun g tds r hg => ?_, h.mixed⟩
  · unfold Tbl.add at hg
    cases hb : Nat.beq g f with
    | true =>
      rw [hb] at hg
      have := Nat.eq_of_beq_eq_true hb; subst this
      exact h.fns g tds r (by rw [Tbl.add_self]; exact hs _ _ hg)
    | false => rw [hb] at hg; simp [Tbl.none] at hg
  · unfold Tbl.add at hg
    cases hb : Nat.beq g f with
    | true =>
      rw [hb] at hg
      have := Nat.eq_of_beq_eq_true hb; subst this
      exact h.good g tds r (by rw [Tbl.add_self]; exact hs _ _ hg)
    | false => rw [hb] at hg; simp [Tbl.none] at hg

theorem Has.env (h : Has P T f F) : Env P T Tbl.none := ⟨h.types, fun f tds r h => by simp [Tbl.none] at h, fun f tds r h => by simp [Tbl.none] at h, h.mixed⟩
end

section
variable {P : Program} {T : Nat → Option Ty} {G : Tbl} {f : Nat} {fn : Func}
theorem Has.fc0 {k : Bool} {r : SV} (hE : Env P T G) (hf : P.funcs[f]? = some fn) (hb : fn.body.isSome = true) (hn : (fn.name == "runtime.NumGoroutine") = false) (hl : Nat.ble 0 fn.ntmps = true)
    (h : k = true → Goes G T fn.ntmps fn.results.toList (.more (bod fn) (entry [])) (r)) : Has P T f (FC0  k r) :=
  (Env.fc0 hE hf hb hn hl h).only
theorem Has.fc1 {a0 : Ty} {k : a0.D → Bool} {r : a0.D → SV} (hE : Env P T G) (hf : P.funcs[f]? = some fn) (hb : fn.body.isSome = true) (hn : (fn.name == "runtime.NumGoroutine") = false) (hl : Nat.ble 1 fn.ntmps = true)
    (h : ∀ x, k x = true → Goes G T fn.ntmps fn.results.toList (.more (bod fn) (entry [⟨a0, x⟩])) (r x)) : Has P T f (FC1 a0 k r) :=
  (Env.fc1 hE hf hb hn hl h).only
theorem Has.fc2 {a0 a1 : Ty} {k : a0.D → a1.D → Bool} {r : a0.D → a1.D → SV} (hE : Env P T G) (hf : P.funcs[f]? = some fn) (hb : fn.body.isSome = true) (hn : (fn.name == "runtime.NumGoroutine") = false) (hl : Nat.ble 2 fn.ntmps = true)
    (h : ∀ x y, k x y = true → Goes G T fn.ntmps fn.results.toList (.more (bod fn) (entry [⟨a0, x⟩, ⟨a1, y⟩])) (r x y)) : Has P T f (FC2 a0 a1 k r) :=
  (Env.fc2 hE hf hb hn hl h).only
theorem Has.fc3 {a0 a1 a2 : Ty} {k : a0.D → a1.D → a2.D → Bool} {r : a0.D → a1.D → a2.D → SV} (hE : Env P T G) (hf : P.funcs[f]? = some fn) (hb : fn.body.isSome = true) (hn : (fn.name == "runtime.NumGoroutine") = false) (hl : Nat.ble 3 fn.ntmps = true)
    (h : ∀ x y z, k x y z = true → Goes G T fn.ntmps fn.results.toList (.more (bod fn) (entry [⟨a0, x⟩, ⟨a1, y⟩, ⟨a2, z⟩])) (r x y z)) : Has P T f (FC3 a0 a1 a2 k r) :=
  (Env.fc3 hE hf hb hn hl h).only
theorem Has.fc4 {a0 a1 a2 a3 : Ty} {k : a0.D → a1.D → a2.D → a3.D → Bool} {r : a0.D → a1.D → a2.D → a3.D → SV} (hE : Env P T G) (hf : P.funcs[f]? = some fn) (hb : fn.body.isSome = true) (hn : (fn.name == "runtime.NumGoroutine") = false) (hl : Nat.ble 4 fn.ntmps = true)
    (h : ∀ x y z u, k x y z u = true → Goes G T fn.ntmps fn.results.toList (.more (bod fn) (entry [⟨a0, x⟩, ⟨a1, y⟩, ⟨a2, z⟩, ⟨a3, u⟩])) (r x y z u)) : Has P T f (FC4 a0 a1 a2 a3 k r) :=
  (Env.fc4 hE hf hb hn hl h).only
theorem Has.fc5 {a0 a1 a2 a3 a4 : Ty} {k : a0.D → a1.D → a2.D → a3.D → a4.D → Bool} {r : a0.D → a1.D → a2.D → a3.D → a4.D → SV} (hE : Env P T G) (hf : P.funcs[f]? = some fn) (hb : fn.body.isSome = true) (hn : (fn.name == "runtime.NumGoroutine") = false) (hl : Nat.ble 5 fn.ntmps = true)
    (h : ∀ x y z u v, k x y z u v = true → Goes G T fn.ntmps fn.results.toList (.more (bod fn) (entry [⟨a0, x⟩, ⟨a1, y⟩, ⟨a2, z⟩, ⟨a3, u⟩, ⟨a4, v⟩])) (r x y z u v)) : Has P T f (FC5 a0 a1 a2 a3 a4 k r) :=
  (Env.fc5 hE hf hb hn hl h).only
theorem Has.fc6 {a0 a1 a2 a3 a4 a5 : Ty} {k : a0.D → a1.D → a2.D → a3.D → a4.D → a5.D → Bool} {r : a0.D → a1.D → a2.D → a3.D → a4.D → a5.D → SV} (hE : Env P T G) (hf : P.funcs[f]? = some fn) (hb : fn.body.isSome = true) (hn : (fn.name == "runtime.NumGoroutine") = false) (hl : Nat.ble 6 fn.ntmps = true)
    (h : ∀ x y z u v w, k x y z u v w = true → Goes G T fn.ntmps fn.results.toList (.more (bod fn) (entry [⟨a0, x⟩, ⟨a1, y⟩, ⟨a2, z⟩, ⟨a3, u⟩, ⟨a4, v⟩, ⟨a5, w⟩])) (r x y z u v w)) : Has P T f (FC6 a0 a1 a2 a3 a4 a5 k r) :=
  (Env.fc6 hE hf hb hn hl h).only
end

/-- a part of a function's code -/
def Code.at' : Code → List Nat → Code
  | c, [] => c
  | .seq a b, i :: r => bif Nat.beq i 0 then Code.at' a r else Code.at' b r
  | .cond _ a b, i :: r => bif Nat.beq i 0 then Code.at' a r else Code.at' b r
  | .block _ a, _ :: r => Code.at' a r
  | .loop a, _ :: r => Code.at' a r
  | c, _ => c
def cAt (f : Func) (p : List Nat) : Code := Code.at' (f.body.getD .skip) p
/-- what is kept at loop heads, by the length of what comes behind -/
def kf (l : List (Nat × List Nat)) (n : Nat) : List Nat := (look n l).getD []

section
variable {P : Program} {T : Nat → Option Ty} {G G' : Tbl} {N : Nat} {rs : List ResultVar}
theorem Goes.run1 {f : Func} {n : Nat} {ks : Nat → List Nat} {tds : List TD} {L : Leaf} {r : SV} (he : run G T f.ntmps f.results.toList ks n (bod f) (entry tds) = L)
    (h : Goes G T f.ntmps f.results.toList L r) : Goes G T f.ntmps f.results.toList (.more (bod f) (entry tds)) r := .more n ks _ _ _ (.of_eq he h)
/-- a loop, entered or met again; its round is known -/
theorem Goes.lp' {n : Nat} {ks : Nat → List Nat} {L : Leaf} {st : St} {r : SV} {R : Leaf} (he : run G T N rs ks n L.round st = R) (h : Goes G T N rs R r) : Goes G T N rs (.loop L.body L.kont st) r :=
  .lp n ks (.of_eq he h)
end
end Go.Lift
