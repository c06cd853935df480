/- A part of the proof that the law returns true for every input: no condition. -/
import Derived.Test.YtgfndgkdamomdaaE2
import Derived.SizedLaws
namespace Go.Lift

/-- function f keeps the contract F -/
def Has (P : Program) (T : Nat → Option Ty) (f : Nat) (F : List TD → Option (Bool × SV)) : Prop := Env P T (Tbl.none.add f F)

section
variable {P : Program} {T : Nat → Option Ty} {G : Tbl} {f : Nat} {F : List TD → Option (Bool × SV)}

theorem Tbl.add_self (tds : List TD) : (G.add f F) f tds = F tds := by simp [Tbl.add]

theorem Env.only (h : Env P T (G.add f F)) : Has P T f F := by
  refine ⟨h.types, fun g tds r hg => ?_, fun g tds r hg => ?_, (fun g tds r hg => by simp [Tbl.add, Tbl.none] at hg), h.mixed, (fun f oc ho => by simp [Tbl.add, Tbl.none] at ho), fun t ht => by simp [Tbl.add, Tbl.none] at ht⟩
  · simp only [Tbl.add] at hg
    cases hb : Nat.beq g f with
    | true =>
      rw [hb] at hg
      have := Nat.eq_of_beq_eq_true hb; subst this
      exact h.fns g tds r (by rw [Tbl.add_self]; exact hg)
    | false => rw [hb] at hg; simp [Tbl.none] at hg
  · simp only [Tbl.add] at hg
    cases hb : Nat.beq g f with
    | true =>
      rw [hb] at hg
      have := Nat.eq_of_beq_eq_true hb; subst this
      exact h.good g tds r (by rw [Tbl.add_self]; exact hg)
    | false => rw [hb] at hg; simp [Tbl.none] at hg

theorem Env.more (h : Env P T G) (h' : Has P T f F) : Env P T (G.add f F) := by
  refine ⟨h.types, fun g tds r hg => ?_, fun g tds r hg => ?_, h.seqs, h.mixed, h.owns, h.maps⟩
  · simp only [Tbl.add] at hg
    cases hb : Nat.beq g f with
    | true =>
      rw [hb] at hg
      have := Nat.eq_of_beq_eq_true hb; subst this
      exact h'.fns g tds r (by rw [Tbl.add_self]; exact hg)
    | false => rw [hb] at hg; exact h.fns g tds r hg
  · simp only [Tbl.add] at hg
    cases hb : Nat.beq g f with
    | true =>
      rw [hb] at hg
      have := Nat.eq_of_beq_eq_true hb; subst this
      exact h'.good g tds r (by rw [Tbl.add_self]; exact hg)
    | false => rw [hb] at hg; exact h.good g tds r hg

/-- a stronger contract -/
theorem Has.sub {F' : List TD → Option (Bool × SV)} (h : Has P T f F) (hs : ∀ tds r, F' tds = some r → F tds = some r) : Has P T f F' := by
  refine ⟨h.types, fun g tds r hg => ?_, fun g tds r hg => ?_, (fun g tds r hg => by simp [Tbl.add, Tbl.none] at hg), h.mixed, (fun f oc ho => by simp [Tbl.add, Tbl.none] at ho), fun t ht => by simp [Tbl.add, Tbl.none] at ht⟩
  · simp only [Tbl.add] at hg
    cases hb : Nat.beq g f with
    | true =>
      rw [hb] at hg
      have := Nat.eq_of_beq_eq_true hb; subst this
      exact h.fns g tds r (by rw [Tbl.add_self]; exact hs _ _ hg)
    | false => rw [hb] at hg; simp [Tbl.none] at hg
  · simp only [Tbl.add] at hg
    cases hb : Nat.beq g f with
    | true =>
      rw [hb] at hg
      have := Nat.eq_of_beq_eq_true hb; subst this
      exact h.good g tds r (by rw [Tbl.add_self]; exact hs _ _ hg)
    | false => rw [hb] at hg; simp [Tbl.none] at hg

/-- the iterator that function f makes of its arguments yields a list -/
def Tbl.addS (G : Tbl) (f : Nat) (F : List TD → Option (Bool × SQ)) : Tbl := ⟨G.c, fun g tds => bif Nat.beq g f then F tds else G.s g tds, G.m, G.o⟩
def HasS (P : Program) (_T : Nat → Option Ty) (f : Nat) (F : List TD → Option (Bool × SQ)) : Prop := SeqGood P (Tbl.none.addS f F)
theorem Env.moreS {F : List TD → Option (Bool × SQ)} (h : Env P T G) (h' : HasS P T f F) : Env P T (G.addS f F) := by
  refine ⟨h.types, h.fns, h.good, fun g tds r hg => ?_, h.mixed, h.owns, h.maps⟩
  simp only [Tbl.addS] at hg
  cases hb : Nat.beq g f with
  | true =>
    rw [hb] at hg
    have := Nat.eq_of_beq_eq_true hb; subst this
    exact h' g tds r (by simp only [Tbl.addS, hb]; exact hg)
  | false => rw [hb] at hg; exact h.seqs g tds r hg
/-- a type of maps from int to int -/
def Tbl.addM (G : Tbl) (t : Nat) : Tbl := ⟨G.c, G.s, fun u => Nat.beq u t || G.m u, G.o⟩
theorem Env.addM {t k e : Nat} (h : Env P T G) (h1 : P.underlying t = some (.map k e)) (h2 : P.underlying k = some (.int .i64)) (h3 : chk P (.int .i64) e = true) : Env P T (G.addM t) := by
  refine ⟨h.types, h.fns, h.good, h.seqs, h.mixed, h.owns, fun u hu => ?_⟩
  simp only [Tbl.addM, Bool.or_eq_true] at hu
  rcases hu with hu | hu
  · have := Nat.eq_of_beq_eq_true hu; subst this; exact ⟨k, e, h1, h2, h3⟩
  · exact h.maps u hu
/-- a function that takes a vector -/
def Tbl.addO (G : Tbl) (f : Nat) (F : OC) : Tbl := ⟨fun g tds => bif Nat.beq g f then Option.none else G.c g tds, G.s, G.m, fun g => bif Nat.beq g f then some F else G.o g⟩
def HasO (P : Program) (f : Nat) (F : OC) : Prop := OwnGood P (Tbl.none.addO f F)
theorem Env.moreO {F : OC} (h : Env P T G) (h' : HasO P f F) : Env P T (G.addO f F) := by
  refine ⟨h.types, fun g tds r hg => ?_, fun g tds r hg => ?_, h.seqs, h.mixed, fun g oc hg => ?_, h.maps⟩
  · simp only [Tbl.addO] at hg
    cases hb : Nat.beq g f with
    | true => rw [hb] at hg; cases hg
    | false => rw [hb] at hg; exact h.fns g tds r hg
  · simp only [Tbl.addO] at hg
    cases hb : Nat.beq g f with
    | true => rw [hb] at hg; cases hg
    | false => rw [hb] at hg; exact h.good g tds r hg
  simp only [Tbl.addO] at hg
  cases hb : Nat.beq g f with
  | true =>
    rw [hb] at hg
    have := Nat.eq_of_beq_eq_true hb; subst this
    exact h' g oc (by simp only [Tbl.addO, hb]; exact hg)
  | false => rw [hb] at hg; exact h.owns g oc hg
theorem Has.env (h : Has P T f F) : Env P T Tbl.none := ⟨h.types, fun f tds r h => by simp [Tbl.none] at h, fun f tds r h => by simp [Tbl.none] at h, fun f tds r h => by simp [Tbl.none] at h, h.mixed, (fun f oc ho => by simp [Tbl.none] at ho), fun t ht => by simp [Tbl.none] at ht⟩
end

section
variable {P : Program} {T : Nat → Option Ty} {G : Tbl} {f : Nat} {fn : Func}
theorem Has.fc0 {k : Bool} {r : SV} (hE : Env P T G) (hf : P.funcs[f]? = some fn) (hb : fn.body.isSome = true) (hn : (fn.name == "runtime.NumGoroutine") = false) (hl : Nat.ble 0 fn.ntmps = true)
    (h : k = true → Goes G T fn.ntmps fn.results.toList (.more (bod fn) (entry [])) (r)) : Has P T f (FC0  k r) :=
  (Env.fc0 hE hf hb hn hl h).only
theorem Has.fc1 {a0 : Ty} {k : a0.D → Bool} {r : a0.D → SV} (hE : Env P T G) (hf : P.funcs[f]? = some fn) (hb : fn.body.isSome = true) (hn : (fn.name == "runtime.NumGoroutine") = false) (hl : Nat.ble 1 fn.ntmps = true)
    (h : ∀ x, k x = true → Goes G T fn.ntmps fn.results.toList (.more (bod fn) (entry [⟨a0, x⟩])) (r x)) : Has P T f (FC1 a0 k r) :=
  (Env.fc1 hE hf hb hn hl h).only
theorem Has.fc2 {a0 a1 : Ty} {k : a0.D → a1.D → Bool} {r : a0.D → a1.D → SV} (hE : Env P T G) (hf : P.funcs[f]? = some fn) (hb : fn.body.isSome = true) (hn : (fn.name == "runtime.NumGoroutine") = false) (hl : Nat.ble 2 fn.ntmps = true)
    (h : ∀ x y, k x y = true → Goes G T fn.ntmps fn.results.toList (.more (bod fn) (entry [⟨a0, x⟩, ⟨a1, y⟩])) (r x y)) : Has P T f (FC2 a0 a1 k r) :=
  (Env.fc2 hE hf hb hn hl h).only
theorem Has.fc3 {a0 a1 a2 : Ty} {k : a0.D → a1.D → a2.D → Bool} {r : a0.D → a1.D → a2.D → SV} (hE : Env P T G) (hf : P.funcs[f]? = some fn) (hb : fn.body.isSome = true) (hn : (fn.name == "runtime.NumGoroutine") = false) (hl : Nat.ble 3 fn.ntmps = true)
    (h : ∀ x y z, k x y z = true → Goes G T fn.ntmps fn.results.toList (.more (bod fn) (entry [⟨a0, x⟩, ⟨a1, y⟩, ⟨a2, z⟩])) (r x y z)) : Has P T f (FC3 a0 a1 a2 k r) :=
  (Env.fc3 hE hf hb hn hl h).only
theorem Has.fc4 {a0 a1 a2 a3 : Ty} {k : a0.D → a1.D → a2.D → a3.D → Bool} {r : a0.D → a1.D → a2.D → a3.D → SV} (hE : Env P T G) (hf : P.funcs[f]? = some fn) (hb : fn.body.isSome = true) (hn : (fn.name == "runtime.NumGoroutine") = false) (hl : Nat.ble 4 fn.ntmps = true)
    (h : ∀ x y z u, k x y z u = true → Goes G T fn.ntmps fn.results.toList (.more (bod fn) (entry [⟨a0, x⟩, ⟨a1, y⟩, ⟨a2, z⟩, ⟨a3, u⟩])) (r x y z u)) : Has P T f (FC4 a0 a1 a2 a3 k r) :=
  (Env.fc4 hE hf hb hn hl h).only
theorem Has.fc5 {a0 a1 a2 a3 a4 : Ty} {k : a0.D → a1.D → a2.D → a3.D → a4.D → Bool} {r : a0.D → a1.D → a2.D → a3.D → a4.D → SV} (hE : Env P T G) (hf : P.funcs[f]? = some fn) (hb : fn.body.isSome = true) (hn : (fn.name == "runtime.NumGoroutine") = false) (hl : Nat.ble 5 fn.ntmps = true)
    (h : ∀ x y z u v, k x y z u v = true → Goes G T fn.ntmps fn.results.toList (.more (bod fn) (entry [⟨a0, x⟩, ⟨a1, y⟩, ⟨a2, z⟩, ⟨a3, u⟩, ⟨a4, v⟩])) (r x y z u v)) : Has P T f (FC5 a0 a1 a2 a3 a4 k r) :=
  (Env.fc5 hE hf hb hn hl h).only
theorem Has.fc6 {a0 a1 a2 a3 a4 a5 : Ty} {k : a0.D → a1.D → a2.D → a3.D → a4.D → a5.D → Bool} {r : a0.D → a1.D → a2.D → a3.D → a4.D → a5.D → SV} (hE : Env P T G) (hf : P.funcs[f]? = some fn) (hb : fn.body.isSome = true) (hn : (fn.name == "runtime.NumGoroutine") = false) (hl : Nat.ble 6 fn.ntmps = true)
    (h : ∀ x y z u v w, k x y z u v w = true → Goes G T fn.ntmps fn.results.toList (.more (bod fn) (entry [⟨a0, x⟩, ⟨a1, y⟩, ⟨a2, z⟩, ⟨a3, u⟩, ⟨a4, v⟩, ⟨a5, w⟩])) (r x y z u v w)) : Has P T f (FC6 a0 a1 a2 a3 a4 a5 k r) :=
  (Env.fc6 hE hf hb hn hl h).only
end

/-- a part of a function's code -/
def Code.at' : Code → List Nat → Code
  | c, [] => c
  | .seq a b, i :: r => bif Nat.beq i 0 then Code.at' a r else Code.at' b r
  | .cond _ a b, i :: r => bif Nat.beq i 0 then Code.at' a r else Code.at' b r
  | .block _ a, _ :: r => Code.at' a r
  | .loop a, _ :: r => Code.at' a r
  | .rangeFunc _ _ a b, i :: r => bif Nat.beq i 0 then Code.at' a r else Code.at' b r
  | c, _ => c
def cAt (f : Func) (p : List Nat) : Code := Code.at' (f.body.getD .skip) p
/-- what is kept at loop heads, by the length of what comes behind -/
def kf (l : List (Nat × List Nat)) (n : Nat) : List Nat := match look n l with | some x => x | none => (look (n % 64) l).getD []

section
variable {P : Program} {T : Nat → Option Ty} {G G' : Tbl} {N : Nat} {rs : List ResultVar}
theorem Goes.run1 {f : Func} {n : Nat} {ks : Nat → List Nat} {tds : List TD} {L : Leaf} {r : SV} (he : run G T f.ntmps f.results.toList ks n (bod f) (entry tds) = L)
    (h : Goes G T f.ntmps f.results.toList L r) : Goes G T f.ntmps f.results.toList (.more (bod f) (entry tds)) r := .more n ks _ _ _ (.of_eq he h)
/-- a loop, entered or met again; its round is known -/
theorem Goes.lp' {n : Nat} {ks : Nat → List Nat} {L : Leaf} {st : St} {r : SV} {R : Leaf} (he : run G T N rs ks n L.round st = R) (h : Goes G T N rs R r) : Goes G T N rs (.loop L.body L.kont st) r :=
  .lp n ks (.of_eq he h)
end
end Go.Lift
set_option linter.unusedVariables false
namespace Go.Lift

section
variable {P : Program} {T : Nat → Option Ty} {f : Nat} {F F' : List TD → Option (Bool × SV)}

/-- own memory, laid down as data -/
theorem cool {σ : Store P} {w : World} {n0 : Nat} {t : Ty} {l : List t.D} {v : Value} (hh : Holds w σ) (hB : BoxR σ w n0 (.vec t l) v) :
    ∃ τ, Store.le σ τ ∧ Holds w τ ∧ (∀ k o, τ k = some o → σ k = some o ∨ n0 ≤ k) ∧ RelV τ ⟨.slice t, l⟩ v := by
  have hblk := hB.block
  have hle : Store.le σ (fun k => if hBlock v = some k then w.heap[k]? else σ k) := by
    intro k o hk
    show (if hBlock v = some k then w.heap[k]? else σ k) = some o
    split
    · rename_i e; have := (hblk k e).2.2.1; rw [hk] at this; simp at this
    · exact hk
  have hg : ∀ g, hBlock v = some g → (fun k => if hBlock v = some k then w.heap[k]? else σ k) g = w.heap[g]? := fun g e => by simp [e]
  refine ⟨_, hle, fun k o hk => ?_, fun k o hk => ?_, box_slice' hle hg hB⟩
  · change (if hBlock v = some k then w.heap[k]? else σ k) = some o at hk
    split at hk
    · exact hk
    · exact hh k o hk
  · change (if hBlock v = some k then w.heap[k]? else σ k) = some o at hk
    split at hk
    · rename_i e; exact .inr (hblk k e).2.1
    · exact .inl hk

/-- a function that gives memory of its own also gives data -/
theorem Has.cool (h : Has P T f F) (hs : ∀ tds r, F' tds = some r → ∃ (t : Ty) (l : List t.D), F tds = some (r.1, .own t l) ∧ r.2 = .tv ⟨.slice t, l⟩) : Has P T f F' := by
  refine ⟨h.types, fun g tds r hg => ?_, fun g tds r hg => ?_, (fun g tds r hg => by simp [Tbl.add, Tbl.none] at hg), h.mixed, (fun f oc ho => by simp [Tbl.add, Tbl.none] at ho), fun t ht => by simp [Tbl.add, Tbl.none] at ht⟩
  · simp only [Tbl.add] at hg
    cases hb : Nat.beq g f with
    | true =>
      rw [hb] at hg
      have := Nat.eq_of_beq_eq_true hb; subst this
      obtain ⟨t, l, h1, _⟩ := hs _ _ hg
      exact h.fns g tds _ (by rw [Tbl.add_self]; exact h1)
    | false => rw [hb] at hg; simp [Tbl.none] at hg
  · simp only [Tbl.add] at hg
    cases hb : Nat.beq g f with
    | true =>
      rw [hb] at hg
      have := Nat.eq_of_beq_eq_true hb; subst this
      obtain ⟨t, l, h1, h2⟩ := hs _ _ hg
      dsimp only at h1 h2
      subst h2
      intro σ w vs hh ha
      refine Calls.mono (h.good g tds (.own t l) (by rw [Tbl.add_self]; exact h1) σ w vs hh ha) fun e w' he => ?_
      obtain ⟨v, σ', e1, st, hr⟩ := he
      obtain ⟨τ, a1, a2, a3, a4⟩ := Lift.cool st.holds hr
      refine ⟨v, τ, e1, ⟨st.le.trans a1, a2, fun b o hb => ?_, st.size, st.block, st.os, st.output, st.tape⟩, a4⟩
      rcases a3 b o hb with h3 | h3
      · exact st.news b o h3
      · exact .inr h3
    | false => rw [hb] at hg; simp [Tbl.none] at hg
theorem Has.cool5 {a b c d e t : Ty} {k : a.D → b.D → c.D → d.D → e.D → Bool} {r : a.D → b.D → c.D → d.D → e.D → List t.D} (h : Has P T f (FC5 a b c d e k fun x y z u v => .own t (r x y z u v))) :
    Has P T f (FC5 a b c d e k fun x y z u v => .tv ⟨.slice t, r x y z u v⟩) := by
  refine h.cool fun tds s hs => ?_
  unfold FC5 at *
  split at hs
  · simp only [Option.bind_eq_some_iff, Option.map_eq_some_iff] at hs
    obtain ⟨x, hx, y, hy, z, hz, u, hu, v, hv, rfl⟩ := hs
    exact ⟨t, r x y z u v, by simp only [hx, hy, hz, hu, hv, Option.bind_some, Option.map_some], rfl⟩
  · simp at hs
end
end Go.Lift

namespace Go.Lift
section
variable {P : Program} {T : Nat → Option Ty} {f : Nat}
theorem Has.cool2 {a b t : Ty} {k : a.D → b.D → Bool} {r : a.D → b.D → List t.D} (h : Has P T f (FC2 a b k fun x y => .own t (r x y))) :
    Has P T f (FC2 a b k fun x y => .tv ⟨.slice t, r x y⟩) := by
  refine h.cool fun tds s hs => ?_
  unfold FC2 at *
  split at hs
  · simp only [Option.bind_eq_some_iff, Option.map_eq_some_iff] at hs
    obtain ⟨x, hx, y, hy, rfl⟩ := hs
    exact ⟨t, r x y, by simp only [hx, hy, Option.bind_some, Option.map_some], rfl⟩
  · simp at hs
end
end Go.Lift
set_option linter.unusedSimpArgs false
set_option linter.unusedVariables false
namespace Go.Lift

/-! Functions that are handed a loop's yield: their regions, operation by operation -/
section
variable {P : Program} {T : Nat → Option Ty} {G : Tbl} {w w' : World} {σ σ' τ : Store P} {H H' : Nat → Value} {n0 N : Nat} {ops : Array Oper} {ro : Option Nat} {n : Nat}

theorem wpIn_of_wp {o : Oper} {a : Act} {next : Act → World → Prop} {Q : Exit → Act → World → Prop} (hnd : ∀ c, o.op ≠ .defer c) (hQ : ∀ a w, ¬ Q .outgrown a w) (h : o.wp P a w next Q) : o.wpIn (fence ro) n P a w next Q := by
  have hno : ¬ LetsOut Q := fun ⟨a, w, h⟩ => hQ a w h
  refine ⟨fun _ _ => trivial, ?_⟩
  rw [Oper.semAt_eq _ _ _ hnd]
  unfold Oper.wp at h
  generalize (execOp a.eval o).run P w = r at *
  have dn : ((fence ro).depth.isSome = true → 1 ≤ n) := fun h => by simp [Fence.wide, fence] at h
  cases r with
  | ok x w' =>
    cases x <;> simp only [Oper.upon, Oper.uponIn] at h ⊢
    case value v => exact h
    case skip => exact h
    case defer d => exact h
    case enter f args =>
      refine ⟨dn, (callsIn_wide (n := n - 1)).2 (h.mono fun e w'' he => ?_)⟩
      cases e with
      | returned v => exact he
      | panicked chain => exact he
      | outgrown => exact (hno he).elim
    case row r args =>
      refine ⟨dn, fun c cs _ => ?_⟩
      obtain ⟨v, w'', hR, hs⟩ := h c cs
      exact ⟨v, w'', hR, stepsIn_wide.2 hs⟩
  | halt x w' => cases x <;> simp only [Oper.upon, Oper.uponIn] at h ⊢; exact h

theorem opsIn_go {i : Nat} {is : List Nat} {o : Oper} {a : Act} {Q : Exit → Act → World → Prop} (ho : ops[i]? = some o) (hw : want ops o a = true) (h : o.wpIn (fence ro) n P a w (wpOpsIn (fence ro) n P ops Q is) Q) : wpOpsIn (fence ro) n P ops Q (i :: is) a w := by
  unfold want at hw
  simp only [wpOpsIn, ho, hw, if_true]
  exact h

theorem opsIn_pass {i : Nat} {is : List Nat} {o : Oper} {a : Act} {Q : Exit → Act → World → Prop} (ho : ops[i]? = some o) (hw : want ops o a = false) (h : wpOpsIn (fence ro) n P ops Q is (a.put o.dst undef) w) : wpOpsIn (fence ro) n P ops Q (i :: is) a w := by
  unfold want at hw
  simp only [wpOpsIn, ho, hw, Bool.false_eq_true, if_false]
  exact ⟨fun _ _ => trivial, h⟩

theorem opdR_of {o : Oper} {a : Act} {st : St} (hR : Rel (fun _ => True) N n0 σ H st a w) : OpdR (opd st) o a σ st.bx H := by
  unfold OpdR
  split
  · exact ⟨fun s h => hR.opd (fun _ _ => trivial) h, fun _ s h => hR.opd (fun _ _ => trivial) h, fun _ s h => hR.opd (fun _ _ => trivial) h⟩
  · exact fun x _ s h => hR.opd (fun _ _ => trivial) h

/-- an operation that gives a value -/
theorem opsIn_val (hE : Env P T G) {st : St} {i : Nat} {is : List Nat} {o : Oper} {a : Act} {Q : Exit → Act → World → Prop} {s : SV} (ho : ops[i]? = some o) (hw : want ops o a = true) (hnd : ∀ c, o.op ≠ .defer c) (hQ : ∀ a w, ¬ Q .outgrown a w)
    (hR : Rel (fun _ => True) N n0 σ H st a w) (hv : opVal G T st.bx (opd st) o = some (true, s)) (hd : dstOK N o.dst)
    (hn : ∀ v σ2 w2, Step σ w σ2 w2 → SVR σ2 st.bx H s v → Rel (fun _ => True) N n0 σ2 H (st.put o.dst s) (a.put o.dst v) w2 → wpOpsIn (fence ro) n P ops Q is (a.put o.dst v) w2) : wpOpsIn (fence ro) n P ops Q (i :: is) a w :=
  opsIn_go ho hw (wpIn_of_wp hnd hQ (opVal_yields hE hR.holds hR.box (opdR_of hR) hv _ Q fun v σ2 w2 hst hsv => hn v σ2 w2 hst hsv ((hR.step hst).put hd hsv)))

/-- a move of whatever is there -/
theorem opsIn_move {st : St} {i : Nat} {is : List Nat} {o : Oper} {a : Act} {Q : Exit → Act → World → Prop} {x : Operand} (ho : ops[i]? = some o) (hw : want ops o a = true) (hop : o.op = .move x)
    (hR : Rel (fun _ => True) N n0 σ H st a w) (hd : dstOK N o.dst)
    (hn : Rel (fun _ => True) N n0 σ H (st.put o.dst .gone) (a.put o.dst (a.eval x)) w → wpOpsIn (fence ro) n P ops Q is (a.put o.dst (a.eval x)) w) : wpOpsIn (fence ro) n P ops Q (i :: is) a w := by
  refine opsIn_go ho hw ⟨fun _ _ => trivial, ?_⟩
  rw [Oper.semAt_eq _ _ _ (by simp [hop])]
  simp only [execOp, hop, Sem.run_pure, Oper.uponIn]
  exact hn (hR.put hd trivial)

/-- the call of a loop's yield -/
theorem opsIn_yield {i : Nat} {is : List Nat} {o : Oper} {a : Act} {Q : Exit → Act → World → Prop} {c : Call} {t l : Nat} {x : Operand} {R : World → Prop} (ho : ops[i]? = some o) (hw : want ops o a = true) (hop : o.op = .call c) (hc : c.callee = .value (.tmp t)) (ha : c.args = #[x])
    (ht : a.eval (.tmp t) = .func (.yield l) #[] #[]) (hy : Yielded P l (a.eval x) w R)
    (hn : ∀ w', R w' → wpOpsIn (fence ro) n P ops Q is (a.put o.dst (.bool true)) w') : wpOpsIn (fence ro) n P ops Q (i :: is) a w := by
  refine opsIn_go ho hw ⟨fun _ _ => trivial, ?_⟩
  rw [Oper.semAt_eq _ _ _ (by simp [hop])]
  obtain ⟨fn, tmps, assign, body, hr, hs⟩ := hy
  have hrun : (execOp a.eval o).run P w = .ok (.round l fn tmps assign body) w := by
    simp only [execOp, hop, resolve, hc, ha, ht, Deferred.ofValue, Sem.run_bind, Sem.run_pure, Result.andThen_ok, invoke]
    simpa using hr
  rw [hrun]
  simp only [Oper.uponIn]
  refine ⟨fun h => by simp [Fence.wide, fence] at h, trivial, fun c cs _ => ?_⟩
  obtain ⟨w', hR, hst⟩ := hs c cs
  exact ⟨.returned (.bool true), w', hn w' hR, stepsIn_wide.2 hst⟩

/-- a region, from its operations -/
theorem regionIn {id : Nat} {a : Act} {Q : Exit → Act → World → Prop} (hQ : ∀ e a w, Q e a w → e = .normal) (h : wpOpsIn (fence ro) n P ops Q (List.range ops.size) a w) (b : Frame) (hb : b.roundOf = ro) (k : List Item) (cs : List Frame) :
    ∃ a' w', Q .normal a' w' ∧ Steps P (lone (b.atR a (.code (.region id ops false) :: k)) cs w) (lone (b.atR a' k) cs w') := by
  obtain ⟨e, a', w', hq, harr⟩ := wp_opsIn _ a w h b k cs hb trivial (fun _ h => by simp [Fence.wide, fence] at h)
  have he := hQ _ _ _ hq
  subst he
  exact ⟨a', w', hq, (Steps.one stepR_region).trans (StepsIn.steps harr)⟩

theorem want_true_of {o : Oper} {a : Act} {m d : Nat} {om : Oper} {b : Bool} (hg : o.guard = some (m, b)) (hm : ops.toList[m]? = some om) (hd : om.dst = some d) (hv : a.tmps.getD d undef = .bool b) : want ops o a = true := by
  rw [want_some hg, yielded_bool hm hd hv]; simp
theorem want_false_of {o : Oper} {a : Act} {m d : Nat} {om : Oper} {b : Bool} (hg : o.guard = some (m, b)) (hm : ops.toList[m]? = some om) (hd : om.dst = some d) (hv : a.tmps.getD d undef = .bool (!b)) : want ops o a = false := by
  rw [want_some hg, yielded_bool hm hd hv]; cases b <;> rfl

/-- a way without loops to its end, in a function of its own -/
theorem reach_done (hE : Env P T G) {ps : List Nat} {X : Nat → Value} {ks : Nat → List Nat} {b : Frame} {cs : List Frame} {m : Machine} {todo K : List Item} {st : St} {a : Act} {L : Leaf} (hL : L ≠ .fail) (k : Nat)
    (hR : Rel (fun _ => True) N n0 σ H st a w) (hp : Pinned ps X a) (hs : Steps P m (lone (b.atR a (todo ++ K)) cs w)) (hr : runP (some ps) G T N [] ks k todo st = L) : RestR P N n0 ps X K b cs m σ w L := by
  obtain ⟨L', h1, h2⟩ := run_reachR (ks := ks) (Φ := fun L' => L' = L) (fun h => hL h.symm) hE (b := b) rfl k todo st a w σ H (Trans.refl hR.holds) hR hp hs hr
  subst h1; exact h2

/-- the last step of a function without results -/
theorem calls_end {f : Nat} {fn : Func} (hf : P.funcs[f]? = some fn) (hres : fn.results = #[]) {b : Frame} {a : Act} {cs : List Frame} {m : Machine} {R : Ending → World → Prop} (hbf : b.fn = f) (hbk : b.kind = .normal) (hbr : b.roundOf = none) (had : a.defers = [])
    (hs : Steps P m (lone (b.atR a []) cs w)) (hR : R (.returned (.tuple #[])) w) : ∃ e w' fr, R e w' ∧ Comes P m (lone fr cs w') e ∧ fr.fn = f ∧ fr.leaving P w' e := by
  refine ⟨.returned (.tuple #[]), w, { b.at a [] with mode := .returning }, hR, ?_, hbf, rfl, had, hbk, fn, by rw [← hbf] at hf; exact hf, ?_⟩
  · rw [Frame.atR_of_none hbr] at hs
    exact hs.trans (.one step_end)
  · rw [results_eq, hres]; simp
end
end Go.Lift
namespace Go.Lift
/-- contracts of iterators that hold two data -/
def SC2 (a0 a1 : Ty) (k : a0.D → a1.D → Bool) (e : Ty) (r : a0.D → a1.D → List e.D) : List TD → Option (Bool × SQ) := fun tds =>
  match tds with
  | [x, y] => (x.as a0).bind fun u => (y.as a1).map fun v => (k u v, ⟨e, r u v⟩)
  | _ => none

theorem HasS.two {P : Program} {T : Nat → Option Ty} {f : Nat} {a0 a1 e : Ty} {k : a0.D → a1.D → Bool} {r : a0.D → a1.D → List e.D}
    (h : ∀ x y, k x y = true → ∀ (σ : Store P) (caps : Array Value), ArgsR σ [⟨a0, x⟩, ⟨a1, y⟩] caps → Enc σ (.seq e) (true, r x y) [.func (.func f) #[] caps]) : HasS P T f (SC2 a0 a1 k e r) := by
  intro g tds q hg
  simp only [Tbl.addS, Tbl.none] at hg
  cases hb : Nat.beq g f with
  | false => rw [hb] at hg; simp at hg
  | true =>
    rw [hb] at hg
    have := Nat.eq_of_beq_eq_true hb; subst this
    simp only [cond_true] at hg
    unfold SC2 at hg
    split at hg
    · rename_i x y
      simp only [Option.bind_eq_some_iff, Option.map_eq_some_iff, Prod.mk.injEq] at hg
      obtain ⟨u, hu, v, hv, hk, rfl⟩ := hg
      have := TD.as_eq hu
      have := TD.as_eq hv
      subst_vars
      exact h u v hk
    · simp at hg
end Go.Lift
set_option linter.unusedSimpArgs false
set_option linter.unusedVariables false
namespace Go.Lift

/-! Loops over iterators: a state that is folded -/
section
variable {P : Program} {T : Nat → Option Ty} {G : Tbl} {N : Nat} {rs : List ResultVar}

theorem slotsIn_mem {ps : List Nat} {st : St} (h : (st.sl.all fun x => ps.any (Nat.beq x.1)) = true) : slotsIn ps st = true := h

/-- a loop over a function: the leaf is given by its equation -/
theorem Goes.fold {e : Ty} {A : Type} {ps : List Nat} {p : Nat} {L : Bool × List e.D} {assign body : Code} {k : List Item} {st : St} {r : SV} (mk : A → St) (step : A → e.D → A) (a0 : A) (hL : L.1 = true) (hp : p < N) (hpp : ps.any (Nat.beq p) = false) (h0 : mk a0 = st) (hsl : slotsIn ps st = true)
    (hround : ∀ (i : Nat) (x : e.D), L.2[i]? = some x → Round ps G T N p assign body e x (mk ((L.2.take i).foldl step a0)) (mk (step ((L.2.take i).foldl step a0) x)))
    (h : Goes G T N rs (.more k (mk (L.2.foldl step a0))) r) : Goes G T N rs (.iter e L [p] assign body k st) r := by
  refine Goes.iter ps (fun i => mk ((L.2.take i).foldl step a0)) p e L assign body k st r hL hp hpp (by simpa using h0) hsl (fun i x hx => ?_) (by simpa using h)
  have e1 : L.2.take (i + 1) = L.2.take i ++ [x] := by rw [List.take_add_one, hx]; rfl
  show Round ps G T N p assign body e x _ (mk ((L.2.take (i + 1)).foldl step a0))
  rw [e1, List.foldl_append]
  exact hround i x hx

/-- a round without a loop of its own -/
theorem Round.go {ps : List Nat} {p : Nat} {assign body : Code} {e : Ty} {x : e.D} {S S' s1 s2 : St} {n m : Nat} {ks ks' : Nat → List Nat} (h1 : runP (some ps) G T N [] ks n [.code assign] ⟨ins p (.tv ⟨e, x⟩) S.sl, S.bx⟩ = .done s1)
    (h2 : runP (some ps) G T N [] ks' m [.code body] s1 = .done s2) (h3 : S' = keep ps s2) : Round ps G T N p assign body e x S S' :=
  ⟨s1, s2, .more n ks _ _ _ (by rw [h1]; exact .done s1), .more m ks' _ _ _ (by rw [h2]; exact .done s2), h3⟩
end

/-- the parts of a loop over a function -/
def Leaf.assignC : Leaf → Code
  | .iter _ _ _ a _ _ _ => a
  | _ => .skip
def Leaf.iterBody : Leaf → Code
  | .iter _ _ _ _ b _ _ => b
  | _ => .skip
end Go.Lift
set_option linter.unusedSimpArgs false
set_option linter.unusedVariables false
namespace Go.Lift
open Go.ChangeShapes Go.WideShapes Go.RowKit

/-! the form's reach, as a bound on each list's bytes -/
def Sz : (t : Ty) → t.D → Prop
  | .slice e, l => (e.exact = true → List.length l * e.wid ≤ reachBytes) ∧ ∀ (i : Nat) (h : i < List.length l), Sz e (l[i])
  | .cons a b, x => Sz a x.1 ∧ Sz b x.2
  | .int _, _ | .bool, _ | .str, _ | .nil, _ => True
  | .ptr _, _ | .fn _ _, _ | .seq _, _ => True

section
variable {H : Type} {enc : TypeId × Value → H} {P : Program} {w : World}
abbrev fits (l : List Nat) : Prop := ∀ n ∈ l, n ≤ reachBytes

def MainZ (H : Type) (enc : TypeId × Value → H) (P : Program) (w : World) (t : Ty) : Prop :=
  ∀ (fuel ty : Nat) (cs : List Value) (r : DataW H × List MemPlace) (x : t.D), chk P t ty = true → DataW.trod enc P w 0 (fun _ => true) true fuel ty cs = some r → t.plain = true → Enc (heapS (P := P) w) t x cs → fits (r.1.weights P ty) → Sz t x
def FieldsZ (H : Type) (enc : TypeId × Value → H) (P : Program) (w : World) (t : Ty) : Prop :=
  ∀ (fuel : Nat) (fs : List Field) (off : Nat) (cs : List Value) (xs : List (DataW H × List MemPlace)) (x : t.D), chkF P t fs off = true →
    (fs.mapM fun f => DataW.trod enc P w 0 (fun _ => true) true fuel f.type ((cs.drop f.offset).take (P.cellsOf f.type))) = some xs → cs.length = off + t.size → t.plain = true → Enc (heapS (P := P) w) t x (cs.drop off) → fits (DataW.weightsEach P (fs.map (·.type)) (xs.map (·.1))) → Sz t x
def ArrZ (H : Type) (enc : TypeId × Value → H) (P : Program) (w : World) (t : Ty) : Prop :=
  ∀ (fuel et n k : Nat) (cs : List Value) (xs : List (DataW H × List MemPlace)) (x : t.D), chkA P t et n = true →
    ((List.range' k n).mapM fun i => DataW.trod enc P w 0 (fun _ => true) true fuel et ((cs.drop (i * P.cellsOf et)).take (P.cellsOf et))) = some xs → cs.length = k * P.cellsOf et + t.size → t.plain = true → Enc (heapS (P := P) w) t x (cs.drop (k * P.cellsOf et)) → fits (DataW.weightsAll P et (xs.map (·.1))) → Sz t x

theorem lies_eq {σ : Store P} {a : Addr} {c c' : List Value} (h : Lies σ a c) (h' : Lies σ a c') (hl : c.length = c'.length) : c = c' := by
  apply List.ext_getElem hl
  intro j h1 h2
  have e1 := h j c[j] (List.getElem?_eq_getElem h1)
  have e2 := h' j c'[j] (List.getElem?_eq_getElem h2)
  rw [e1] at e2
  exact Option.some.inj e2

theorem weightsAll_mem {t : TypeId} : ∀ {l : List (DataW H)} {d : DataW H}, d ∈ l → ∀ n ∈ d.weights P t, n ∈ DataW.weightsAll P t l
  | [], _, h, _, _ => by cases h
  | x :: r, d, h, n, hn => by
    simp only [DataW.weightsAll, List.mem_append]
    rcases List.mem_cons.1 h with e | e
    · subst e; exact .inl hn
    · exact .inr (weightsAll_mem e n hn)

theorem sz_all (t : Ty) : MainZ H enc P w t ∧ FieldsZ H enc P w t ∧ ArrZ H enc P w t := by
  induction t with
  | int k => exact ⟨fun _ _ _ _ _ _ _ _ _ _ => trivial, fun _ _ _ _ _ _ _ _ _ _ _ _ => trivial, fun _ _ _ _ _ _ _ _ _ _ _ _ _ => trivial⟩
  | bool => exact ⟨fun _ _ _ _ _ _ _ _ _ _ => trivial, fun _ _ _ _ _ _ _ _ _ _ _ _ => trivial, fun _ _ _ _ _ _ _ _ _ _ _ _ _ => trivial⟩
  | str => exact ⟨fun _ _ _ _ _ _ _ _ _ _ => trivial, fun _ _ _ _ _ _ _ _ _ _ _ _ => trivial, fun _ _ _ _ _ _ _ _ _ _ _ _ _ => trivial⟩
  | nil => exact ⟨fun _ _ _ _ _ _ _ _ _ _ => trivial, fun _ _ _ _ _ _ _ _ _ _ _ _ => trivial, fun _ _ _ _ _ _ _ _ _ _ _ _ _ => trivial⟩
  | ptr e ih => exact ⟨fun _ _ _ _ _ _ _ _ _ _ => trivial, fun _ _ _ _ _ _ _ _ _ _ _ _ => trivial, fun _ _ _ _ _ _ _ _ _ _ _ _ _ => trivial⟩
  | fn a r iha ihb => exact ⟨fun _ _ _ _ _ _ _ _ _ _ => trivial, fun _ _ _ _ _ _ _ _ _ _ _ _ => trivial, fun _ _ _ _ _ _ _ _ _ _ _ _ _ => trivial⟩
  | seq e ih => exact ⟨fun _ _ _ _ _ _ _ _ _ _ => trivial, fun _ _ _ _ _ _ _ _ _ _ _ _ => trivial, fun _ _ _ _ _ _ _ _ _ _ _ _ _ => trivial⟩
  | slice e ih =>
    refine ⟨fun fuel ty cs r x hc h hpl he hw => ?_, fun fuel fs off cs xs x hc => by simp [chkF] at hc, fun fuel et n k cs xs x hc => by simp [chkA] at hc⟩
    obtain ⟨et, hu, hce, hpos⟩ := chk_slice hc
    obtain ⟨ad, cap0, e1, e2, e3, e4⟩ := he
    rcases Go.Deep.open_slice hu h with ⟨rfl, _⟩ | ⟨a, len, cap, m, n, D, Pl, rfl, _, hl, hm, hmm, rfl, hx⟩
    · have hl0 : List.length x = 0 := by
        simp only [List.cons.injEq, Value.slice.injEq, and_true] at e1
        exact e1.2.1.symm
      exact ⟨fun _ => by rw [hl0]; simp, fun i hi => by omega⟩
    · simp only [List.cons.injEq, Value.slice.injEq, and_true] at e1
      obtain ⟨rfl, hlen, rfl⟩ := e1
      simp only [DataW.weights, hu] at hw
      have hce' := cellsOf_chk hce
      refine ⟨fun hex => ?_, fun i hi => ?_⟩
      · have h1 := hw _ (List.mem_cons_self ..)
        rw [infoOK_exact (chk_info hce) hex] at h1
        simp only [List.length_map, List.length_range] at h1
        rw [← hlen]
        exact Nat.le_trans (Nat.mul_le_mul_right _ (Nat.le_add_right _ _)) h1
      · obtain ⟨a', c, g1, g2, g3, g4⟩ := e4 i hi
        cases g1
        simp only [if_true] at hmm
        obtain ⟨cs', h1, h2⟩ := hx i (by omega)
        rw [hce'] at h1
        obtain ⟨g5, g6⟩ := lies_cells h1
        have := lies_eq g3 g6 (by omega)
        subst this
        refine ih.1 n et c _ _ hce h2 hpl g4 fun k hk => hw k (List.mem_cons_of_mem _ (List.mem_append_left _ (weightsAll_mem (d := D i) ?_ k hk)))
        exact List.mem_map_of_mem (List.mem_range.2 (by omega))
  | cons a b iha ihb =>
    have hF : FieldsZ H enc P w (.cons a b) := by
      intro fuel fs off cs xs x hc h hl hpl he hw
      simp only [Ty.plain, Bool.and_eq_true] at hpl
      simp only [chkF] at hc
      cases fs with
      | nil => simp at hc
      | cons f r =>
        simp only [Bool.and_eq_true, decide_eq_true_eq] at hc
        simp only [List.mapM_cons, Option.bind_eq_bind, Option.bind_eq_some_iff, Option.pure_def, Option.some.injEq] at h
        obtain ⟨y, hy, ys, hys, rfl⟩ := h
        have hsz := cellsOf_chk hc.1.2
        simp only [Ty.size] at hl
        rw [hc.1.1.1, hsz] at hy
        obtain ⟨c1, c2, k1, k2, k3⟩ := he
        have hc1 : c1.length = a.size := k2.length
        have ht : (cs.drop off).take a.size = c1 := by rw [k1, ← hc1]; simp
        have hd : cs.drop (off + a.size) = c2 := by rw [← List.drop_drop, k1, ← hc1]; simp
        simp only [List.map_cons, DataW.weightsEach] at hw
        exact ⟨iha.1 _ _ _ _ _ hc.1.2 hy hpl.1 (by rw [ht]; exact k2) fun n hn => hw n (List.mem_append_left _ hn),
          ihb.2.1 _ _ _ cs _ _ hc.2 hys (by omega) hpl.2 (by rw [hd]; exact k3) fun n hn => hw n (List.mem_append_right _ hn)⟩
    have hA : ArrZ H enc P w (.cons a b) := by
      intro fuel et n k cs xs x hc h hl hpl he hw
      simp only [Ty.plain, Bool.and_eq_true] at hpl
      simp only [chkA, Bool.and_eq_true, decide_eq_true_eq] at hc
      obtain ⟨n, rfl⟩ : ∃ m, n = m + 1 := ⟨n - 1, by omega⟩
      simp only [List.range'_succ, List.mapM_cons, Option.bind_eq_bind, Option.bind_eq_some_iff, Option.pure_def, Option.some.injEq] at h
      obtain ⟨y, hy, ys, hys, rfl⟩ := h
      have hsz := cellsOf_chk hc.1.2
      simp only [Ty.size] at hl
      obtain ⟨c1, c2, k1, k2, k3⟩ := he
      have hc1 : c1.length = a.size := k2.length
      have ht : (cs.drop (k * P.cellsOf et)).take (P.cellsOf et) = c1 := by rw [k1, hsz, ← hc1]; simp
      have hd : cs.drop ((k + 1) * P.cellsOf et) = c2 := by
        rw [show (k + 1) * P.cellsOf et = k * P.cellsOf et + P.cellsOf et by rw [Nat.succ_mul], ← List.drop_drop, k1, hsz, ← hc1]; simp
      simp only [List.map_cons, DataW.weightsAll] at hw
      exact ⟨iha.1 _ _ _ _ _ hc.1.2 hy hpl.1 (by rw [ht]; exact k2) fun n hn => hw n (List.mem_append_left _ hn),
        ihb.2.2 _ _ _ (k + 1) cs _ _ (by simpa using hc.2) (by simpa using hys) (by rw [hl, hsz, Nat.succ_mul]; omega) hpl.2 (by rw [hd]; exact k3) fun n hn => hw n (List.mem_append_right _ hn)⟩
    refine ⟨fun fuel ty cs r x hc h hpl he hw => ?_, hF, hA⟩
    have hsz := cellsOf_chk hc
    cases fuel with
    | zero => simp [DataW.trod] at h
    | succ fuel =>
      rcases chk_cons hc with ⟨fs, hu, _, hcF, _⟩ | ⟨n, et, hu, ha, _⟩
      · unfold DataW.trod at h
        rw [hu] at h
        simp only at h
        split at h
        · rename_i hlen
          simp only [Option.map_eq_some_iff] at h
          obtain ⟨xs, hxs, rfl⟩ := h
          simp only [DataW.weights, hu] at hw
          exact hF fuel fs.toList 0 cs xs x hcF hxs (by rw [hlen, hsz]; omega) hpl (by simpa using he) (by simpa using hw)
        · simp at h
      · subst ha
        simp only [chk, hu, Bool.and_eq_true] at hc
        have hcA := hc.2
        unfold DataW.trod at h
        rw [hu] at h
        simp only at h
        split at h
        · rename_i hlen
          simp only [Option.map_eq_some_iff] at h
          obtain ⟨xs, hxs, rfl⟩ := h
          rw [List.range_eq_range'] at hxs
          simp only [DataW.weights, hu] at hw
          obtain ⟨c1, c2, k1, k2, k3⟩ := he
          have hc1 : c1 = [] := k2
          subst hc1
          exact ⟨trivial, ihb.2.2 fuel et n 0 cs xs x.2 hcA hxs (by rw [hlen, hsz]; simp [Ty.size]) (by simp only [Ty.plain, Bool.and_eq_true] at hpl; exact hpl.2) (by rw [k1]; simpa using k3) (by simpa using hw)⟩
        · simp at h

theorem sz_args {T : Nat → Option Ty} (hT : ∀ ty t, T ty = some t → chk P t ty = true) : ∀ (tys : List TypeId) (ts : List Ty) (vs : List Value) (ds : List (DataW H)) (ps : List MemPlace) (tds : List TD), mapO T tys = some ts → (ts.all Ty.plain) = true →
    DataW.TrodAll enc P w 0 (fun _ => true) true tys vs ds ps → tds.map TD.t = ts → (∀ (i : Nat) (d : TD) (v : Value), tds[i]? = some d → vs[i]? = some v → RelV (heapS (P := P) w) d v) → fits (DataW.weightsEach P tys ds) → ∀ d ∈ tds, Sz d.t d.x
  | [], ts, vs, ds, ps, tds, hm, _, h, ht, _, _ => by
    simp [mapO] at hm; subst hm
    simp at ht; subst ht
    intro d hd; cases hd
  | ty :: tys, ts, vs, ds, ps, tds, hm, hpl, h, ht, hr, hw => by
    simp only [mapO, Option.bind_eq_some_iff] at hm
    obtain ⟨t, htt, ts', hts', hm⟩ := hm
    simp at hm; subst hm
    simp only [List.all_cons, Bool.and_eq_true] at hpl
    obtain ⟨v, vs', d, ds', p, q, rfl, rfl, rfl, ⟨fuel, h1⟩, h2⟩ := trodAll_cons h
    cases tds with
    | nil => simp at ht
    | cons d0 tds =>
      simp only [List.map_cons, List.cons.injEq] at ht
      obtain ⟨rfl, ht⟩ := ht
      simp only [DataW.weightsEach] at hw
      intro d' hd'
      rcases List.mem_cons.1 hd' with e | e
      · subst e
        have hr0 := hr 0 d' v rfl rfl
        exact (sz_all d'.t).1 _ _ _ _ _ (hT _ _ htt) h1 hpl.1 hr0.1 fun n hn => hw n (List.mem_append_left _ hn)
      · exact sz_args hT tys ts' vs' ds' q tds hts' hpl.2 h2 ht (fun i d v hd hv => hr (i + 1) d v (by simpa using hd) (by simpa using hv)) (fun n hn => hw n (List.mem_append_right _ hn)) d' e
end
section
variable {P : Program} {T : Nat → Option Ty} {G : Tbl}
/-- the law's contract, with the form's reach -/
theorem law_contract_sized (hE : Env P T G) {f : Nat} {fn : Func} {s : ChangeSpec} {H : Type} {enc : TypeId × Value → H} {apart fresh handsOn : Bool} {ts : List Ty} {tb : Nat}
    (hts : mapO T fn.params.toList = some ts) (hvars : s.vars = []) (hfn : ∀ ds : List (DataW H), ds.length = ts.length → s.fn H ds = { results := [.lit (.bool true)], args := ds })
    (hr : fn.resultTypes = #[tb]) (hb : P.underlying tb = some .bool) (hl : laidOutB P = true) (hread : (fn.params.toList.all fun t => P.readableRec t && decide (t < P.types.size)) = true)
    (hlaw : ∀ tds : List TD, tds.map TD.t = ts → (∀ d ∈ tds, Wf d.t d.x) → (∀ d ∈ tds, Sz d.t d.x) → G f tds = some (true, .tv ⟨.bool, true⟩))
    (W : World) (base : Nat) (args : Array Value) (ds gs : List (DataW H)) (before : List MemPlace)
    (hval : ∀ (j : Nat) t v, fn.params[j]? = some t → args[j]? = some v → Value.okWide P W .any base t v)
    (hW : DataW.Whole enc P fn.params.toList s.vars apart W args.toList ds gs before) (hsz : (DataW.weightsEach P (fn.params.toList ++ s.plain.varTypes P) (ds ++ gs)).all (· ≤ reachBytes) = true) (hplain : (ts.all Ty.plain) = true := by rfl) :
    Calls P f args W fun e W' => ∃ v, e = .returned v ∧ s.post enc P fn apart fresh handsOn false W args v W' := by
  have hW' := hW
  obtain ⟨p, q, hA, hV, rfl, hfz, hnd⟩ := hW
  rw [hvars] at hV
  obtain ⟨rfl, rfl⟩ := trodVars_none hV
  obtain ⟨tds, g1, g2, g3, g4⟩ := args_of_trodAll (base := base) hE.types _ ts args.toList ds p hts hplain hA fun j t v hj hv => hval j t v (by simpa using hj) (by simpa using hv)
  have hlen : ds.length = ts.length := by
    rw [trodAll_length hA]
    exact ((mapO_spec hts).1).symm
  have hlp : ds.length = fn.params.toList.length := trodAll_length hA
  have hfit : fits (DataW.weightsEach P fn.params.toList ds) := by
    intro n hn
    have hsub : ∀ (ts us : List TypeId) (ds : List (DataW H)), ds.length = ts.length → ∀ n ∈ DataW.weightsEach P ts ds, n ∈ DataW.weightsEach P (ts ++ us) (ds ++ []) := by
      intro ts
      induction ts with
      | nil => intro us ds hd n hn; simp [DataW.weightsEach] at hn
      | cons t ts ih =>
        intro us ds hd n hn
        cases ds with
        | nil => simp at hd
        | cons d ds =>
          simp only [DataW.weightsEach, List.cons_append, List.mem_append] at hn ⊢
          rcases hn with h | h
          · exact .inl h
          · exact .inr (ih us ds (by simpa using hd) n h)
    have := List.all_eq_true.1 hsz n (hsub _ _ _ hlp n hn)
    simpa using this
  have g5 := sz_args hE.types _ ts args.toList ds p tds hts hplain hA g1 g3 hfit
  refine (hE.good f tds _ (hlaw tds g1 g4 g5) (heapS (P := P) W) W args (holds_heapS W) ⟨by simpa using g2, fun i d v hd hv => g3 i d v hd (by simpa using hv)⟩).mono fun e W' ⟨v, σ', he, hst, hret⟩ => ?_
  have hv : v = .bool true := hret.bool
  subst hv
  have hbel := hst.below
  have hlt : ∀ x ∈ p ++ [], x.block < W.heap.size := fun x hx => hW'.lt x hx
  refine ⟨.bool true, he, ds, [], p ++ [], [], p, [], hW', ?_, ?_, ?_, hbel.frame _, fun h => by cases h⟩
  · rw [List.append_nil, hfn ds hlen, hr]
    exact trodAll_cons_mk (shut_bool hb true) trodAll_mk0
  · rw [List.append_nil, hfn ds hlen]
    exact trodAll_stays hl (fun x hx => hbel.same hx) (fun b hb => by simpa using hb) hread (fun x hx => hlt x (by simpa using hx)) hA
  · rw [List.append_nil, hfn ds hlen, hvars]
    rfl
end
end Go.Lift
