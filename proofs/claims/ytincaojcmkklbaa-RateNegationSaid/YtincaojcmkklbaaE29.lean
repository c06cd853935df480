/- A part of the proof that the law returns true for every input: no condition. -/
import Derived.Test.YtincaojcmkklbaaE28
namespace Go.Lift

/-! contracts of a shape: types of the arguments, check, result -/
def FC0 (k : Bool) (r : SV) : List TD → Option (Bool × SV)
  | [] => some (k, r)
  | _ => none
def FC1 (a : Ty) (k : a.D → Bool) (r : a.D → SV) : List TD → Option (Bool × SV)
  | [d] => (d.as a).map fun x => (k x, r x)
  | _ => none
def FC2 (a b : Ty) (k : a.D → b.D → Bool) (r : a.D → b.D → SV) : List TD → Option (Bool × SV)
  | [d, e] => (d.as a).bind fun x => (e.as b).map fun y => (k x y, r x y)
  | _ => none
def FC3 (a b c : Ty) (k : a.D → b.D → c.D → Bool) (r : a.D → b.D → c.D → SV) : List TD → Option (Bool × SV)
  | [d, e, f] => (d.as a).bind fun x => (e.as b).bind fun y => (f.as c).map fun z => (k x y z, r x y z)
  | _ => none
def FC4 (a b c d : Ty) (k : a.D → b.D → c.D → d.D → Bool) (r : a.D → b.D → c.D → d.D → SV) : List TD → Option (Bool × SV)
  | [d1, e, f, g] => (d1.as a).bind fun x => (e.as b).bind fun y => (f.as c).bind fun z => (g.as d).map fun u => (k x y z u, r x y z u)
  | _ => none
def FC5 (a b c d e : Ty) (k : a.D → b.D → c.D → d.D → e.D → Bool) (r : a.D → b.D → c.D → d.D → e.D → SV) : List TD → Option (Bool × SV)
  | [d1, e1, f, g, h] => (d1.as a).bind fun x => (e1.as b).bind fun y => (f.as c).bind fun z => (g.as d).bind fun u => (h.as e).map fun v => (k x y z u v, r x y z u v)
  | _ => none
def FC6 (a b c d e m : Ty) (k : a.D → b.D → c.D → d.D → e.D → m.D → Bool) (r : a.D → b.D → c.D → d.D → e.D → m.D → SV) : List TD → Option (Bool × SV)
  | [d1, e1, f, g, h, i] => (d1.as a).bind fun x => (e1.as b).bind fun y => (f.as c).bind fun z => (g.as d).bind fun u => (h.as e).bind fun v => (i.as m).map fun w => (k x y z u v w, r x y z u v w)
  | _ => none

theorem FC0.inv {k : Bool} {r : SV} {tds : List TD} {s : SV} (h : FC0 k r tds = some (true, s)) : tds = [] ∧ k = true ∧ s = r := by
  unfold FC0 at h
  split at h
  · simp at h; exact ⟨rfl, h.1, h.2.symm⟩
  · simp at h
theorem FC1.inv {a : Ty} {k : a.D → Bool} {r : a.D → SV} {tds : List TD} {s : SV} (h : FC1 a k r tds = some (true, s)) : ∃ x, tds = [⟨a, x⟩] ∧ k x = true ∧ s = r x := by
  unfold FC1 at h
  split at h
  · simp only [Option.map_eq_some_iff, Prod.mk.injEq] at h
    obtain ⟨x, hx, h1, h2⟩ := h
    rw [TD.as_eq hx]; exact ⟨x, rfl, h1, h2.symm⟩
  · simp at h
theorem FC2.inv {a b : Ty} {k : a.D → b.D → Bool} {r : a.D → b.D → SV} {tds : List TD} {s : SV} (h : FC2 a b k r tds = some (true, s)) : ∃ x y, tds = [⟨a, x⟩, ⟨b, y⟩] ∧ k x y = true ∧ s = r x y := by
  unfold FC2 at h
  split at h
  · simp only [Option.bind_eq_some_iff, Option.map_eq_some_iff, Prod.mk.injEq] at h
    obtain ⟨x, hx, y, hy, h1, h2⟩ := h
    rw [TD.as_eq hx, TD.as_eq hy]; exact ⟨x, y, rfl, h1, h2.symm⟩
  · simp at h
theorem FC3.inv {a b c : Ty} {k : a.D → b.D → c.D → Bool} {r : a.D → b.D → c.D → SV} {tds : List TD} {s : SV} (h : FC3 a b c k r tds = some (true, s)) : ∃ x y z, tds = [⟨a, x⟩, ⟨b, y⟩, ⟨c, z⟩] ∧ k x y z = true ∧ s = r x y z := by
  unfold FC3 at h
  split at h
  · simp only [Option.bind_eq_some_iff, Option.map_eq_some_iff, Prod.mk.injEq] at h
    obtain ⟨x, hx, y, hy, z, hz, h1, h2⟩ := h
    rw [TD.as_eq hx, TD.as_eq hy, TD.as_eq hz]; exact ⟨x, y, z, rfl, h1, h2.symm⟩
  · simp at h
theorem FC4.inv {a b c d : Ty} {k : a.D → b.D → c.D → d.D → Bool} {r : a.D → b.D → c.D → d.D → SV} {tds : List TD} {s : SV} (h : FC4 a b c d k r tds = some (true, s)) :
    ∃ x y z u, tds = [⟨a, x⟩, ⟨b, y⟩, ⟨c, z⟩, ⟨d, u⟩] ∧ k x y z u = true ∧ s = r x y z u := by
  unfold FC4 at h
  split at h
  · simp only [Option.bind_eq_some_iff, Option.map_eq_some_iff, Prod.mk.injEq] at h
    obtain ⟨x, hx, y, hy, z, hz, u, hu, h1, h2⟩ := h
    rw [TD.as_eq hx, TD.as_eq hy, TD.as_eq hz, TD.as_eq hu]; exact ⟨x, y, z, u, rfl, h1, h2.symm⟩
  · simp at h
theorem FC5.inv {a b c d e : Ty} {k : a.D → b.D → c.D → d.D → e.D → Bool} {r : a.D → b.D → c.D → d.D → e.D → SV} {tds : List TD} {s : SV} (h : FC5 a b c d e k r tds = some (true, s)) :
    ∃ x y z u v, tds = [⟨a, x⟩, ⟨b, y⟩, ⟨c, z⟩, ⟨d, u⟩, ⟨e, v⟩] ∧ k x y z u v = true ∧ s = r x y z u v := by
  unfold FC5 at h
  split at h
  · simp only [Option.bind_eq_some_iff, Option.map_eq_some_iff, Prod.mk.injEq] at h
    obtain ⟨x, hx, y, hy, z, hz, u, hu, v, hv, h1, h2⟩ := h
    rw [TD.as_eq hx, TD.as_eq hy, TD.as_eq hz, TD.as_eq hu, TD.as_eq hv]; exact ⟨x, y, z, u, v, rfl, h1, h2.symm⟩
  · simp at h
theorem FC6.inv {a b c d e m : Ty} {k : a.D → b.D → c.D → d.D → e.D → m.D → Bool} {r : a.D → b.D → c.D → d.D → e.D → m.D → SV} {tds : List TD} {s : SV} (h : FC6 a b c d e m k r tds = some (true, s)) :
    ∃ x y z u v w, tds = [⟨a, x⟩, ⟨b, y⟩, ⟨c, z⟩, ⟨d, u⟩, ⟨e, v⟩, ⟨m, w⟩] ∧ k x y z u v w = true ∧ s = r x y z u v w := by
  unfold FC6 at h
  split at h
  · simp only [Option.bind_eq_some_iff, Option.map_eq_some_iff, Prod.mk.injEq] at h
    obtain ⟨x, hx, y, hy, z, hz, u, hu, v, hv, w, hw, h1, h2⟩ := h
    rw [TD.as_eq hx, TD.as_eq hy, TD.as_eq hz, TD.as_eq hu, TD.as_eq hv, TD.as_eq hw]; exact ⟨x, y, z, u, v, w, rfl, h1, h2.symm⟩
  · simp at h

section
variable {P : Program} {T : Nat → Option Ty} {G G' : Tbl} {N : Nat} {rs : List ResultVar}
theorem Goes.ret' {v r : SV} (h : v = r) : Goes G T N rs (.ret v) r := h ▸ .ret v
theorem Goes.no {r : SV} (h : False) : Goes G T N rs .fail r := h.elim
/-- from the entry -/
theorem Goes.run0 {f : Func} {n : Nat} {ks : List Nat} {tds : List TD} {L : Leaf} {r : SV} (he : run G T f.ntmps f.results.toList (fun _ => ks) n (bod f) (entry tds) = L)
    (h : Goes G T f.ntmps f.results.toList L r) : Goes G T f.ntmps f.results.toList (.more (bod f) (entry tds)) r := .more n (fun _ => ks) _ _ _ (.of_eq he h)
end


section
variable {P : Program} {T : Nat → Option Ty} {G : Tbl} {f : Nat} {fn : Func}
theorem Env.fc0 {k : Bool} {r : SV} (hE : Env P T G) (hf : P.funcs[f]? = some fn) (hb : fn.body.isSome = true) (hn : (fn.name == "runtime.NumGoroutine") = false) (hl : Nat.ble 0 fn.ntmps = true)
    (h : k = true → Goes G T fn.ntmps fn.results.toList (.more (bod fn) (entry [])) (r)) : Env P T (G.add f (FC0  k r)) := by
  refine hE.fun' hf hb hn fun tds s hs => ?_
  obtain ⟨rfl, hk, rfl⟩ := FC0.inv hs
  exact ⟨Nat.le_of_ble_eq_true hl, h hk⟩
theorem Env.fc1 {a0 : Ty} {k : a0.D → Bool} {r : a0.D → SV} (hE : Env P T G) (hf : P.funcs[f]? = some fn) (hb : fn.body.isSome = true) (hn : (fn.name == "runtime.NumGoroutine") = false) (hl : Nat.ble 1 fn.ntmps = true)
    (h : ∀ x, k x = true → Goes G T fn.ntmps fn.results.toList (.more (bod fn) (entry [⟨a0, x⟩])) (r x)) : Env P T (G.add f (FC1 a0 k r)) := by
  refine hE.fun' hf hb hn fun tds s hs => ?_
  obtain ⟨x, rfl, hk, rfl⟩ := FC1.inv hs
  exact ⟨Nat.le_of_ble_eq_true hl, h x hk⟩
theorem Env.fc2 {a0 a1 : Ty} {k : a0.D → a1.D → Bool} {r : a0.D → a1.D → SV} (hE : Env P T G) (hf : P.funcs[f]? = some fn) (hb : fn.body.isSome = true) (hn : (fn.name == "runtime.NumGoroutine") = false) (hl : Nat.ble 2 fn.ntmps = true)
    (h : ∀ x y, k x y = true → Goes G T fn.ntmps fn.results.toList (.more (bod fn) (entry [⟨a0, x⟩, ⟨a1, y⟩])) (r x y)) : Env P T (G.add f (FC2 a0 a1 k r)) := by
  refine hE.fun' hf hb hn fun tds s hs => ?_
  obtain ⟨x, y, rfl, hk, rfl⟩ := FC2.inv hs
  exact ⟨Nat.le_of_ble_eq_true hl, h x y hk⟩
theorem Env.fc3 {a0 a1 a2 : Ty} {k : a0.D → a1.D → a2.D → Bool} {r : a0.D → a1.D → a2.D → SV} (hE : Env P T G) (hf : P.funcs[f]? = some fn) (hb : fn.body.isSome = true) (hn : (fn.name == "runtime.NumGoroutine") = false) (hl : Nat.ble 3 fn.ntmps = true)
    (h : ∀ x y z, k x y z = true → Goes G T fn.ntmps fn.results.toList (.more (bod fn) (entry [⟨a0, x⟩, ⟨a1, y⟩, ⟨a2, z⟩])) (r x y z)) : Env P T (G.add f (FC3 a0 a1 a2 k r)) := by
  refine hE.fun' hf hb hn fun tds s hs => ?_
  obtain ⟨x, y, z, rfl, hk, rfl⟩ := FC3.inv hs
  exact ⟨Nat.le_of_ble_eq_true hl, h x y z hk⟩
theorem Env.fc4 {a0 a1 a2 a3 : Ty} {k : a0.D → a1.D → a2.D → a3.D → Bool} {r : a0.D → a1.D → a2.D → a3.D → SV} (hE : Env P T G) (hf : P.funcs[f]? = some fn) (hb : fn.body.isSome = true) (hn : (fn.name == "runtime.NumGoroutine") = false) (hl : Nat.ble 4 fn.ntmps = true)
    (h : ∀ x y z u, k x y z u = true → Goes G T fn.ntmps fn.results.toList (.more (bod fn) (entry [⟨a0, x⟩, ⟨a1, y⟩, ⟨a2, z⟩, ⟨a3, u⟩])) (r x y z u)) : Env P T (G.add f (FC4 a0 a1 a2 a3 k r)) := by
  refine hE.fun' hf hb hn fun tds s hs => ?_
  obtain ⟨x, y, z, u, rfl, hk, rfl⟩ := FC4.inv hs
  exact ⟨Nat.le_of_ble_eq_true hl, h x y z u hk⟩
theorem Env.fc5 {a0 a1 a2 a3 a4 : Ty} {k : a0.D → a1.D → a2.D → a3.D → a4.D → Bool} {r : a0.D → a1.D → a2.D → a3.D → a4.D → SV} (hE : Env P T G) (hf : P.funcs[f]? = some fn) (hb : fn.body.isSome = true) (hn : (fn.name == "runtime.NumGoroutine") = false) (hl : Nat.ble 5 fn.ntmps = true)
    (h : ∀ x y z u v, k x y z u v = true → Goes G T fn.ntmps fn.results.toList (.more (bod fn) (entry [⟨a0, x⟩, ⟨a1, y⟩, ⟨a2, z⟩, ⟨a3, u⟩, ⟨a4, v⟩])) (r x y z u v)) : Env P T (G.add f (FC5 a0 a1 a2 a3 a4 k r)) := by
  refine hE.fun' hf hb hn fun tds s hs => ?_
  obtain ⟨x, y, z, u, v, rfl, hk, rfl⟩ := FC5.inv hs
  exact ⟨Nat.le_of_ble_eq_true hl, h x y z u v hk⟩
theorem Env.fc6 {a0 a1 a2 a3 a4 a5 : Ty} {k : a0.D → a1.D → a2.D → a3.D → a4.D → a5.D → Bool} {r : a0.D → a1.D → a2.D → a3.D → a4.D → a5.D → SV} (hE : Env P T G) (hf : P.funcs[f]? = some fn) (hb : fn.body.isSome = true) (hn : (fn.name == "runtime.NumGoroutine") = false) (hl : Nat.ble 6 fn.ntmps = true)
    (h : ∀ x y z u v w, k x y z u v w = true → Goes G T fn.ntmps fn.results.toList (.more (bod fn) (entry [⟨a0, x⟩, ⟨a1, y⟩, ⟨a2, z⟩, ⟨a3, u⟩, ⟨a4, v⟩, ⟨a5, w⟩])) (r x y z u v w)) : Env P T (G.add f (FC6 a0 a1 a2 a3 a4 a5 k r)) := by
  refine hE.fun' hf hb hn fun tds s hs => ?_
  obtain ⟨x, y, z, u, v, w, rfl, hk, rfl⟩ := FC6.inv hs
  exact ⟨Nat.le_of_ble_eq_true hl, h x y z u v w hk⟩
end

end Go.Lift
