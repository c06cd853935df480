/- A part of the proof that the law returns true for every input: no condition. -/
import Derived.Test.YtcaeapfbmhmmkaaA9
set_option maxRecDepth 100000
set_option linter.unusedVariables false
set_option linter.unusedSimpArgs false
namespace Go.Lift.L14
open Go.Lift Go.Proofs

/-! Path -/
def walkUp (p : List Int) : Nat → Int → Int → List Int
  | 0, _, _ => []
  | n + 1, a, x => bif decide (x ≥ 0) && decide (x < a) then x :: walkUp p n x (p.getD x.toNat 0) else []
def path (p : List Int) (a : Int) : List Int := bif decide (a < 0) || decide (a ≥ p.length) then [] else a :: walkUp p a.toNat a (p.getD a.toNat 0)
def Fpath : List TD → Option (Bool × SV)
  | [⟨.slice (.int .i64), p⟩, ⟨.int .i64, a⟩] => some (lenOK p.length, .own (.int .i64) (path p a))
  | _ => none

noncomputable def L12 : Leaf := runF Tbl.none [0,1,5,6] Try.f12 100 (bod Try.f12) (entry [LI [0], I 0])
def S12 (p : List Int) (a x : Int) (o : List Int) : St := ⟨[(0, .tv (LI p)), (1, .tv (I a)), (5, .ref 5), (6, .tv (I x))], [(5, .vec (.int .i64) o)]⟩
theorem e12 (G : Tbl) (p : List Int) (a : Int) : runF G [0,1,5,6] Try.f12 100 (bod Try.f12) (entry [LI p, I a]) =
  bif (bif decide (a < 0) then true else decide (a ≥ (p.length : Int))) then .ret (.own (.int .i64) [])
  else bif inB a p.length then .loop L12.body L12.kont (S12 p a (p.getD a.toNat 0) [a]) else .fail := by kernel_rfl
theorem i12 (G : Tbl) (p : List Int) (a x : Int) (o : List Int) : runF G [0,1,5,6] Try.f12 100 L12.round (S12 p a x o) =
  bif (bif decide (x ≥ 0) then decide (x < a) else false) then
    bif lenOK (o.length + 1) then
      bif inB x p.length then .loop L12.body L12.kont (S12 p x (p.getD x.toNat 0) (o ++ [x])) else .fail
    else .fail
  else .ret (.own (.int .i64) o) := by kernel_rfl

theorem g12 (G : Tbl) (p : List Int) (hp : p.length ≤ lenBound) : ∀ (n : Nat) (a x : Int) (o : List Int), a.toNat = n → 0 ≤ a → a < p.length → o.length + n ≤ p.length →
    Goes G T Try.f12.ntmps Try.f12.results.toList (.loop L12.body L12.kont (S12 p a x o)) (.own (.int .i64) (o ++ walkUp p n a x))
  | n, a, x, o, hn, h0, ha, ho => by
    refine Goes.lp 100 (fun _ => [0,1,5,6]) (.of_eq (i12 G p a x o) ?_)
    rw [band_bif]
    refine .bif (fun h => ?_) (fun h => ?_)
    · have hx : 0 ≤ x ∧ x < a := by simpa using h
      obtain ⟨m, rfl⟩ : ∃ m, n = m + 1 := ⟨n - 1, by omega⟩
      rw [lenOK_le (by omega), cond_true, inB_of hx.1 (by omega), cond_true]
      simp only [walkUp]
      rw [h, cond_true]
      -- the fuel may be more than the rest needs
      have e : ∀ (k k' : Nat) (a x : Int), 0 ≤ a → a.toNat ≤ k → a.toNat ≤ k' → walkUp p k a x = walkUp p k' a x := by
        intro k
        induction k with
        | zero =>
          intro k' a x h0 h1 h2
          cases k' with
          | zero => rfl
          | succ k' =>
            have : (decide (x ≥ 0) && decide (x < a)) = false := by simp; omega
            simp only [walkUp, this, cond_false]
        | succ k ih =>
          intro k' a x h0 h1 h2
          cases k' with
          | zero =>
            have : (decide (x ≥ 0) && decide (x < a)) = false := by simp; omega
            simp only [walkUp, this, cond_false]
          | succ k' =>
            simp only [walkUp]
            cases hc : decide (x ≥ 0) && decide (x < a) with
            | false => rfl
            | true =>
              simp at hc
              simp only [cond_true]
              rw [ih k' x _ hc.1 (by omega) (by omega)]
      have := g12 G p hp x.toNat x (p.getD x.toNat 0) (o ++ [x]) rfl hx.1 (by omega) (by simp; omega)
      rw [e m x.toNat x _ hx.1 (by omega) (Nat.le_refl _)]
      simpa using this
    · cases n with
      | zero => simp only [walkUp, List.append_nil]; exact .ret _
      | succ n => simp only [walkUp]; rw [h, cond_false, List.append_nil]; exact .ret _
  termination_by n => n

theorem path_room {p : List Int} {a : Int} (h0 : 0 ≤ a) (h : a < p.length) : ([a] : List Int).length + a.toNat ≤ p.length := by simp; omega

theorem env12 {G : Tbl} (hE : Env Try.prog T G) : Env Try.prog T (G.add 12 Fpath) := by
  refine hE.fun' (fn := Try.f12) (by kernel_rfl) (by kernel_rfl) (by kernel_rfl) fun tds r h => ?_
  unfold Fpath at h
  split at h
  · rename_i p a
    simp only [Option.some.injEq, Prod.mk.injEq] at h
    obtain ⟨h1, rfl⟩ := h
    refine ⟨Nat.le_of_ble_eq_true (by kernel_rfl), .more 100 (fun _ => [0,1,5,6]) _ _ _ (.of_eq (e12 G p a) ?_)⟩
    unfold path
    rw [bor_bif]
    refine .bif (fun h => ?_) (fun h => ?_)
    · rw [h]; exact .ret _
    · rw [h]
      have h2 : 0 ≤ a ∧ a < p.length := by simpa using h
      rw [inB_of h2.1 h2.2, cond_true, cond_false]
      exact g12 G p (by simpa [lenOK] using h1) a.toNat a _ [a] rfl h2.1 h2.2 (path_room h2.1 h2.2)
  · simp at h

/-! all functions but the laws -/
def GA : Tbl := ((((G14 ((((G13 Tbl.none 10).add 11 Fvalid).add 9 Fsel).add 7 Ffc) 10).add 16 Fvalid).add 10 Fsel).add 8 Ffc).add 12 Fpath
theorem envA : Env Try.prog T GA := env12 (env8 (env10 (env16 (envRef (env7 (env9 (env11 (envTree env0 10)))) 10))))

/-! awake -/
def Fawake : List TD → Option (Bool × SV)
  | [] => some (true, .tv (B true))
  | _ => none
theorem e6 : runF GA [] Try.f6 100 (bod Try.f6) (entry []) = .ret (.tv (B true)) := by kernel_rfl
def GB : Tbl := GA.add 6 Fawake
theorem envB : Env Try.prog T GB := by
  refine envA.fun' (fn := Try.f6) (by kernel_rfl) (by kernel_rfl) (by kernel_rfl) fun tds r h => ?_
  unfold Fawake at h
  split at h
  · simp only [Option.some.injEq, Prod.mk.injEq, true_and] at h
    subst h
    exact ⟨Nat.le_of_ble_eq_true (by kernel_rfl), .more 100 (fun _ => []) _ _ _ (.of_eq e6 (.ret _))⟩
  · simp at h

end Go.Lift.L14
