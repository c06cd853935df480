/- A part of the proof that the law returns true for every input: no condition. -/
import Derived.Test.YtcaeapfbmhmmkaaA2
set_option maxRecDepth 100000
set_option linter.unusedVariables false
namespace Go.Lift.L14
open Go.Lift Go.Proofs

theorem kidsFrom_drop {p : List Int} {a : Int} {i : Nat} (h : i < p.length) :
    kidsFrom a (p.drop i) i = bif decide (p.getD i 0 = a) then (i : Int) :: kidsFrom a (p.drop (i + 1)) (i + 1) else kidsFrom a (p.drop (i + 1)) (i + 1) := by
  rw [List.drop_eq_getElem_cons h]
  have : p.getD i 0 = p[i] := by simp [List.getD, h]
  rw [this]
  rfl

theorem kidsFrom_end {p : List Int} {a : Int} {i : Nat} (h : p.length ≤ i) : kidsFrom a (p.drop i) i = [] := by
  rw [List.drop_eq_nil_of_le h]; rfl

theorem kidsFrom_length (a : Int) : ∀ (l : List Int) (i : Nat), (kidsFrom a l i).length ≤ l.length
  | [], _ => Nat.le_refl _
  | x :: r, i => by
    simp only [kidsFrom]
    have := kidsFrom_length a r (i + 1)
    cases decide (x = a) <;> simp <;> omega

theorem wrapS {i n : Nat} (h : i < n) (hn : n ≤ lenBound) : IntKind.wrap .i64 ((i : Int) + 1) = ((i + 1 : Nat) : Int) := by
  have : lenBound = 68719476736 := rfl
  rw [wrap_id (by omega) (by omega)]; rfl

/-! Children, the reference's -/
noncomputable def L19 : Leaf := runF Tbl.none [0,1,5,6] Try.f19 100 (bod Try.f19) (entry [LI [], I 0])
def S19 (p : List Int) (a i : Int) (o : List Int) : St := ⟨[(0, .tv (LI p)), (1, .tv (I a)), (5, .ref 5), (6, .tv (I i))], [(5, .vec (.int .i64) o)]⟩
theorem e19 (G : Tbl) (p : List Int) (a : Int) : runF G [0,1,5,6] Try.f19 100 (bod Try.f19) (entry [LI p, I a]) = .loop L19.body L19.kont (S19 p a 0 []) := by kernel_rfl
theorem i19 (G : Tbl) (p : List Int) (a i : Int) (o : List Int) : runF G [0,1,5,6] Try.f19 100 L19.round (S19 p a i o) =
  bif decide (i < (p.length : Int)) then
    bif inB i p.length then
      bif decide (p.getD i.toNat 0 = a) then
        bif lenOK (o.length + 1) then .loop L19.body L19.kont (S19 p a (IntKind.wrap .i64 (i + 1)) (o ++ [i])) else .fail
      else .loop L19.body L19.kont (S19 p a (IntKind.wrap .i64 (i + 1)) o)
    else .fail
  else .ret (.own (.int .i64) o) := by kernel_rfl

theorem g19 (G : Tbl) (p : List Int) (a : Int) (hp : p.length ≤ lenBound) : ∀ (n i : Nat) (o : List Int), p.length - i = n → i ≤ p.length → o.length ≤ i →
    Goes G T Try.f19.ntmps Try.f19.results.toList (.loop L19.body L19.kont (S19 p a i o)) (.own (.int .i64) (o ++ kidsFrom a (p.drop i) i))
  | n, i, o, hn, hi, ho => by
    refine Goes.lp 100 (fun _ => [0,1,5,6]) (.of_eq (i19 G p a i o) ?_)
    refine .bif (fun h => ?_) (fun h => ?_)
    · have hlt : i < p.length := by simpa using h
      refine .bif (fun _ => ?_) (fun h => by simp [inB_nat hlt] at h)
      rw [kidsFrom_drop hlt, wrapS hlt hp, Int.toNat_natCast]
      refine .bif (fun h => ?_) (fun h => ?_)
      · rw [lenOK_le (by omega), h]
        have := g19 G p a hp (n - 1) (i + 1) (o ++ [(i : Int)]) (by omega) (by omega) (by simp; omega)
        simpa using this
      · rw [h]
        exact g19 G p a hp (n - 1) (i + 1) o (by omega) (by omega) (by omega)
    · have hge : p.length ≤ i := by simpa using h
      rw [kidsFrom_end hge, List.append_nil]
      exact .ret _
  termination_by n => n

def Fkids : List TD → Option (Bool × SV)
  | [⟨.slice (.int .i64), p⟩, ⟨.int .i64, a⟩] => some (lenOK p.length, .own (.int .i64) (kids p a))
  | _ => none

/-! Children -/
noncomputable def L18 : Leaf := runF Tbl.none [1,5,8,9,10] Try.f18 100 (bod Try.f18) (entry [LI [], I 0])
def S18 (p : List Int) (a i : Int) (o : List Int) : St := ⟨[(1, .tv (I a)), (5, .ref 5), (8, .tv (LI p)), (9, .tv (I p.length)), (10, .tv (I i))], [(5, .vec (.int .i64) o)]⟩
theorem e18 (G : Tbl) (p : List Int) (a : Int) : runF G [1,5,8,9,10] Try.f18 100 (bod Try.f18) (entry [LI p, I a]) = .loop L18.body L18.kont (S18 p a 0 []) := by kernel_rfl
theorem i18 (G : Tbl) (p : List Int) (a i : Int) (o : List Int) : runF G [1,5,8,9,10] Try.f18 100 L18.round (S18 p a i o) =
  bif decide (i < (p.length : Int)) then
    bif inB i p.length then
      bif decide (p.getD i.toNat 0 = a) then
        bif lenOK (o.length + 1) then .loop L18.body L18.kont (S18 p a (IntKind.wrap .i64 (i + 1)) (o ++ [i])) else .fail
      else .loop L18.body L18.kont (S18 p a (IntKind.wrap .i64 (i + 1)) o)
    else .fail
  else .ret (.own (.int .i64) o) := by kernel_rfl

theorem g18 (G : Tbl) (p : List Int) (a : Int) (hp : p.length ≤ lenBound) : ∀ (n i : Nat) (o : List Int), p.length - i = n → i ≤ p.length → o.length ≤ i →
    Goes G T Try.f18.ntmps Try.f18.results.toList (.loop L18.body L18.kont (S18 p a i o)) (.own (.int .i64) (o ++ kidsFrom a (p.drop i) i))
  | n, i, o, hn, hi, ho => by
    refine Goes.lp 100 (fun _ => [1,5,8,9,10]) (.of_eq (i18 G p a i o) ?_)
    refine .bif (fun h => ?_) (fun h => ?_)
    · have hlt : i < p.length := by simpa using h
      refine .bif (fun _ => ?_) (fun h => by simp [inB_nat hlt] at h)
      rw [kidsFrom_drop hlt, wrapS hlt hp, Int.toNat_natCast]
      refine .bif (fun h => ?_) (fun h => ?_)
      · rw [lenOK_le (by omega), h]
        have := g18 G p a hp (n - 1) (i + 1) (o ++ [(i : Int)]) (by omega) (by omega) (by simp; omega)
        simpa using this
      · rw [h]
        exact g18 G p a hp (n - 1) (i + 1) o (by omega) (by omega) (by omega)
    · have hge : p.length ≤ i := by simpa using h
      rw [kidsFrom_end hge, List.append_nil]
      exact .ret _
  termination_by n => n

theorem env18 {G : Tbl} (hE : Env Try.prog T G) : Env Try.prog T (G.add 18 Fkids) := by
  refine hE.fun' (fn := Try.f18) (by kernel_rfl) (by kernel_rfl) (by kernel_rfl) fun tds r h => ?_
  unfold Fkids at h
  split at h
  · rename_i p a
    simp only [Option.some.injEq, Prod.mk.injEq] at h
    obtain ⟨h1, rfl⟩ := h
    refine ⟨Nat.le_of_ble_eq_true (by kernel_rfl), .more 100 (fun _ => [1,5,8,9,10]) _ _ _ (.of_eq (e18 G p a) ?_)⟩
    exact g18 G p a (by simpa [lenOK] using h1) p.length 0 [] rfl (Nat.zero_le _) (Nat.zero_le _)
  · simp at h

theorem env19 {G : Tbl} (hE : Env Try.prog T G) : Env Try.prog T (G.add 19 Fkids) := by
  refine hE.fun' (fn := Try.f19) (by kernel_rfl) (by kernel_rfl) (by kernel_rfl) fun tds r h => ?_
  unfold Fkids at h
  split at h
  · rename_i p a
    simp only [Option.some.injEq, Prod.mk.injEq] at h
    obtain ⟨h1, rfl⟩ := h
    refine ⟨Nat.le_of_ble_eq_true (by kernel_rfl), .more 100 (fun _ => [0,1,5,6]) _ _ _ (.of_eq (e19 G p a) ?_)⟩
    exact g19 G p a (by simpa [lenOK] using h1) p.length 0 [] rfl (Nat.zero_le _) (Nat.zero_le _)
  · simp at h

end Go.Lift.L14
