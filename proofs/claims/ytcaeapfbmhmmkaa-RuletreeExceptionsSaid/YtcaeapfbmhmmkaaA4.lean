/- A part of the proof that the law returns true for every input: no condition. -/
import Derived.Test.YtcaeapfbmhmmkaaA3
set_option maxRecDepth 100000
set_option linter.unusedVariables false
namespace Go.Lift.L14
open Go.Lift Go.Proofs

noncomputable def L16 : Leaf := runF Tbl.none [0,1,5] Try.f16 100 (bod Try.f16) (entry [LI [], LI []])
def S16 (p q : List Int) (i : Int) : St := ⟨[(0, .tv (LI p)), (1, .tv (LI q)), (5, .tv (I i))], []⟩
theorem e16 (G : Tbl) (p q : List Int) : runF G [0,1,5] Try.f16 100 (bod Try.f16) (entry [LI p, LI q]) =
  bif !((p.length : Int) == (q.length : Int)) then .ret (.tv (I 2)) else bif decide ((p.length : Int) > 8) then .ret (.tv (I 4)) else .loop L16.body L16.kont (S16 p q 0) := by kernel_rfl
theorem i16 (G : Tbl) (p q : List Int) (i : Int) : runF G [0,1,5] Try.f16 100 L16.round (S16 p q i) =
  bif decide (i < (p.length : Int)) then
    bif inB i p.length then
      bif inB i p.length || !!(decide (p.getD i.toNat 0 < -1)) then
        bif (bif decide (p.getD i.toNat 0 < -1) then true else decide (p.getD i.toNat 0 ≥ i)) then .ret (.tv (I 9))
        else
          bif inB i q.length then
            bif inB i q.length || !!(decide (q.getD i.toNat 0 < 0)) then
              bif (bif decide (q.getD i.toNat 0 < 0) then true else decide (q.getD i.toNat 0 > 9)) then .ret (.tv (I 3))
              else .loop L16.body L16.kont (S16 p q (IntKind.wrap .i64 (i + 1)))
            else .fail
          else .fail
      else .fail
    else .fail
  else .ret (.tv (I 0)) := by kernel_rfl

noncomputable def L11 : Leaf := runF Tbl.none [1,15,16,17] Try.f11 100 (bod Try.f11) (entry [LI [], LI []])
def S11 (p q : List Int) (i : Int) : St := ⟨[(1, .tv (LI q)), (15, .tv (LI p)), (16, .tv (I p.length)), (17, .tv (I i))], []⟩
theorem e11 (G : Tbl) (p q : List Int) : runF G [1,15,16,17] Try.f11 100 (bod Try.f11) (entry [LI p, LI q]) =
  bif !((p.length : Int) == (q.length : Int)) then .ret (.tv (I 2)) else bif decide ((p.length : Int) > 8) then .ret (.tv (I 4)) else .loop L11.body L11.kont (S11 p q 0) := by kernel_rfl
theorem i11 (G : Tbl) (p q : List Int) (i : Int) : runF G [1,15,16,17] Try.f11 100 L11.round (S11 p q i) =
  bif decide (i < (p.length : Int)) then
    bif inB i p.length then
        bif (bif decide (p.getD i.toNat 0 < -1) then true else decide (p.getD i.toNat 0 ≥ i)) then .ret (.tv (I 9))
        else
          bif inB i q.length then
            bif inB i q.length || !!(decide (q.getD i.toNat 0 < 0)) then
              bif (bif decide (q.getD i.toNat 0 < 0) then true else decide (q.getD i.toNat 0 > 9)) then .ret (.tv (I 3))
              else .loop L11.body L11.kont (S11 p q (IntKind.wrap .i64 (i + 1)))
            else .fail
          else .fail
    else .fail
  else .ret (.tv (I 0)) := by kernel_rfl

theorem bor_bif {a b : Bool} : (bif a then true else b) = (a || b) := by cases a <;> rfl

theorem g16 (G : Tbl) (p q : List Int) (h8 : p.length ≤ 8) (hpq : p.length = q.length) : ∀ (n i : Nat), p.length - i = n → i ≤ p.length →
    Goes G T Try.f16.ntmps Try.f16.results.toList (.loop L16.body L16.kont (S16 p q i)) (.tv (I (validFrom p q n i)))
  | n, i, hn, hi => by
    refine Goes.lp 100 (fun _ => [0,1,5]) (.of_eq (i16 G p q i) ?_)
    refine .bif (fun h => ?_) (fun h => ?_)
    · have hlt : i < p.length := by simpa using h
      obtain ⟨m, rfl⟩ : ∃ m, n = m + 1 := ⟨n - 1, by omega⟩
      have e := g16 G p q h8 hpq m (i + 1) (by omega) (by omega)
      rw [inB_nat hlt, inB_nat (hpq ▸ hlt), wrapS hlt (by simp [lenBound]; omega), Int.toNat_natCast, bor_bif, bor_bif]
      simp only [Bool.true_or, cond_true, validFrom]
      refine .bif (fun h => ?_) (fun h => ?_)
      · rw [h]; exact .ret _
      · rw [h]
        refine .bif (fun h => ?_) (fun h => ?_)
        · rw [h]; exact .ret _
        · rw [h]; exact e
    · have hge : p.length ≤ i := by simpa using h
      obtain rfl : n = 0 := by omega
      exact .ret _
  termination_by n => n

theorem g11 (G : Tbl) (p q : List Int) (h8 : p.length ≤ 8) (hpq : p.length = q.length) : ∀ (n i : Nat), p.length - i = n → i ≤ p.length →
    Goes G T Try.f11.ntmps Try.f11.results.toList (.loop L11.body L11.kont (S11 p q i)) (.tv (I (validFrom p q n i)))
  | n, i, hn, hi => by
    refine Goes.lp 100 (fun _ => [1,15,16,17]) (.of_eq (i11 G p q i) ?_)
    refine .bif (fun h => ?_) (fun h => ?_)
    · have hlt : i < p.length := by simpa using h
      obtain ⟨m, rfl⟩ : ∃ m, n = m + 1 := ⟨n - 1, by omega⟩
      have e := g11 G p q h8 hpq m (i + 1) (by omega) (by omega)
      rw [inB_nat hlt, inB_nat (hpq ▸ hlt), wrapS hlt (by simp [lenBound]; omega), Int.toNat_natCast, bor_bif, bor_bif]
      simp only [Bool.true_or, cond_true, validFrom]
      refine .bif (fun h => ?_) (fun h => ?_)
      · rw [h]; exact .ret _
      · rw [h]
        refine .bif (fun h => ?_) (fun h => ?_)
        · rw [h]; exact .ret _
        · rw [h]; exact e
    · have hge : p.length ≤ i := by simpa using h
      obtain rfl : n = 0 := by omega
      exact .ret _
  termination_by n => n

def Fvalid : List TD → Option (Bool × SV)
  | [⟨.slice (.int .i64), p⟩, ⟨.slice (.int .i64), q⟩] => some (true, .tv (I (valid p q)))
  | _ => none

theorem env16 {G : Tbl} (hE : Env Try.prog T G) : Env Try.prog T (G.add 16 Fvalid) := by
  refine hE.fun' (fn := Try.f16) (by kernel_rfl) (by kernel_rfl) (by kernel_rfl) fun tds r h => ?_
  unfold Fvalid at h
  split at h
  · rename_i p q
    simp only [Option.some.injEq, Prod.mk.injEq, true_and] at h
    subst h
    refine ⟨Nat.le_of_ble_eq_true (by kernel_rfl), .more 100 (fun _ => [0,1,5]) _ _ _ (.of_eq (e16 G p q) ?_)⟩
    refine .bif (fun h => ?_) (fun h => ?_)
    · have : ¬ p.length = q.length := by simp at h; omega
      rw [show valid p q = 2 by simp [valid, this]]
      exact .ret _
    · have hpq : p.length = q.length := by simp at h; omega
      refine .bif (fun h => ?_) (fun h => ?_)
      · have : 8 < p.length := by simp at h; omega
        rw [show valid p q = 4 by simp [valid, hpq, hpq ▸ this]]
        exact .ret _
      · have h8 : p.length ≤ 8 := by simp at h; omega
        rw [show valid p q = validFrom p q p.length 0 by simp [valid, hpq, show ¬ 8 < q.length by omega]]
        exact g16 G p q h8 hpq _ 0 rfl (Nat.zero_le _)
  · simp at h

theorem env11 {G : Tbl} (hE : Env Try.prog T G) : Env Try.prog T (G.add 11 Fvalid) := by
  refine hE.fun' (fn := Try.f11) (by kernel_rfl) (by kernel_rfl) (by kernel_rfl) fun tds r h => ?_
  unfold Fvalid at h
  split at h
  · rename_i p q
    simp only [Option.some.injEq, Prod.mk.injEq, true_and] at h
    subst h
    refine ⟨Nat.le_of_ble_eq_true (by kernel_rfl), .more 100 (fun _ => [1,15,16,17]) _ _ _ (.of_eq (e11 G p q) ?_)⟩
    refine .bif (fun h => ?_) (fun h => ?_)
    · have : ¬ p.length = q.length := by simp at h; omega
      rw [show valid p q = 2 by simp [valid, this]]
      exact .ret _
    · have hpq : p.length = q.length := by simp at h; omega
      refine .bif (fun h => ?_) (fun h => ?_)
      · have : 8 < p.length := by simp at h; omega
        rw [show valid p q = 4 by simp [valid, hpq, hpq ▸ this]]
        exact .ret _
      · have h8 : p.length ≤ 8 := by simp at h; omega
        rw [show valid p q = validFrom p q p.length 0 by simp [valid, hpq, show ¬ 8 < q.length by omega]]
        exact g11 G p q h8 hpq _ 0 rfl (Nat.zero_le _)
  · simp at h
end Go.Lift.L14
