/- A part of the proof that the law returns true for every input: no condition. -/
import Derived.Test.YtcaeapfbmhmmkaaA15
set_option maxRecDepth 100000
set_option linter.unusedVariables false
set_option linter.unusedSimpArgs false
namespace Go.Lift.L14
open Go.Lift Go.Proofs

theorem getD_out {o : List Bool} {j : Nat} (h : o.length ≤ j) : o.getD j false = false := by simp [List.getD, h]

theorem keepB_le {b f : List Bool} {s : Int} {j : Nat} (h : keepB b f s j = true) : b.getD j false = true := by
  unfold keepB at h
  rw [Int.toNat_natCast] at h
  cases hb : b.getD j false with
  | true => rfl
  | false => rw [hb] at h; simp at h

theorem g4 (p q : List Int) (b f : List Bool) (hb : b.length ≤ 100) (h1 : sel p q b ≠ -1) (h2 : sel p q b ≠ -2) : ∀ (m i : Nat) (o : List Bool), b.length - i = m → i ≤ b.length → o.length = i → (∀ j, j < i → o.getD j false = keepB b f (sel p q b) j) →
    Goes GB T Try.f4.ntmps Try.f4.results.toList (.loop L4.body L4.kont (S4 p q b f (sel p q b) i o)) (.tv (B true))
  | m, i, o, hm, hi, hl, ho => by
    refine Goes.lp 200 (fun _ => [0,1,2,3,9,10,11]) (.of_eq (i4 p q b f (sel p q b) i o) ?_)
    refine .bif (fun h => ?_) (fun h => ?_)
    · have hlt : i < b.length := by simpa using h
      have hck : (inB (i : Int) f.length || !(b.getD (i : Int).toNat false && !(bif (i : Int) == sel p q b then true else decide ((i : Int) ≥ (f.length : Int))))) = true := by
        by_cases hf : i < f.length
        · rw [inB_nat hf]; rfl
        · have : decide ((i : Int) ≥ (f.length : Int)) = true := by simp; omega
          rw [this]
          cases (i : Int) == sel p q b <;> simp
      rw [inB_nat hlt, cond_true, hck, cond_true, lenOK_le (by simp [lenBound]; omega), cond_true, wrapS hlt (by simp [lenBound]; omega)]
      refine g4 p q b f hb h1 h2 (m - 1) (i + 1) _ (by omega) (by omega) (by simp [hl]) fun j hj => ?_
      by_cases e : j < i
      · rw [← ho j e]
        simp [List.getD, List.getElem?_append, hl, e]
      · have : j = i := by omega
        subst this
        simp [List.getD, List.getElem?_append, hl]
    · have hge : i = b.length := by have : b.length ≤ i := by simpa using h
                                    omega
      have hlen : o.length = b.length := by omega
      have hf : Fewer b o := ⟨hlen, fun j hj => by
        by_cases e : j < o.length
        · exact keepB_le (by rw [← ho j (by omega)]; exact hj)
        · rw [getD_out (by omega)] at hj; simp at hj⟩
      obtain ⟨s0, s1, s2, s3⟩ := sel_mono (p := p) (q := q) hf h1 h2
      have hs : o.getD (sel p q b).toNat false = true := by
        rw [ho _ (by omega)]
        unfold keepB
        have : ((sel p q b).toNat : Int) = sel p q b := Int.toNat_of_nonneg s0
        rw [this, s2]
        simp
      rw [s3 hs]
      simp only [beq_self_eq_true, cond_true]
      exact .ret _
  termination_by m => m

def Flaw4 : List TD → Option (Bool × SV)
  | [⟨.slice (.int .i64), p⟩, ⟨.slice (.int .i64), q⟩, ⟨.slice .bool, b⟩, ⟨.slice .bool, f⟩] => some (true, .tv (B true))
  | _ => none

theorem env4 : Env Try.prog T (GB.add 4 Flaw4) := by
  refine envB.fun' (fn := Try.f4) (by kernel_rfl) (by kernel_rfl) (by kernel_rfl) fun tds r h => ?_
  unfold Flaw4 at h
  split at h
  · rename_i p q b f
    simp only [Option.some.injEq, Prod.mk.injEq, true_and] at h
    subst h
    refine ⟨Nat.le_of_ble_eq_true (by kernel_rfl), .more 200 (fun _ => [0,1,2,3,9,10,11]) _ _ _ (.of_eq (e4 p q b f) ?_)⟩
    refine .bif (fun _ => .ret _) (fun h => ?_)
    have hb : b.length ≤ 100 := by
      rw [bor_bif, bor_bif, bor_bif] at h
      simp only [Bool.or_eq_false_iff, decide_eq_false_iff_not] at h
      have := h.1.2
      omega
    refine .bif (fun _ => .ret _) (fun h => ?_)
    rw [bor_bif] at h
    simp only [Bool.or_eq_false_iff, beq_eq_false_iff_ne] at h
    obtain ⟨s0, s1, s2, _⟩ := sel_mono (p := p) (q := q) (b := b) (b' := b) ⟨rfl, fun _ h => h⟩ h.1 h.2
    have e1 : decide (sel p q b < 0) = false := by simp; exact s0
    have e2 : decide (sel p q b ≥ (b.length : Int)) = false := by simp; exact s1
    rw [inB_of s0 s1, Bool.true_or, cond_true, e1, e2, s2]
    exact g4 p q b f hb h.1 h.2 b.length 0 [] rfl (Nat.zero_le _) rfl fun j hj => by omega
  · simp at h
end Go.Lift.L14
