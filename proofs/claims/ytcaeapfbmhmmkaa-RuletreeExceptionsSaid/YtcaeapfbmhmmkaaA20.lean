/- A part of the proof that the law returns true for every input: no condition. -/
import Derived.Test.YtcaeapfbmhmmkaaA19
set_option maxRecDepth 100000
set_option linter.unusedVariables false
set_option linter.unusedSimpArgs false
namespace Go.Lift.L14
open Go.Lift Go.Proofs

theorem sel_way {p q : List Int} {b : List Bool} (hv : valid p q = 0) (hl : b.length = p.length) {x : Int} (h0 : 0 ≤ x) (hx : x < p.length) (hb : ∀ k : Int, 0 ≤ k → k < p.length → (b.getD k.toNat false = true ↔ k ∈ path p x)) : sel p q b = x := by
  have hg : good p q b = true := by simp [good, hv, hl]
  have hG := good_spec hg
  unfold sel
  rw [hg, cond_true]
  exact (out_way hG h0 hx hb (p.length + 1) (-1) (by omega) (by omega) (by omega)).2 (.inr rfl)

theorem g5 (p q : List Int) (hv : valid p q = 0) {x : Int} (h0 : 0 ≤ x) (hx : x < p.length) (l : List Int) (hlp : l = path p x) (hl : l.length ≤ 100) (hr : ∀ k ∈ l, 0 ≤ k ∧ k < p.length) : ∀ (m i : Nat) (o : List Bool), l.length - i = m → i ≤ l.length → o.length = p.length →
    (∀ k : Int, 0 ≤ k → k < p.length → (o.getD k.toNat false = true ↔ k ∈ l.take i)) →
    Goes GB T Try.f5.ntmps Try.f5.results.toList (.loop L5.body L5.kont (S5 p q l x i o)) (.tv (B true))
  | m, i, o, hm, hi, ho, hb => by
    refine Goes.lp 200 (fun _ => [0,1,7,8,9,10]) (.of_eq (i5 p q l x i o) ?_)
    refine .bif (fun h => ?_) (fun h => ?_)
    · have hlt : i < l.length := by simpa using h
      have hk := hr _ (getD_mem hlt)
      have e1 : decide (l.getD i 0 < 0) = false := by simp only [decide_eq_false_iff_not]; omega
      have e2 : decide (l.getD i 0 ≥ (o.length : Int)) = false := by simp only [decide_eq_false_iff_not]; omega
      rw [inB_nat hlt, Bool.true_or, cond_true, cond_true, Int.toNat_natCast, e1, e2, cond_false, cond_false, cond_true, inB_of hk.1 (by omega), cond_true, wrapS hlt (by simp [lenBound]; omega)]
      refine g5 p q hv h0 hx l hlp hl hr (m - 1) (i + 1) _ (by omega) (by omega) (by simp [ho]) fun k k0 k1 => ?_
      have ht : l.take (i + 1) = l.take i ++ [l.getD i 0] := by
        rw [List.take_add_one]
        simp [List.getD, hlt]
      rw [ht]
      have hg : ∀ y : Int, 0 ≤ y → y < p.length → (o.set y.toNat true).getD k.toNat false = if k = y then true else o.getD k.toNat false := by
        intro y y0 y1
        simp only [List.getD_eq_getElem?_getD, List.getElem?_set]
        by_cases e : k = y
        · subst e
          have : k.toNat < o.length := by omega
          simp [this]
        · have : ¬ y.toNat = k.toNat := by omega
          simp [this, e]
      have hg := hg _ hk.1 hk.2
      rw [hg]
      by_cases e : k = l.getD i 0
      · simp [e]
      · rw [if_neg e, hb k k0 k1]
        simp only [List.mem_append, List.mem_singleton]
        exact ⟨.inl, fun h => h.resolve_right e⟩
    · have hge : i = l.length := by
        have : l.length ≤ i := by simpa using h
        omega
      have hs : sel p q o = x := sel_way hv ho h0 hx fun k k0 k1 => by rw [hb k k0 k1, hge, List.take_length, hlp]
      have hhead : l.length > 0 ∧ l.getD 0 0 = x := by
        have e : (decide (x < 0) || decide (x ≥ (p.length : Int))) = false := by simp; omega
        have hp : path p x = x :: walkUp p x.toNat x (p.getD x.toNat 0) := by unfold path; rw [e]; rfl
        rw [hlp, hp]
        exact ⟨by simp, rfl⟩
      have e0 : inB 0 l.length = true := by simp [inB]; omega
      have e1 : decide ((l.length : Int) > 0) = true := by simp only [decide_eq_true_eq]; omega
      rw [e0, Bool.true_or, cond_true, e1, hs, hhead.2]
      simp only [beq_self_eq_true, cond_true]
      exact .ret _
  termination_by m => m

def u8ok (a : Int) : Bool := decide (0 ≤ a) && decide (a ≤ 255)
theorem u8ok_spec {a : Int} (h : u8ok a = true) : 0 ≤ a ∧ a ≤ 255 := by simpa [u8ok] using h

def Flaw5 : List TD → Option (Bool × SV)
  | [⟨.slice (.int .i64), p⟩, ⟨.slice (.int .i64), q⟩, ⟨.int .u8, a⟩] => some (u8ok a, .tv (B true))
  | _ => none

theorem getD_zeros (n j : Nat) : (zeros .bool n).getD j false = false := by
  show (List.replicate n false).getD j false = false
  simp only [List.getD_eq_getElem?_getD, List.getElem?_replicate]
  split <;> rfl

theorem env5 : Env Try.prog T (GB.add 5 Flaw5) := by
  refine envB.fun' (fn := Try.f5) (by kernel_rfl) (by kernel_rfl) (by kernel_rfl) fun tds r h => ?_
  unfold Flaw5 at h
  split at h
  · rename_i p q a
    simp only [Option.some.injEq, Prod.mk.injEq] at h
    obtain ⟨ha, rfl⟩ := h
    obtain ⟨ha, ha'⟩ := u8ok_spec ha
    refine ⟨Nat.le_of_ble_eq_true (by kernel_rfl), .more 200 (fun _ => [0,1,7,8,9,10]) _ _ _ (.of_eq (e5 p q a) ?_)⟩
    refine .bif (fun _ => .ret _) (fun h => ?_)
    rw [bor_bif, bor_bif, bor_bif] at h
    simp only [Bool.or_eq_false_iff, decide_eq_false_iff_not, Bool.not_eq_false', beq_iff_eq, beq_eq_false_iff_ne] at h
    obtain ⟨⟨⟨hp, _⟩, hn⟩, hv⟩ := h
    have hg : good p q (zeros .bool p.length) = true := by
      simp only [good, Bool.and_eq_true, decide_eq_true_eq]
      exact ⟨hv, by simp [zeros]⟩
    have hG := good_spec hg
    have hle := hG.le
    have hT := tree_of hG
    have e1 : (decide (0 ≤ (p.length : Int)) && decide ((p.length : Int) ≤ (p.length : Int)) && lenOK (p.length : Int).toNat) = true := by
      rw [lenOK_le (by rw [Int.toNat_natCast]; simp [lenBound]; omega)]
      simp
    have e2 : (!((p.length : Int) == 0)) = true := by simp; intro e; simp [e] at hn
    rw [e1, cond_true, e2, cond_true, lenOK_le (by simp [lenBound]; omega), cond_true, Int.toNat_natCast]
    have hr : rest p a = a.tmod p.length := by
      unfold rest
      rw [wrap_id (by omega) (by omega)]
    have h0 : 0 ≤ rest p a := by rw [hr]; exact Int.tmod_nonneg _ ha
    have hx : rest p a < p.length := by rw [hr]; exact Int.tmod_lt_of_pos _ (by omega)
    have hw := way hT _ (rest p a) rfl h0 hx
    have hlen : (path p (rest p a)).length ≤ 100 := by
      have e : (decide (rest p a < 0) || decide (rest p a ≥ (p.length : Int))) = false := by simp; omega
      have wl : ∀ (n : Nat) (a x : Int), (walkUp p n a x).length ≤ n := by
        intro n
        induction n with
        | zero => intro a x; simp [walkUp]
        | succ n ih =>
          intro a x
          simp only [walkUp]
          cases decide (x ≥ 0) && decide (x < a) with
          | false => exact Nat.zero_le _
          | true =>
            have := ih x (p.getD x.toNat 0)
            show (x :: walkUp p n x (p.getD x.toNat 0)).length ≤ n + 1
            rw [List.length_cons]; omega
      unfold path
      rw [e, cond_false]
      have := wl (rest p a).toNat (rest p a) (p.getD (rest p a).toNat 0)
      rw [List.length_cons]
      omega
    refine g5 p q hv h0 hx _ rfl hlen (fun k hk => by have := hw.le k hk; exact ⟨this.1, by omega⟩) _ 0 _ rfl (Nat.zero_le _) (by simp [zeros]) fun k k0 k1 => ?_
    rw [getD_zeros]
    simp
  · simp at h
end Go.Lift.L14
