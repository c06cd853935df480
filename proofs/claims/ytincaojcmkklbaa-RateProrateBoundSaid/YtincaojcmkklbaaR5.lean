/- A part of the proof that the law returns true for every input: no condition. -/
import Derived.Test.YtincaojcmkklbaaR4
set_option maxRecDepth 100000
set_option linter.unusedVariables false
set_option linter.unusedSimpArgs false
namespace Go.Lift.L03
open Go.Lift Go.Proofs

/-! Len64 -/
theorem tab_at {x : Nat} (h : x < 256) : lenN x ≤ 8 ∧ (x = 0 ∨ (1 ≤ lenN x ∧ 2 ^ (lenN x - 1) ≤ x ∧ x < 2 ^ lenN x)) := by
  have := List.all_eq_true.1 tab_ok x (List.mem_range.2 h)
  simpa [and_assoc] using this

theorem wrapU8 {x : Nat} (h : x < 256) : IntKind.wrap .u8 (x : Int) = (x : Int) := by
  unfold IntKind.wrap
  simp [IntKind.signed, IntKind.bits]
  omega

theorem tabI_eq {x : Nat} (h : x < 256) : tabI x = ((lenN x : Nat) : Int) := by
  unfold tabI
  rw [wrapU8 h, Int.toNat_natCast]
  have := (tab_at h).1
  exact wrap_id (by unfold lenN at this; omega) (by unfold lenN at this; omega)

theorem lenE_eq {x n : Nat} (h : x < 256) (hn : n ≤ 100) : lenE x n = .ret (.tv (I ((n + lenN x : Nat) : Int))) := by
  unfold lenE
  have : inB (IntKind.wrap .u8 (x : Int)) tab.size = true := by
    rw [wrapU8 h]
    have : tab.size = 256 := by kernel_rfl
    rw [this]
    exact inB_nat h
  have h8 := (tab_at h).1
  rw [this, cond_true, tabI_eq h, ← Int.natCast_add, wrap_id (by omega) (by omega)]

theorem lenC_eq {x n : Nat} (h : x < 65536) (hn : n ≤ 90) : lenC x n = .ret (.tv (I ((lenN3 x n : Nat) : Int))) := by
  unfold lenC lenN3
  by_cases hx : x ≥ 256
  · have : decide ((x : Int) ≥ 256) = true := by simp; omega
    rw [this, cond_true, if_pos hx, show (x : Int).fdiv 256 = ((x / 256 : Nat) : Int) from fdivN x 256, show IntKind.wrap .i64 ((n : Int) + 8) = ((n + 8 : Nat) : Int) from wrap_id (by omega) (by omega)]
    exact lenE_eq (by omega) (by omega)
  · have : decide ((x : Int) ≥ 256) = false := by simp; omega
    rw [this, cond_false, if_neg hx]
    exact lenE_eq (by omega) (by omega)

theorem lenB_eq {x n : Nat} (h : x < 4294967296) (hn : n ≤ 70) : lenB x n = .ret (.tv (I ((lenN2 x n : Nat) : Int))) := by
  unfold lenB lenN2
  by_cases hx : x ≥ 65536
  · have : decide ((x : Int) ≥ 65536) = true := by simp; omega
    rw [this, cond_true, if_pos hx, show (x : Int).fdiv 65536 = ((x / 65536 : Nat) : Int) from fdivN x 65536, show IntKind.wrap .i64 ((n : Int) + 16) = ((n + 16 : Nat) : Int) from wrap_id (by omega) (by omega)]
    exact lenC_eq (by omega) (by omega)
  · have : decide ((x : Int) ≥ 65536) = false := by simp; omega
    rw [this, cond_false, if_neg hx]
    exact lenC_eq (by omega) (by omega)

theorem env41 {G : Tbl} (hE : Env Try.prog T G) : Env Try.prog T (G.add 41 Flen) := by
  refine hE.fun' (fn := Try.f41) (by kernel_rfl) (by kernel_rfl) (by kernel_rfl) fun tds r h => ?_
  obtain ⟨x, rfl, hx, rfl⟩ := FC1.inv h
  · skip
    refine ⟨Nat.le_of_ble_eq_true (by kernel_rfl), .more 100 (fun _ => []) _ _ _ (.of_eq (e41 G x) ?_)⟩
    obtain ⟨x, rfl, hx⟩ := u64ok_spec hx
    unfold lenI lenN1
    rw [Int.toNat_natCast]
    by_cases h : x ≥ 4294967296
    · have : decide ((x : Int) ≥ 4294967296) = true := by simp; omega
      rw [this, cond_true, if_pos h, show (x : Int).fdiv 4294967296 = ((x / 4294967296 : Nat) : Int) from fdivN x 4294967296]
      rw [show lenB ((x / 4294967296 : Nat) : Int) 32 = _ from lenB_eq (n := 32) (by omega) (by omega)]
      exact .ret _
    · have : decide ((x : Int) ≥ 4294967296) = false := by simp; omega
      rw [this, cond_false, if_neg h]
      rw [show lenB (x : Int) 0 = _ from lenB_eq (n := 0) (by omega) (by omega)]
      exact .ret _

theorem env32 {G : Tbl} (hE : Env Try.prog T (G.add 41 Flen)) : Env Try.prog T (GD G) := by
  refine hE.fun' (fn := Try.f32) (by kernel_rfl) (by kernel_rfl) (by kernel_rfl) fun tds r h => ?_
  obtain ⟨x, rfl, hx, rfl⟩ := FC1.inv h
  · skip
    refine ⟨Nat.le_of_ble_eq_true (by kernel_rfl), .more 100 (fun _ => []) _ _ _ (.of_eq (e32 G x) ?_)⟩
    rw [hx]
    exact .ret _

/-- the length in bits -/
structure Bits (x n t : Nat) : Prop where
  pos : 1 ≤ t
  lo : 2 ^ (n + t - 1) ≤ x
  hi : x < 2 ^ (n + t)

theorem bits_up {x n m t : Nat} (h : Bits (x / 2 ^ m) n t) : Bits x (m + n) t := by
  have hp : 0 < 2 ^ m := Nat.pow_pos (by omega)
  have h1 := h.lo
  have h2 := h.hi
  have h3 := h.pos
  rw [Nat.le_div_iff_mul_le hp, ← Nat.pow_add] at h1
  rw [Nat.div_lt_iff_lt_mul hp, ← Nat.pow_add] at h2
  exact ⟨h3, by rw [show m + n + t - 1 = n + t - 1 + m by omega]; exact h1, by rw [show m + n + t = n + t + m by omega]; exact h2⟩

theorem len_bits {x : Nat} (h : x < 18446744073709551616) (hx : 0 < x) : 1 ≤ lenN1 x ∧ lenN1 x ≤ 64 ∧ 2 ^ (lenN1 x - 1) ≤ x ∧ x < 2 ^ lenN1 x := by
  have t0 : ∀ {y : Nat}, y < 256 → 0 < y → Bits y 0 (lenN y) ∧ lenN y ≤ 8 := by
    intro y hy h0
    obtain ⟨h8, h'⟩ := tab_at hy
    rcases h' with h' | h'
    · omega
    · exact ⟨⟨h'.1, by simpa using h'.2.1, by simpa using h'.2.2⟩, h8⟩
  have t3 : ∀ {y : Nat} (n : Nat), y < 65536 → 0 < y → ∃ t, lenN3 y n = n + t ∧ Bits y 0 t ∧ t ≤ 16 := by
    intro y n hy h0
    unfold lenN3
    by_cases h : y ≥ 256
    · rw [if_pos h]
      obtain ⟨hb, h8⟩ := t0 (y := y / 256) (by omega) (by omega)
      have hb := bits_up (m := 8) hb
      exact ⟨8 + lenN (y / 256), by omega, ⟨by omega, by have := hb.lo; simpa [Nat.add_assoc] using this, by have := hb.hi; simpa [Nat.add_assoc] using this⟩, by omega⟩
    · rw [if_neg h]
      obtain ⟨hb, h8⟩ := t0 (y := y) (by omega) h0
      exact ⟨lenN y, rfl, hb, by omega⟩
  have t2 : ∀ {y : Nat} (n : Nat), y < 4294967296 → 0 < y → ∃ t, lenN2 y n = n + t ∧ Bits y 0 t ∧ t ≤ 32 := by
    intro y n hy h0
    unfold lenN2
    by_cases h : y ≥ 65536
    · rw [if_pos h]
      obtain ⟨t, e, hb, h16⟩ := t3 (y := y / 65536) (n + 16) (by omega) (by omega)
      have hb := bits_up (m := 16) hb
      exact ⟨16 + t, by omega, ⟨by omega, by have := hb.lo; simpa [Nat.add_assoc] using this, by have := hb.hi; simpa [Nat.add_assoc] using this⟩, by omega⟩
    · rw [if_neg h]
      obtain ⟨t, e, hb, h16⟩ := t3 (y := y) n (by omega) h0
      exact ⟨t, e, hb, by omega⟩
  have t1 : ∃ t, lenN1 x = t ∧ Bits x 0 t ∧ t ≤ 64 := by
    unfold lenN1
    by_cases hc : x ≥ 4294967296
    · rw [if_pos hc]
      obtain ⟨t, e, hb, h32⟩ := t2 (y := x / 4294967296) 32 (by omega) (by omega)
      have hb := bits_up (m := 32) hb
      exact ⟨32 + t, by omega, ⟨by omega, by have := hb.lo; simpa [Nat.add_assoc] using this, by have := hb.hi; simpa [Nat.add_assoc] using this⟩, by omega⟩
    · rw [if_neg hc]
      obtain ⟨t, e, hb, h32⟩ := t2 (y := x) 0 (by omega) hx
      exact ⟨t, by omega, hb, by omega⟩
  obtain ⟨t, e, hb, h64⟩ := t1
  rw [e]
  exact ⟨hb.pos, h64, by have := hb.lo; simpa using this, by have := hb.hi; simpa using this⟩
end Go.Lift.L03
