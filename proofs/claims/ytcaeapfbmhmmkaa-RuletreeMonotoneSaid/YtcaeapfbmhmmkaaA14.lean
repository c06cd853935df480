/- A part of the proof that the law returns true for every input: no condition. -/
import Derived.Test.YtcaeapfbmhmmkaaA13
set_option maxRecDepth 100000
set_option linter.unusedVariables false
set_option linter.unusedSimpArgs false
namespace Go.Lift.L14
open Go.Lift Go.Proofs

/-! THE STAGE's THEOREM, the plain law -/
theorem con_one_mem {p q : List Int} {b : List Bool} {a k : Int} (h : con p q b a = [k]) : k ∈ kids p a ∧ best (out p q b) q (kids p a) k = true ∧ ∀ j ∈ kids p a, best (out p q b) q (kids p a) j = true → j = k := by
  rw [con_filter] at h
  have h1 : k ∈ (kids p a).filter (best (out p q b) q (kids p a)) := by rw [h]; simp
  rw [List.mem_filter] at h1
  refine ⟨h1.1, h1.2, fun j hj hb => ?_⟩
  have : j ∈ (kids p a).filter (best (out p q b) q (kids p a)) := List.mem_filter.2 ⟨hj, hb⟩
  rw [h] at this
  simpa using this

theorem con_two {p q : List Int} {b : List Bool} (hG : Good p q b) {a : Int} (h1 : -1 ≤ a) (h2 : a < p.length) :
    (con p q b a = [] ∧ out p q b a = (bif decide (a ≥ 0) && b.getD a.toNat false then a else -1)) ∨ (∃ k, con p q b a = [k] ∧ k ∈ kids p a ∧ out p q b k ≠ -1 ∧ out p q b a = out p q b k) ∨ out p q b a = -2 := by
  rw [out_eq hG h1 h2]
  match hc : con p q b a with
  | [] => exact .inl ⟨rfl, rfl⟩
  | [k] => exact .inr (.inl ⟨k, rfl, (con_mem (by rw [hc]; simp)).1, (con_mem (b := b) (q := q) (a := a) (by rw [hc]; simp)).2, rfl⟩)
  | x :: y :: r => exact .inr (.inr rfl)

/-- what an outcome can be -/
theorem out_range {p q : List Int} {b : List Bool} (hG : Good p q b) : ∀ (n : Nat) (a : Int), (p.length : Int) - a ≤ n → -1 ≤ a → a < p.length →
    out p q b a = -1 ∨ out p q b a = -2 ∨ (0 ≤ out p q b a ∧ out p q b a < p.length ∧ b.getD (out p q b a).toNat false = true)
  | 0, a, h, _, h2 => by omega
  | n + 1, a, h, h1, h2 => by
    rcases con_two hG h1 h2 with ⟨_, he⟩ | ⟨k, _, hk, _, he⟩ | he
    · cases hb : decide (a ≥ 0) && b.getD a.toNat false with
      | false => rw [hb] at he; exact .inl he
      | true =>
        rw [hb] at he
        simp only [cond_true] at he
        simp only [Bool.and_eq_true, decide_eq_true_eq] at hb
        exact .inr (.inr (by rw [he]; exact ⟨hb.1, h2, hb.2⟩))
    · have := kids_mem hG hk
      rw [he]
      exact out_range hG n k (by omega) (by omega) this.2.1
    · exact .inr (.inl he)

structure Fewer (b b' : List Bool) : Prop where
  len : b'.length = b.length
  le : ∀ i, b'.getD i false = true → b.getD i false = true

theorem mono {p q : List Int} {b b' : List Bool} (hG : Good p q b) (hG' : Good p q b') (hf : Fewer b b') : ∀ (n : Nat) (a : Int), (p.length : Int) - a ≤ n → -1 ≤ a → a < p.length →
    (out p q b a = -1 → out p q b' a = -1) ∧ (0 ≤ out p q b a → b'.getD (out p q b a).toNat false = true → out p q b' a = out p q b a)
  | 0, a, h, _, h2 => by omega
  | n + 1, a, h, h1, h2 => by
    have ih : ∀ k ∈ kids p a, (out p q b k = -1 → out p q b' k = -1) ∧ (0 ≤ out p q b k → b'.getD (out p q b k).toNat false = true → out p q b' k = out p q b k) := fun k hk => by
      have := kids_mem hG hk
      exact mono hG hG' hf n k (by omega) (by omega) this.2.1
    have e' := out_eq hG' h1 h2
    rcases con_two hG h1 h2 with ⟨hc, he⟩ | ⟨k, hc, hk, hne, he⟩ | he
    · have hn : con p q b' a = [] := con_nil.2 fun k hk => (ih k hk).1 (con_nil.1 hc k hk)
      rw [hn] at e'
      simp only at e'
      cases hb : decide (a ≥ 0) && b.getD a.toNat false with
      | false =>
        rw [hb, cond_false] at he
        refine ⟨fun _ => ?_, fun h0 => by rw [he] at h0; omega⟩
        have : (decide (a ≥ 0) && b'.getD a.toNat false) = false := by
          cases hb' : decide (a ≥ 0) && b'.getD a.toNat false with
          | false => rfl
          | true =>
            simp only [Bool.and_eq_true, decide_eq_true_eq] at hb'
            rw [hf.le _ hb'.2, decide_eq_true hb'.1] at hb
            simp at hb
        rw [e', this]; rfl
      | true =>
        rw [hb, cond_true] at he
        simp only [Bool.and_eq_true, decide_eq_true_eq] at hb
        refine ⟨fun h => by rw [he] at h; omega, fun _ h => ?_⟩
        rw [he] at h ⊢
        rw [e', h]
        simp [hb.1]
    · refine ⟨fun h => (hne (he ▸ h)).elim, fun h0 h => ?_⟩
      rw [he] at h0 h ⊢
      have ek := (ih k hk).2 h0 h
      obtain ⟨_, hb, hu⟩ := con_one_mem hc
      have hbi := best_iff.1 hb
      have hsame : con p q b' a = [k] := by
        rw [con_filter, ← hc, con_filter]
        refine List.filter_congr fun j hj => ?_
        rw [Bool.eq_iff_iff]
        constructor
        · intro hj'
          have hj2 := best_iff.1 hj'
          have hjw : out p q b j ≠ -1 := fun e => hj2.1 ((ih j hj).1 e)
          have h3 := hj2.2 k hk (by rw [ek]; exact hne)
          exact best_iff.2 ⟨hjw, fun i hi hw => by have := hbi.2 i hi hw; omega⟩
        · intro hjb
          have := hu j hj hjb
          subst this
          refine best_iff.2 ⟨by rw [ek]; exact hne, fun i hi hw => ?_⟩
          exact hbi.2 i hi fun e => hw ((ih i hi).1 e)
      rw [e', hsame]
      exact ek
    · exact ⟨fun h => by rw [he] at h; omega, fun h => by rw [he] at h; omega⟩

theorem good_len {p q : List Int} {b b' : List Bool} (hg : good p q b = true) (h : b'.length = b.length) : good p q b' = true := by
  simp only [good, Bool.and_eq_true, decide_eq_true_eq] at hg ⊢
  exact ⟨hg.1, h.trans hg.2⟩

theorem sel_mono {p q : List Int} {b b' : List Bool} (hf : Fewer b b') (h1 : sel p q b ≠ -1) (h2 : sel p q b ≠ -2) :
    0 ≤ sel p q b ∧ sel p q b < b.length ∧ b.getD (sel p q b).toNat false = true ∧ (b'.getD (sel p q b).toNat false = true → sel p q b' = sel p q b) := by
  unfold sel at h1 h2 ⊢
  cases hg : good p q b with
  | false => rw [hg] at h1; exact (h1 rfl).elim
  | true =>
    have hg' := good_len hg hf.len
    have hG := good_spec hg
    have hG' := good_spec hg'
    rw [hg, cond_true] at h1 h2
    rw [hg', cond_true]
    rw [cond_true]
    rcases out_range hG (p.length + 1) (-1) (by omega) (by omega) (by omega) with h | h | h
    · exact (h1 h).elim
    · exact (h2 h).elim
    · exact ⟨h.1, by rw [hG.b]; exact h.2.1, h.2.2, fun hb => (mono hG hG' hf (p.length + 1) (-1) (by omega) (by omega) (by omega)).2 h.1 hb⟩
end Go.Lift.L14
