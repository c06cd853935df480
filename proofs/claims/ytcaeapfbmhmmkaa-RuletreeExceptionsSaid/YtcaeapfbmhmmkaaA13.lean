/- A part of the proof that the law returns true for every input: no condition. -/
import Derived.Test.YtcaeapfbmhmmkaaA11
set_option maxRecDepth 100000
set_option linter.unusedVariables false
set_option linter.unusedSimpArgs false
namespace Go.Lift.L14
open Go.Lift Go.Proofs

/-! the contenders are those children with an outcome that have the greatest priority -/
def best (oc : Int → Int) (q : List Int) (m : List Int) (k : Int) : Bool := decide (oc k ≠ -1) && m.all fun j => !decide (oc j ≠ -1) || decide (at' q j ≤ at' q k)

theorem best_iff {oc : Int → Int} {q m : List Int} {k : Int} : best oc q m k = true ↔ oc k ≠ -1 ∧ ∀ j ∈ m, oc j ≠ -1 → at' q j ≤ at' q k := by
  simp only [best, Bool.and_eq_true, decide_eq_true_eq, List.all_eq_true, Bool.or_eq_true, Bool.not_eq_true', decide_eq_false_iff_not]
  constructor
  · rintro ⟨h1, h2⟩
    exact ⟨h1, fun j hj hw => (h2 j hj).resolve_left fun h => h hw⟩
  · rintro ⟨h1, h2⟩
    refine ⟨h1, fun j hj => ?_⟩
    by_cases hw : oc j ≠ -1
    · exact .inr (h2 j hj hw)
    · exact .inl hw

/-- among children with an outcome one is best -/
theorem best_ex {oc : Int → Int} {q : List Int} : ∀ (m : List Int), (∃ j ∈ m, oc j ≠ -1) → ∃ x ∈ m, best oc q m x = true
  | [], ⟨j, hj, _⟩ => by simp at hj
  | y :: m, h => by
    by_cases hm : ∃ j ∈ m, oc j ≠ -1
    · obtain ⟨x, hx, hb⟩ := best_ex (oc := oc) (q := q) m hm
      rw [best_iff] at hb
      by_cases hy : oc y ≠ -1 ∧ at' q x < at' q y
      · refine ⟨y, by simp, best_iff.2 ⟨hy.1, fun j hj hw => ?_⟩⟩
        rcases List.mem_cons.1 hj with rfl | hj
        · exact Int.le_refl _
        · have := hb.2 j hj hw; have := hy.2; omega
      · refine ⟨x, by simp [hx], best_iff.2 ⟨hb.1, fun j hj hw => ?_⟩⟩
        rcases List.mem_cons.1 hj with rfl | hj
        · by_cases h : at' q x < at' q j
          · exact (hy ⟨hw, h⟩).elim
          · omega
        · exact hb.2 j hj hw
    · obtain ⟨j, hj, hw⟩ := h
      rcases List.mem_cons.1 hj with rfl | hj
      · refine ⟨j, by simp, best_iff.2 ⟨hw, fun i hi hwi => ?_⟩⟩
        rcases List.mem_cons.1 hi with rfl | hi
        · exact Int.le_refl _
        · exact (hm ⟨i, hi, hwi⟩).elim
      · exact (hm ⟨j, hj, hw⟩).elim

theorem contend_spec {oc : Int → Int} {q : List Int} : ∀ (l m o : List Int), o = m.filter (best oc q m) → contend oc q l o = (m ++ l).filter (best oc q (m ++ l))
  | [], m, o, h => by simp [contend, h]
  | k :: l, m, o, h => by
    have next : ∀ o', o' = (m ++ [k]).filter (best oc q (m ++ [k])) → contend oc q l o' = (m ++ k :: l).filter (best oc q (m ++ k :: l)) := by
      intro o' h'
      have := contend_spec l (m ++ [k]) o' h'
      simpa using this
    have mem_o : ∀ x, x ∈ o ↔ x ∈ m ∧ best oc q m x = true := fun x => by rw [h, List.mem_filter]
    have bk : ∀ x, best oc q (m ++ [k]) x = true ↔ (oc x ≠ -1 ∧ (∀ j ∈ m, oc j ≠ -1 → at' q j ≤ at' q x) ∧ (oc k ≠ -1 → at' q k ≤ at' q x)) := by
      intro x
      rw [best_iff]
      constructor
      · rintro ⟨h1, h2⟩; exact ⟨h1, fun j hj => h2 j (by simp [hj]), h2 k (by simp)⟩
      · rintro ⟨h1, h2, h3⟩
        refine ⟨h1, fun j hj => ?_⟩
        rcases List.mem_append.1 hj with hj | hj
        · exact h2 j hj
        · simp at hj; subst hj; exact h3
    have fl : ∀ (f : Int → Bool), (∀ x ∈ m, best oc q (m ++ [k]) x = f x) → m.filter (best oc q (m ++ [k])) = m.filter f := fun f hf => List.filter_congr hf
    rw [contend_cons]
    by_cases hk : oc k = -1
    · rw [decide_eq_true hk, cond_true]
      refine next o ?_
      rw [List.filter_append, h, fl (best oc q m) fun x _ => ?_]
      · have : best oc q (m ++ [k]) k = false := by
          cases hb : best oc q (m ++ [k]) k with
          | false => rfl
          | true => exact ((best_iff.1 hb).1 hk).elim
        simp [this]
      · rw [Bool.eq_iff_iff, bk, best_iff]
        exact ⟨fun h => ⟨h.1, h.2.1⟩, fun h => ⟨h.1, h.2, fun h' => (h' hk).elim⟩⟩
    · rw [decide_eq_false hk, cond_false]
      match ho : o with
      | [] =>
        have hno : ∀ j ∈ m, oc j = -1 := by
          intro j hj
          by_cases hw : oc j = -1
          · exact hw
          · obtain ⟨x, hx, hb⟩ := best_ex (q := q) m ⟨j, hj, hw⟩
            have := (mem_o x).2 ⟨hx, hb⟩
            simp at this
        have hthis : ([k] : List Int) = (m ++ [k]).filter (best oc q (m ++ [k])) := by
          rw [List.filter_append, fl (fun _ => false) fun x hx => ?_]
          · have : best oc q (m ++ [k]) k = true := (bk k).2 ⟨hk, fun j hj hw => (hw (hno j hj)).elim, fun _ => Int.le_refl _⟩
            simp [this]
          · cases hb : best oc q (m ++ [k]) x with
            | false => rfl
            | true => exact (((bk x).1 hb).1 (hno x hx)).elim
        simp only [List.length_nil, Int.ofNat_zero, Int.lt_irrefl, decide_false, Bool.false_and, cond_false, gt_iff_lt, decide_true, Bool.true_or, cond_true, List.nil_append]
        exact next _ hthis
      | x :: r =>
        have hx := (mem_o x).1 (by simp)
        have hxb := best_iff.1 hx.2
        have hlen : decide (((x :: r : List Int).length : Int) > 0) = true := by simp <;> omega
        have hlen0 : decide (((x :: r : List Int).length : Int) = 0) = false := by simp <;> omega
        rw [hlen, hlen0, Bool.true_and, Bool.false_or, show (x :: r : List Int).getD 0 0 = x from rfl]
        by_cases hgt : at' q k > at' q x
        · rw [decide_eq_true hgt, cond_true]
          have hthis : ([k] : List Int) = (m ++ [k]).filter (best oc q (m ++ [k])) := by
            rw [List.filter_append, fl (fun _ => false) fun y hy => ?_]
            · have : best oc q (m ++ [k]) k = true := (bk k).2 ⟨hk, fun j hj hw => by have := hxb.2 j hj hw; omega, fun _ => Int.le_refl _⟩
              simp [this]
            · cases hb : best oc q (m ++ [k]) y with
              | false => rfl
              | true =>
                have h1 := (bk y).1 hb
                have h2 := hxb.2 y hy h1.1
                have h3 := h1.2.2 hk
                omega
          simp only [List.length_nil, Int.ofNat_zero, decide_true, Bool.true_or, cond_true, List.nil_append]
          exact next _ hthis
        · rw [decide_eq_false hgt, cond_false]
          by_cases heq : at' q k = at' q x
          · rw [decide_eq_true heq, cond_true]
            refine next _ ?_
            rw [List.filter_append, h, fl (best oc q m) fun y hy => ?_]
            · have : best oc q (m ++ [k]) k = true := (bk k).2 ⟨hk, fun j hj hw => by have := hxb.2 j hj hw; omega, fun _ => Int.le_refl _⟩
              simp [this]
            · rw [Bool.eq_iff_iff, bk, best_iff]
              exact ⟨fun h => ⟨h.1, h.2.1⟩, fun h => ⟨h.1, h.2, fun _ => by have := h.2 x hx.1 hxb.1; omega⟩⟩
          · rw [decide_eq_false heq, cond_false]
            refine next _ ?_
            rw [List.filter_append, h, fl (best oc q m) fun y hy => ?_]
            · have : best oc q (m ++ [k]) k = false := by
                cases hb : best oc q (m ++ [k]) k with
                | false => rfl
                | true => have := ((bk k).1 hb).2.1 x hx.1 hxb.1; omega
              simp [this]
            · rw [Bool.eq_iff_iff, bk, best_iff]
              exact ⟨fun h => ⟨h.1, h.2.1⟩, fun h => ⟨h.1, h.2, fun _ => by have := h.2 x hx.1 hxb.1; omega⟩⟩

theorem con_filter (p q : List Int) (b : List Bool) (a : Int) : con p q b a = (kids p a).filter (best (out p q b) q (kids p a)) := by
  have := contend_spec (oc := out p q b) (q := q) (kids p a) [] [] rfl
  simp only [List.nil_append] at this
  exact this

theorem con_nil {p q : List Int} {b : List Bool} {a : Int} : con p q b a = [] ↔ ∀ k ∈ kids p a, out p q b k = -1 := by
  rw [con_filter, List.filter_eq_nil_iff]
  constructor
  · intro h k hk
    by_cases hw : out p q b k = -1
    · exact hw
    · obtain ⟨x, hx, hb⟩ := best_ex (q := q) (kids p a) ⟨k, hk, hw⟩
      exact (h x hx hb).elim
  · intro h k hk hb
    exact (best_iff.1 hb).1 (h k hk)

end Go.Lift.L14
