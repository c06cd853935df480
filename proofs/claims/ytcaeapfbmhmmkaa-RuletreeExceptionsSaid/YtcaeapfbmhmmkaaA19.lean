/- A part of the proof that the law returns true for every input: no condition. -/
import Derived.Test.YtcaeapfbmhmmkaaA18
set_option maxRecDepth 100000
set_option linter.unusedVariables false
set_option linter.unusedSimpArgs false
namespace Go.Lift.L14
open Go.Lift Go.Proofs

theorem kidsFrom_of {a : Int} : ∀ (l : List Int) (i j : Nat), j < l.length → l.getD j 0 = a → ((i + j : Nat) : Int) ∈ kidsFrom a l i
  | [], i, j, h, _ => by simp at h
  | y :: r, i, j, h, he => by
    simp only [kidsFrom]
    cases j with
    | zero =>
      have : y = a := by simpa using he
      simp [this]
    | succ j =>
      have := kidsFrom_of (a := a) r (i + 1) j (by simpa using h) (by simpa using he)
      rw [show i + 1 + j = i + (j + 1) by omega] at this
      cases decide (y = a) with
      | true => exact List.mem_cons_of_mem _ this
      | false => exact this

theorem kids_of {p : List Int} {a k : Int} (h0 : 0 ≤ k) (h : k < p.length) (he : p.getD k.toNat 0 = a) : k ∈ kids p a := by
  have := kidsFrom_of p 0 k.toNat (by omega) he
  rw [Nat.zero_add, Int.toNat_of_nonneg h0] at this
  exact this

theorem kidsFrom_nodup {a : Int} : ∀ (l : List Int) (i : Nat), (kidsFrom a l i).Nodup
  | [], _ => by simp [kidsFrom]
  | y :: r, i => by
    simp only [kidsFrom]
    have ih := kidsFrom_nodup (a := a) r (i + 1)
    cases decide (y = a) with
    | true =>
      refine List.nodup_cons.2 ⟨fun h => ?_, ih⟩
      obtain ⟨j, _, h2, _⟩ := kidsFrom_mem r (i + 1) _ h
      omega
    | false => exact ih

theorem filter_one {l : List Int} (hn : l.Nodup) {j : Int} (hj : j ∈ l) {f : Int → Bool} (hf : ∀ k ∈ l, f k = true ↔ k = j) : l.filter f = [j] := by
  induction l with
  | nil => simp at hj
  | cons y r ih =>
    rw [List.nodup_cons] at hn
    rcases List.mem_cons.1 hj with rfl | hj
    · have h1 : f j = true := (hf j (by simp)).2 rfl
      rw [List.filter_cons_of_pos h1]
      have : r.filter f = [] := by
        rw [List.filter_eq_nil_iff]
        intro k hk hfk
        have := (hf k (by simp [hk])).1 hfk
        subst this
        exact hn.1 hk
      rw [this]
    · have h1 : ¬ f y = true := fun h => by
        have := (hf y (by simp)).1 h
        subst this
        exact hn.1 hj
      rw [List.filter_cons_of_neg h1]
      exact ih hn.2 hj fun k hk => hf k (by simp [hk])

theorem walkUp_fuel {p : List Int} : ∀ (k k' : Nat) (a x : Int), 0 ≤ a → a.toNat ≤ k → a.toNat ≤ k' → walkUp p k a x = walkUp p k' a x := by
  intro k
  induction k with
  | zero =>
    intro k' a x h0 h1 h2
    cases k' with
    | zero => rfl
    | succ k' =>
      have : (decide (x ≥ 0) && decide (x < a)) = false := by simp; omega
      simp only [walkUp, this, cond_false]
  | succ k ih =>
    intro k' a x h0 h1 h2
    cases k' with
    | zero =>
      have : (decide (x ≥ 0) && decide (x < a)) = false := by simp; omega
      simp only [walkUp, this, cond_false]
    | succ k' =>
      simp only [walkUp]
      cases hc : decide (x ≥ 0) && decide (x < a) with
      | false => rfl
      | true =>
        simp at hc
        simp only [cond_true]
        rw [ih k' x _ hc.1 (by omega) (by omega)]

def par (p : List Int) (k : Int) : Int := p.getD k.toNat 0

structure Tree (p : List Int) : Prop where
  par : ∀ k : Int, 0 ≤ k → k < p.length → -1 ≤ par p k ∧ par p k < k

theorem tree_of {p q : List Int} {b : List Bool} (hG : Good p q b) : Tree p := ⟨fun k h0 h => by
  have := hG.par k.toNat (by omega)
  unfold par
  omega⟩

theorem path_step {p : List Int} (hT : Tree p) {x : Int} (h0 : 0 ≤ x) (h : x < p.length) : path p x = x :: (bif decide (par p x ≥ 0) then path p (par p x) else []) := by
  have hp := hT.par x h0 h
  unfold path
  have e1 : (decide (x < 0) || decide (x ≥ (p.length : Int))) = false := by simp; omega
  rw [e1, cond_false]
  congr 1
  cases hc : decide (par p x ≥ 0) with
  | false =>
    simp only [decide_eq_false_iff_not] at hc
    cases hn : x.toNat with
    | zero => rfl
    | succ n =>
      have e : (decide (par p x ≥ 0) && decide (par p x < x)) = false := by simp; omega
      show walkUp p (n + 1) x (p.getD (n + 1) 0) = _
      rw [← hn]
      show walkUp p x.toNat x (par p x) = _
      rw [hn]
      simp only [walkUp]
      rw [e]
      rfl
  | true =>
    simp only [decide_eq_true_eq] at hc
    have e2 : (decide (par p x < 0) || decide (par p x ≥ (p.length : Int))) = false := by simp; omega
    rw [cond_true, e2, cond_false]
    show walkUp p x.toNat x (par p x) = _
    obtain ⟨n, hn⟩ : ∃ n, x.toNat = n + 1 := ⟨x.toNat - 1, by omega⟩
    have e : (decide (par p x ≥ 0) && decide (par p x < x)) = true := by simp; omega
    rw [hn]
    simp only [walkUp]
    rw [e, cond_true, walkUp_fuel n (par p x).toNat (par p x) _ hc (by omega) (Nat.le_refl _)]

/-- the way up from x, as a set -/
structure Way (p : List Int) (x : Int) : Prop where
  self : x ∈ path p x
  le : ∀ k ∈ path p x, 0 ≤ k ∧ k ≤ x
  below : ∀ k ∈ path p x, k ≠ x → ∃ j ∈ path p x, par p j = k
  top : ∃ j ∈ path p x, par p j = -1
  one : ∀ j ∈ path p x, ∀ j' ∈ path p x, par p j = par p j' → j = j'
  up : ∀ k ∈ path p x, par p k ≥ 0 → par p k ∈ path p x

theorem way {p : List Int} (hT : Tree p) : ∀ (n : Nat) (x : Int), x.toNat = n → 0 ≤ x → x < p.length → Way p x := by
  intro n
  induction n using Nat.strongRecOn with
  | _ n ih =>
    intro x hn h0 h
    have hp := hT.par x h0 h
    have hs := path_step hT h0 h
    cases hc : decide (par p x ≥ 0) with
    | false =>
      simp only [decide_eq_false_iff_not] at hc
      rw [decide_eq_false hc, cond_false] at hs
      have hm : ∀ k, k ∈ path p x ↔ k = x := fun k => by rw [hs]; simp
      exact ⟨(hm x).2 rfl, fun k hk => by have := (hm k).1 hk; omega, fun k hk hne => (hne ((hm k).1 hk)).elim, ⟨x, (hm x).2 rfl, by omega⟩,
        fun j hj j' hj' _ => by rw [(hm j).1 hj, (hm j').1 hj'], fun k hk h' => by rw [(hm k).1 hk] at h'; exact (hc h').elim⟩
    | true =>
      simp only [decide_eq_true_eq] at hc
      rw [decide_eq_true hc, cond_true] at hs
      have hw := ih (par p x).toNat (by omega) (par p x) rfl hc (by omega)
      have hm : ∀ k, k ∈ path p x ↔ k = x ∨ k ∈ path p (par p x) := fun k => by rw [hs]; simp
      have hlt : ∀ k ∈ path p (par p x), par p k < par p x := fun k hk => by
        have h1 := hw.le k hk
        have := (hT.par k h1.1 (by omega)).2
        omega
      refine ⟨(hm x).2 (.inl rfl), fun k hk => ?_, fun k hk hne => ?_, ?_, fun j hj j' hj' he => ?_, fun k hk h' => ?_⟩
      · rcases (hm k).1 hk with rfl | hk
        · omega
        · have := hw.le k hk; omega
      · rcases (hm k).1 hk with e | hk
        · exact (hne e).elim
        · by_cases e : k = par p x
          · exact ⟨x, (hm x).2 (.inl rfl), e.symm⟩
          · obtain ⟨j, hj, hj2⟩ := hw.below k hk e
            exact ⟨j, (hm j).2 (.inr hj), hj2⟩
      · obtain ⟨j, hj, hj2⟩ := hw.top
        exact ⟨j, (hm j).2 (.inr hj), hj2⟩
      · rcases (hm j).1 hj with rfl | hj
        · rcases (hm j').1 hj' with rfl | hj'
          · rfl
          · have := hlt j' hj'; omega
        · rcases (hm j').1 hj' with rfl | hj'
          · have := hlt j hj; omega
          · exact hw.one j hj j' hj' he
      · rcases (hm k).1 hk with rfl | hk
        · exact (hm _).2 (.inr hw.self)
        · exact (hm _).2 (.inr (hw.up k hk h'))

theorem out_way {p q : List Int} {b : List Bool} (hG : Good p q b) {x : Int} (h0 : 0 ≤ x) (hx : x < p.length) (hb : ∀ k : Int, 0 ≤ k → k < p.length → (b.getD k.toNat false = true ↔ k ∈ path p x)) :
    ∀ (n : Nat) (a : Int), (p.length : Int) - a ≤ n → -1 ≤ a → a < p.length → (a ∉ path p x → a ≠ -1 → out p q b a = -1) ∧ (a ∈ path p x ∨ a = -1 → out p q b a = x)
  | 0, a, h, _, h2 => by omega
  | n + 1, a, h, h1, h2 => by
    have hT := tree_of hG
    have hw := way hT x.toNat x rfl h0 hx
    have ih : ∀ k ∈ kids p a, (k ∉ path p x → out p q b k = -1) ∧ (k ∈ path p x → out p q b k = x) := fun k hk => by
      have h3 := kids_mem hG hk
      have h4 := out_way hG h0 hx hb n k (by omega) (by omega) h3.2.1
      exact ⟨fun h => h4.1 h (by omega), fun h => h4.2 (.inl h)⟩
    have e := out_eq hG h1 h2
    have none : (∀ k ∈ kids p a, k ∉ path p x) → con p q b a = [] := fun h => con_nil.2 fun k hk => (ih k hk).1 (h k hk)
    have kp : ∀ k ∈ kids p a, par p k = a := fun k hk => (kids_mem hG hk).2.2.2
    have one : ∀ j ∈ path p x, par p j = a → out p q b a = x := by
      intro j hj hja
      have hjr := hw.le j hj
      have hjk : j ∈ kids p a := kids_of hjr.1 (by omega) hja
      have hc : con p q b a = [j] := by
        rw [con_filter]
        refine filter_one (kidsFrom_nodup p 0) hjk fun k hk => ?_
        have hother : k ≠ j → out p q b k = -1 := fun hne => (ih k hk).1 fun hkp => hne (hw.one k hkp j hj (by rw [kp k hk, hja]))
        constructor
        · intro hbk
          by_cases he : k = j
          · exact he
          · exact ((best_iff.1 hbk).1 (hother he)).elim
        · rintro rfl
          refine best_iff.2 ⟨by rw [(ih k hk).2 hj]; omega, fun i hi hwi => ?_⟩
          by_cases he : i = k
          · subst he; exact Int.le_refl _
          · exact (hwi ((ih i hi).1 fun hip => he (hw.one i hip k hj (by rw [kp i hi, hja])))).elim
      rw [e, hc]
      exact (ih j hjk).2 hj
    constructor
    · intro hna hne
      rw [none fun k hk hkp => hna (by have := hw.up k hkp (by rw [kp k hk]; omega); rwa [kp k hk] at this)] at e
      rw [e]
      have : b.getD a.toNat false = false := by
        cases hb' : b.getD a.toNat false with
        | false => rfl
        | true => exact (hna ((hb a (by omega) h2).1 hb')).elim
      show (bif decide (a ≥ 0) && b.getD a.toNat false then a else -1) = -1
      rw [this, Bool.and_false]
      rfl
    · rintro (ha | rfl)
      · by_cases hax : a = x
        · subst hax
          rw [none fun k hk hkp => by have := hw.le k hkp; have := kids_mem hG hk; omega] at e
          rw [e]
          have : b.getD a.toNat false = true := (hb a h0 hx).2 ha
          show (bif decide (a ≥ 0) && b.getD a.toNat false then a else -1) = a
          rw [this, decide_eq_true h0]
          rfl
        · obtain ⟨j, hj, hja⟩ := hw.below a ha hax
          exact one j hj hja
      · obtain ⟨j, hj, hja⟩ := hw.top
        exact one j hj hja
end Go.Lift.L14
