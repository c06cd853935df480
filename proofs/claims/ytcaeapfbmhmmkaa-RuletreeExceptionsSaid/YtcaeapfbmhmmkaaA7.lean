/- A part of the proof that the law returns true for every input: no condition. -/
import Derived.Test.YtcaeapfbmhmmkaaA6
set_option maxRecDepth 100000
set_option linter.unusedVariables false
set_option linter.unusedSimpArgs false
namespace Go.Lift.L14
open Go.Lift Go.Proofs

/-! Plain facts -/
theorem validFrom_zero {p q : List Int} : ∀ (n i : Nat), validFrom p q n i = 0 → ∀ j, i ≤ j → j < i + n → -1 ≤ p.getD j 0 ∧ p.getD j 0 < j
  | 0, i, _, j, h1, h2 => by omega
  | n + 1, i, h, j, h1, h2 => by
    simp only [validFrom] at h
    cases hc : (decide (p.getD i 0 < -1) || decide (p.getD i 0 ≥ (i : Int))) with
    | true => rw [hc] at h; simp at h
    | false =>
      rw [hc] at h
      simp only [cond_false] at h
      cases hd : (decide (q.getD i 0 < 0) || decide (q.getD i 0 > 9)) with
      | true => rw [hd] at h; simp at h
      | false =>
        rw [hd] at h
        simp only [cond_false] at h
        simp only [Bool.or_eq_false_iff, decide_eq_false_iff_not] at hc
        by_cases e : j = i
        · subst e; omega
        · exact validFrom_zero n (i + 1) h j (by omega) (by omega)

structure Good (p q : List Int) (b : List Bool) : Prop where
  q : q.length = p.length
  b : b.length = p.length
  le : p.length ≤ 8
  par : ∀ j, j < p.length → -1 ≤ p.getD j 0 ∧ p.getD j 0 < j

theorem good_spec {p q : List Int} {b : List Bool} (h : good p q b = true) : Good p q b := by
  simp only [good, Bool.and_eq_true, decide_eq_true_eq] at h
  obtain ⟨h1, h2⟩ := h
  unfold valid at h1
  cases e1 : decide (p.length = q.length) with
  | false => rw [e1] at h1; simp at h1
  | true =>
    rw [e1] at h1
    simp only [Bool.not_true, cond_false] at h1
    cases e2 : decide (p.length > 8) with
    | true => rw [e2] at h1; simp at h1
    | false =>
      rw [e2] at h1
      simp only [cond_false] at h1
      simp at e1 e2
      exact ⟨e1.symm, h2, e2, fun j hj => validFrom_zero _ 0 h1 j (Nat.zero_le _) (by omega)⟩

theorem kidsFrom_mem {a : Int} : ∀ (l : List Int) (i : Nat) (x : Int), x ∈ kidsFrom a l i → ∃ j, j < l.length ∧ x = ((i + j : Nat) : Int) ∧ l.getD j 0 = a
  | [], i, x, h => by simp [kidsFrom] at h
  | y :: r, i, x, h => by
    simp only [kidsFrom] at h
    have tl : x ∈ kidsFrom a r (i + 1) → ∃ j, j < (y :: r).length ∧ x = ((i + j : Nat) : Int) ∧ (y :: r).getD j 0 = a := fun h => by
      obtain ⟨j, h1, h2, h3⟩ := kidsFrom_mem r (i + 1) x h
      exact ⟨j + 1, by simp; omega, by rw [h2]; omega, by simpa using h3⟩
    cases hc : decide (y = a) with
    | true =>
      rw [hc] at h
      simp only [cond_true, List.mem_cons] at h
      rcases h with rfl | h
      · exact ⟨0, by simp, by simp, by simpa using hc⟩
      · exact tl h
    | false => rw [hc] at h; exact tl h

theorem kids_mem {p q : List Int} {b : List Bool} (hg : Good p q b) {a x : Int} (h : x ∈ kids p a) : 0 ≤ x ∧ x < p.length ∧ a < x ∧ p.getD x.toNat 0 = a := by
  obtain ⟨j, h1, h2, h3⟩ := kidsFrom_mem p 0 x h
  have := (hg.par j h1).2
  subst h2
  refine ⟨by omega, by omega, by omega, by simpa using h3⟩

theorem contend_congr {oc oc' : Int → Int} {q : List Int} : ∀ (l o : List Int), (∀ k ∈ l, oc k = oc' k) → contend oc q l o = contend oc' q l o
  | [], _, _ => rfl
  | k :: r, o, h => by
    simp only [contend]
    rw [h k (by simp)]
    simp only [contend_congr r _ fun x hx => h x (by simp [hx])]

theorem contend_mem {oc : Int → Int} {q : List Int} : ∀ (l o : List Int) (x : Int), x ∈ contend oc q l o → x ∈ o ∨ (x ∈ l ∧ oc x ≠ -1)
  | [], _, _, h => .inl h
  | k :: r, o, x, h => by
    simp only [contend] at h
    have up : ∀ (o' : List Int), x ∈ contend oc q r o' → x ∈ o' ∨ (x ∈ k :: r ∧ oc x ≠ -1) := fun o' h => (contend_mem r o' x h).imp id fun h => ⟨by simp [h.1], h.2⟩
    cases hk : decide (oc k = -1) with
    | true => rw [hk] at h; exact up o h
    | false =>
      rw [hk] at h
      simp only [cond_false] at h
      have hk' : oc k ≠ -1 := by simpa using hk
      have fin : ∀ o', (∀ y ∈ o', y ∈ o) → (x ∈ bif decide ((o'.length : Int) = 0) || decide (at' q k = at' q (o'.getD 0 0)) then contend oc q r (o' ++ [k]) else contend oc q r o') → x ∈ o ∨ (x ∈ k :: r ∧ oc x ≠ -1) := by
        intro o' hs h
        cases hc : decide ((o'.length : Int) = 0) || decide (at' q k = at' q (o'.getD 0 0)) with
        | true =>
          rw [hc] at h
          rcases up _ h with h | h
          · simp only [List.mem_append, List.mem_singleton] at h
            rcases h with h | rfl
            · exact .inl (hs x h)
            · exact .inr ⟨by simp, hk'⟩
          · exact .inr h
        | false =>
          rw [hc] at h
          exact (up _ h).imp (hs x) id
      cases hc : decide ((o.length : Int) > 0) && decide (at' q k > at' q (o.getD 0 0)) with
      | true => rw [hc] at h; exact fin [] (fun y hy => by simp at hy) h
      | false => rw [hc] at h; exact fin o (fun y hy => hy) h

theorem outF_eq {p q : List Int} {b : List Bool} (hg : Good p q b) : ∀ (n m : Nat) (a : Int), (p.length : Int) - a ≤ n → (p.length : Int) - a ≤ m → a < p.length → outF p q b n a = outF p q b m a
  | 0, _, a, h1, _, h3 => by omega
  | n + 1, 0, a, _, h2, h3 => by omega
  | n + 1, m + 1, a, h1, h2, h3 => by
    have hk : ∀ k ∈ kids p a, outF p q b n k = outF p q b m k := fun k hk => by
      have := kids_mem hg hk
      exact outF_eq hg n m k (by omega) (by omega) (by omega)
    simp only [outF]
    rw [contend_congr (oc := outF p q b n) (oc' := outF p q b m) (kids p a) [] hk]
    split
    · rfl
    · rename_i k he
      have : k ∈ kids p a := by
        rcases contend_mem (kids p a) [] k (by rw [he]; simp) with h | h
        · simp at h
        · exact h.1
      exact hk k this
    · rfl

theorem con_mem {p q : List Int} {b : List Bool} {a x : Int} (h : x ∈ con p q b a) : x ∈ kids p a ∧ out p q b x ≠ -1 := by
  rcases contend_mem (kids p a) [] x h with h | h
  · simp at h
  · exact h

theorem outF_succ (p q : List Int) (b : List Bool) (n : Nat) (a : Int) : outF p q b (n + 1) a = match contend (outF p q b n) q (kids p a) [] with
    | [] => bif decide (a ≥ 0) && b.getD a.toNat false then a else -1
    | [k] => outF p q b n k
    | _ => -2 := rfl

theorem out_eq {p q : List Int} {b : List Bool} (hg : Good p q b) {a : Int} (h1 : -1 ≤ a) (h2 : a < p.length) :
    out p q b a = match con p q b a with
      | [] => bif decide (a ≥ 0) && b.getD a.toNat false then a else -1
      | [k] => out p q b k
      | _ => -2 := by
  have hle := hg.le
  have hk : ∀ k ∈ kids p a, outF p q b 9 k = out p q b k := fun k hk => by
    have := kids_mem hg hk
    exact outF_eq hg 9 10 k (by omega) (by omega) (by omega)
  have hcon : contend (outF p q b 9) q (kids p a) [] = con p q b a := contend_congr (kids p a) [] hk
  rw [show out p q b a = outF p q b (9 + 1) a from rfl, outF_succ, hcon]
  split
  · rfl
  · rename_i k he
    exact hk k (con_mem (by rw [he]; simp)).1
  · rfl

theorem chl_top {p q : List Int} {b : List Bool} (hg : Good p q b) : chl p q b (-1) = out p q b (-1) := by
  rw [out_eq hg (by omega) (by omega)]
  unfold chl
  match con p q b (-1) with
  | [] => simp
  | [k] => rfl
  | x :: y :: r => rfl

theorem chl_out {p q : List Int} {b : List Bool} (hg : Good p q b) {a : Int} (h1 : 0 ≤ a) (h2 : a < p.length) :
    (bif (bif decide (chl p q b a = -1) then b.getD a.toNat false else false) then a else chl p q b a) = out p q b a := by
  rw [out_eq hg (by omega) h2]
  unfold chl
  have hm : ∀ x ∈ con p q b a, out p q b x ≠ -1 := fun x hx => (con_mem hx).2
  match con p q b a, hm with
  | [], _ => simp [h1]
  | [k], hm => have := hm k (by simp); simp [this]
  | x :: y :: r, _ => rfl

/-! checks -/
def InR (q o : List Int) : Prop := ∀ x ∈ o, 0 ≤ x ∧ x < q.length
theorem inB_of {k : Int} {n : Nat} (h1 : 0 ≤ k) (h2 : k < n) : inB k n = true := by simp [inB, h1, h2]
theorem ck1 (o : List Int) (c : Bool) (h : o = [] → c = true) : (inB 0 o.length || c) = true := by
  cases o with
  | nil => simp [h rfl]
  | cons x r => simp [inB]
theorem ck2 {q o : List Int} (ho : InR q o) (c : Bool) (h : o = [] → c = true) : (inB (o.getD 0 0) q.length || c) = true := by
  cases o with
  | nil => simp [h rfl]
  | cons x r =>
    have := ho x (by simp)
    simp [inB_of this.1 this.2]
theorem ckA (o : List Int) : o = [] → (!!decide ((o.length : Int) = 0)) = true := by rintro rfl; rfl
theorem ckB (o : List Int) : o = [] → (!decide ((o.length : Int) > 0)) = true := by rintro rfl; rfl

end Go.Lift.L14
