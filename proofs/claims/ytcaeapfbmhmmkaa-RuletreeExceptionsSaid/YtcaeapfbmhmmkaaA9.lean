/- A part of the proof that the law returns true for every input: no condition. -/
import Derived.Test.YtcaeapfbmhmmkaaA8
set_option maxRecDepth 100000
set_option linter.unusedVariables false
set_option linter.unusedSimpArgs false
namespace Go.Lift.L14
open Go.Lift Go.Proofs

/-! the reference: best -/
theorem gX14 {G : Tbl} {p q : List Int} {b : List Bool} {l : List Int} {i : Nat} {k : Int} (hil : i < l.length) (hl8 : l.length ≤ 100) (hk : 0 ≤ k ∧ k < q.length) {o : List Int} (ho : InR q o) (hoi : o.length ≤ i)
    (ih : ∀ o2 : List Int, InR q o2 → o2.length ≤ i + 1 → Goes G T Try.f14.ntmps Try.f14.results.toList (.loop L14.body L14.kont (S14 p q b l ((i + 1 : Nat) : Int) o2)) (.own (.int .i64) (contend (out p q b) q (l.drop (i + 1)) o2))) :
    Goes G T Try.f14.ntmps Try.f14.results.toList (X14 p q b l i k o) (.own (.int .i64) (bif decide ((o.length : Int) = 0) || decide (at' q k = at' q (o.getD 0 0)) then contend (out p q b) q (l.drop (i + 1)) (o ++ [k]) else contend (out p q b) q (l.drop (i + 1)) o)) := by
  unfold X14
  rw [inB_nat hil, Bool.true_or, cond_true, inB_of hk.1 hk.2, Bool.true_or, cond_true, ck1 o _ (ckA o), cond_true, ck2 ho _ (ckA o), cond_true, bor_bif, cond_true, lenOK_le (by simp [lenBound]; omega), wrapS hil (by simp [lenBound]; omega)]
  refine .bif (fun h => ?_) (fun h => ?_)
  · have h' : (decide ((o.length : Int) = 0) || decide (at' q k = at' q (o.getD 0 0))) = true := h
    rw [h']
    refine ih (o ++ [k]) (fun x hx => ?_) (by simp; omega)
    simp only [List.mem_append, List.mem_singleton] at hx
    rcases hx with hx | rfl
    · exact ho x hx
    · exact hk
  · have h' : (decide ((o.length : Int) = 0) || decide (at' q k = at' q (o.getD 0 0))) = false := h
    rw [h']
    exact ih o ho (by omega)

theorem g14 (G : Tbl) (n : Nat) {p q : List Int} {b : List Bool} (hg : good p q b = true) (l : List Int) (hl : ∀ x ∈ l, 0 ≤ x ∧ x < p.length ∧ (p.length : Int) - x ≤ n) (hl8 : l.length ≤ 100) : ∀ (m i : Nat) (o : List Int), l.length - i = m → i ≤ l.length → InR q o → o.length ≤ i →
    Goes (G14 G n) T Try.f14.ntmps Try.f14.results.toList (.loop L14.body L14.kont (S14 p q b l i o)) (.own (.int .i64) (contend (out p q b) q (l.drop i) o))
  | m, i, o, hm, hi, ho, hoi => by
    have hq := (good_spec hg).q
    refine Goes.lp 100 (fun _ => [0,1,2,9,10,11]) (.of_eq (i14 G n p q b l i o) ?_)
    refine .bif (fun h => ?_) (fun h => ?_)
    · have hlt : i < l.length := by simpa using h
      have hk := hl _ (getD_mem hlt)
      have ih := fun o2 h1 h2 => g14 G n hg l hl hl8 (m - 1) (i + 1) o2 (by omega) (by omega) h1 h2
      have hkq : 0 ≤ l.getD i 0 ∧ l.getD i 0 < q.length := ⟨hk.1, by rw [hq]; exact hk.2.1⟩
      rw [inB_nat hlt, cond_true, Int.toNat_natCast, hg, inR_of (by omega) hk.2.1 hk.2.2, Bool.true_and, Bool.true_and, decide_eq_true hk.1, cond_true, drop_at hlt, contend_cons]
      refine .bif (fun h => ?_) (fun h => ?_)
      · rw [h, cond_true, wrapS hlt (by simp [lenBound]; omega)]
        exact ih o ho (by omega)
      · rw [h, cond_false, Bool.true_or, cond_true, inB_of hkq.1 hkq.2, Bool.true_or, cond_true, ck1 o _ (ckB o), cond_true, ck2 ho _ (ckB o), cond_true, band_bif]
        refine .bif (fun h => ?_) (fun h => ?_)
        · have h' : (decide ((o.length : Int) > 0) && decide (at' q (l.getD i 0) > at' q (o.getD 0 0))) = true := h
          rw [h', cond_true]
          exact gX14 hlt hl8 hkq (fun x hx => by simp at hx) (Nat.zero_le _) ih
        · have h' : (decide ((o.length : Int) > 0) && decide (at' q (l.getD i 0) > at' q (o.getD 0 0))) = false := h
          rw [h', cond_false]
          exact gX14 hlt hl8 hkq ho hoi ih
    · have hge : l.length ≤ i := by simpa using h
      rw [List.drop_eq_nil_of_le hge]
      exact .ret _
  termination_by m => m

theorem env14 {G : Tbl} {n : Nat} (hE : Env Try.prog T (G14 G n)) : Env Try.prog T ((G14 G n).add 14 (Fbest (n + 1))) := by
  refine hE.fun' (fn := Try.f14) (by kernel_rfl) (by kernel_rfl) (by kernel_rfl) fun tds r h => ?_
  unfold Fbest at h
  split at h
  · rename_i p q b a
    simp only [Option.some.injEq, Prod.mk.injEq, Bool.and_eq_true] at h
    obtain ⟨⟨hg, ha⟩, rfl⟩ := h
    obtain ⟨h1, h2, h3⟩ := inR_spec ha
    have hG := good_spec hg
    have := hG.le
    refine ⟨Nat.le_of_ble_eq_true (by kernel_rfl), .more 100 (fun _ => [0,1,2,9,10,11]) _ _ _ (.of_eq (e14 G n p q b a) ?_)⟩
    rw [lenOK_le (by simp [lenBound]; omega), cond_true]
    exact g14 G n hg (kids p a) (fun x hx => by have := kids_mem hG hx; exact ⟨this.1, this.2.1, by omega⟩) (by have := kids_length p a; omega) _ 0 [] rfl (Nat.zero_le _) (fun x hx => by simp at hx) (Nat.zero_le _)
  · simp at h

theorem env17 {G : Tbl} {n : Nat} (hE : Env Try.prog T ((G14 G n).add 14 (Fbest (n + 1)))) : Env Try.prog T (((G14 G n).add 14 (Fbest (n + 1))).add 17 (Fchl (n + 1))) := by
  refine hE.fun' (fn := Try.f17) (by kernel_rfl) (by kernel_rfl) (by kernel_rfl) fun tds r h => ?_
  unfold Fchl at h
  split at h
  · rename_i p q b a
    simp only [Option.some.injEq, Prod.mk.injEq, Bool.and_eq_true] at h
    obtain ⟨⟨hg, ha⟩, rfl⟩ := h
    obtain ⟨h1, h2, h3⟩ := inR_spec ha
    have hG := good_spec hg
    refine ⟨Nat.le_of_ble_eq_true (by kernel_rfl), .more 100 (fun _ => []) _ _ _ (.of_eq (e17 G n p q b a) ?_)⟩
    rw [hg, ha, Bool.true_and, cond_true]
    have hm : ∀ x ∈ con p q b a, x ∈ kids p a := fun x hx => (con_mem hx).1
    unfold chl
    match hc : con p q b a, hm with
    | [], _ => exact .ret _
    | [k], hm =>
      have hk := kids_mem hG (hm k (by simp))
      have : inR p k n = true := inR_of (by omega) hk.2.1 (by omega)
      have e1 : decide ((([k] : List Int).length : Int) > 1) = false := by simp
      have e2 : decide ((([k] : List Int).length : Int) = 0) = false := by simp
      have e3 : inB 0 ([k] : List Int).length = true := by simp [inB]
      rw [e2, cond_false, e1, cond_false, e3, cond_true, show ([k] : List Int).getD 0 0 = k from rfl, this, Bool.true_and, Bool.true_and, decide_eq_true hk.1, cond_true]
      exact .ret _
    | x :: y :: r, _ =>
      have e1 : decide (((x :: y :: r : List Int).length : Int) > 1) = true := by simp; omega
      have e2 : decide (((x :: y :: r : List Int).length : Int) = 0) = false := by simp; omega
      rw [e2, cond_false, e1, cond_true]
      exact .ret _
  · simp at h

theorem env20 {G : Tbl} {n : Nat} (hE : Env Try.prog T (((G14 G n).add 14 (Fbest (n + 1))).add 17 (Fchl (n + 1)))) : Env Try.prog T ((((G14 G n).add 14 (Fbest (n + 1))).add 17 (Fchl (n + 1))).add 20 (Frout (n + 1))) := by
  refine hE.fun' (fn := Try.f20) (by kernel_rfl) (by kernel_rfl) (by kernel_rfl) fun tds r h => ?_
  unfold Frout at h
  split at h
  · rename_i p q b a
    simp only [Option.some.injEq, Prod.mk.injEq, Bool.and_eq_true, decide_eq_true_eq] at h
    obtain ⟨⟨⟨hg, ha⟩, h0⟩, rfl⟩ := h
    obtain ⟨h1, h2, h3⟩ := inR_spec ha
    have hG := good_spec hg
    refine ⟨Nat.le_of_ble_eq_true (by kernel_rfl), .more 100 (fun _ => []) _ _ _ (.of_eq (e20 G n p q b a) ?_)⟩
    rw [hg, ha, Bool.true_and, cond_true, inB_of h0 (by rw [hG.b]; exact h2), Bool.true_or, cond_true, ← chl_out hG h0 h2]
    cases (bif decide (chl p q b a = -1) then b.getD a.toNat false else false) <;> exact .ret _
  · simp at h

theorem G14_succ (G : Tbl) (n : Nat) (f : Nat) (tds : List TD) : G14 G (n + 1) f tds = ((((G14 G n).add 14 (Fbest (n + 1))).add 17 (Fchl (n + 1))).add 20 (Frout (n + 1))) f tds := by
  unfold G14 Tbl.add
  cases h20 : Nat.beq f 20 with
  | true => have := Nat.eq_of_beq_eq_true h20; subst this; rfl
  | false => cases h17 : Nat.beq f 17 <;> cases h14 : Nat.beq f 14 <;> cases h19 : Nat.beq f 19 <;> rfl

theorem Fbest_zero (tds : List TD) (r : SV) : Fbest 0 tds ≠ some (true, r) := by
  unfold Fbest
  split
  · intro h
    simp only [Option.some.injEq, Prod.mk.injEq, Bool.and_eq_true] at h
    have := inR_spec h.1.2
    omega
  · simp
theorem Fchl_zero (tds : List TD) (r : SV) : Fchl 0 tds ≠ some (true, r) := by
  unfold Fchl
  split
  · intro h
    simp only [Option.some.injEq, Prod.mk.injEq, Bool.and_eq_true] at h
    have := inR_spec h.1.2
    omega
  · simp
theorem Frout_zero (tds : List TD) (r : SV) : Frout 0 tds ≠ some (true, r) := by
  unfold Frout
  split
  · intro h
    simp only [Option.some.injEq, Prod.mk.injEq, Bool.and_eq_true] at h
    have := inR_spec h.1.1.2
    omega
  · simp

theorem envRef {G : Tbl} (hE : Env Try.prog T G) : ∀ n, Env Try.prog T (G14 G n)
  | 0 => (((env19 hE).fun' (fn := Try.f20) (by kernel_rfl) (by kernel_rfl) (by kernel_rfl) fun tds r h => (Frout_zero tds r h).elim).fun' (fn := Try.f14) (by kernel_rfl) (by kernel_rfl) (by kernel_rfl) fun tds r h => (Fbest_zero tds r h).elim).fun' (fn := Try.f17) (by kernel_rfl) (by kernel_rfl) (by kernel_rfl) fun tds r h => (Fchl_zero tds r h).elim
  | n + 1 => (env20 (env17 (env14 (envRef hE n)))).congr (G14_succ G n)

/-! Select -/
theorem good_of {p q : List Int} {b : List Bool} (h : (bif !(valid p q == 0) then true else !((b.length : Int) == (p.length : Int))) = false) : good p q b = true := by
  unfold good
  cases hv : decide (valid p q = 0) with
  | false => simp at hv; simp [hv] at h
  | true =>
    simp at hv
    simp [hv] at h
    simp; omega
theorem good_not {p q : List Int} {b : List Bool} (h : (bif !(valid p q == 0) then true else !((b.length : Int) == (p.length : Int))) = true) : good p q b = false := by
  unfold good
  cases hv : decide (valid p q = 0) with
  | false => rfl
  | true =>
    simp at hv
    simp [hv] at h
    simp; omega

theorem top_in {p q : List Int} {b : List Bool} (hG : Good p q b) : inR p (-1) 10 = true := inR_of (by omega) (by omega) (by have := hG.le; omega)

theorem env9 {G : Tbl} (hE : Env Try.prog T ((G13 G 10).add 11 Fvalid)) : Env Try.prog T (((G13 G 10).add 11 Fvalid).add 9 Fsel) := by
  refine hE.fun' (fn := Try.f9) (by kernel_rfl) (by kernel_rfl) (by kernel_rfl) fun tds r h => ?_
  unfold Fsel at h
  split at h
  · rename_i p q b
    simp only [Option.some.injEq, Prod.mk.injEq, true_and] at h
    subst h
    refine ⟨Nat.le_of_ble_eq_true (by kernel_rfl), .more 100 (fun _ => []) _ _ _ (.of_eq (e9 G p q b) ?_)⟩
    unfold sel
    refine .bif (fun h => ?_) (fun h => ?_)
    · rw [good_not h]; exact .ret _
    · have hg := good_of h
      rw [hg, top_in (good_spec hg)]; exact .ret _
  · simp at h

theorem env10 {G : Tbl} (hE : Env Try.prog T ((G14 G 10).add 16 Fvalid)) : Env Try.prog T (((G14 G 10).add 16 Fvalid).add 10 Fsel) := by
  refine hE.fun' (fn := Try.f10) (by kernel_rfl) (by kernel_rfl) (by kernel_rfl) fun tds r h => ?_
  unfold Fsel at h
  split at h
  · rename_i p q b
    simp only [Option.some.injEq, Prod.mk.injEq, true_and] at h
    subst h
    refine ⟨Nat.le_of_ble_eq_true (by kernel_rfl), .more 100 (fun _ => []) _ _ _ (.of_eq (e10 G p q b) ?_)⟩
    unfold sel
    refine .bif (fun h => ?_) (fun h => ?_)
    · rw [good_not h]; exact .ret _
    · have hg := good_of h
      rw [hg, top_in (good_spec hg), ← chl_top (good_spec hg)]; exact .ret _
  · simp at h

/-! FindConflict -/
def fcF (p q : List Int) (b : List Bool) : Nat → List Int → SV
  | _, [] => rConf 0 0 false
  | 0, [_] => rConf 0 0 false
  | n + 1, [k] => fcF p q b n (con p q b k)
  | _, x :: y :: _ => rConf x y true
def fc (p q : List Int) (b : List Bool) : SV := bif !(sel p q b == -2) then rConf 0 0 false else fcF p q b 9 (con p q b (-1))
/-- what FindConflict returns, taken apart -/
def fcX (p q : List Int) (b : List Bool) : Nat → List Int → Int × Int × Bool
  | _, [] => (0, 0, false)
  | 0, [_] => (0, 0, false)
  | n + 1, [k] => fcX p q b n (con p q b k)
  | _, x :: y :: _ => (x, y, true)
theorem fcF_X (p q : List Int) (b : List Bool) : ∀ (n : Nat) (l : List Int), fcF p q b n l = rConf (fcX p q b n l).1 (fcX p q b n l).2.1 (fcX p q b n l).2.2
  | 0, [] => rfl
  | _ + 1, [] => rfl
  | 0, [_] => rfl
  | n + 1, [k] => fcF_X p q b n (con p q b k)
  | 0, x :: y :: _ => rfl
  | _ + 1, x :: y :: _ => rfl
def fcT (p q : List Int) (b : List Bool) : Int × Int × Bool := bif !(sel p q b == -2) then (0, 0, false) else fcX p q b 9 (con p q b (-1))
theorem fc_T (p q : List Int) (b : List Bool) : fc p q b = rConf (fcT p q b).1 (fcT p q b).2.1 (fcT p q b).2.2 := by
  unfold fc fcT
  cases !(sel p q b == -2)
  · exact fcF_X p q b 9 _
  · rfl
def Ffc : List TD → Option (Bool × SV)
  | [⟨.slice (.int .i64), p⟩, ⟨.slice (.int .i64), q⟩, ⟨.slice .bool, b⟩] => some (true, rConf (fcT p q b).1 (fcT p q b).2.1 (fcT p q b).2.2)
  | _ => none

theorem g7 (G : Tbl) {p q : List Int} {b : List Bool} (hg : good p q b = true) : ∀ (n : Nat) (l : List Int), (∀ x ∈ l, 0 ≤ x ∧ x < p.length ∧ (p.length : Int) - x ≤ n) →
    Goes (((G13 G 10).add 11 Fvalid).add 9 Fsel) T Try.f7.ntmps Try.f7.results.toList (.loop L7.body L7.kont (S7 p q b l)) (fcF p q b n l)
  | n, [], hl => by
    refine Goes.lp 100 (fun _ => [9,10]) (.of_eq (i7 G p q b []) ?_)
    cases n <;> exact .ret _
  | 0, [k], hl => by have := hl k (by simp); omega
  | n + 1, [k], hl => by
    have hG := good_spec hg
    have hk := hl k (by simp)
    have := hG.le
    refine Goes.lp 100 (fun _ => [9,10]) (.of_eq (i7 G p q b [k]) ?_)
    have e2 : decide ((([k] : List Int).length : Int) = 1) = true := by simp
    have e3 : inB 0 ([k] : List Int).length = true := by simp [inB]
    rw [e2, cond_true, e3, cond_true, show ([k] : List Int).getD 0 0 = k from rfl, hg, inR_of (by omega) hk.2.1 (by omega), Bool.true_and, cond_true]
    exact g7 G hg n _ fun x hx => by have := kids_mem hG (con_mem hx).1; exact ⟨this.1, this.2.1, by omega⟩
  | n, x :: y :: r, hl => by
    refine Goes.lp 100 (fun _ => [9,10]) (.of_eq (i7 G p q b (x :: y :: r)) ?_)
    have e1 : decide (((x :: y :: r : List Int).length : Int) = 1) = false := by simp; omega
    have e2 : decide (((x :: y :: r : List Int).length : Int) < 2) = false := by simp; omega
    have e3 : inB 0 (x :: y :: r : List Int).length = true := by simp [inB]; omega
    have e4 : inB 1 (x :: y :: r : List Int).length = true := by simp [inB]; omega
    rw [e1, cond_false, e2, cond_false, e3, cond_true, e4, cond_true]
    cases n <;> exact .ret _

theorem sel_good {p q : List Int} {b : List Bool} (h : (!(sel p q b == -2)) = false) : good p q b = true ∧ out p q b (-1) = -2 := by
  unfold sel at h
  cases hg : good p q b with
  | false => rw [hg] at h; simp at h
  | true => rw [hg] at h; simpa using h

theorem env7 {G : Tbl} (hE : Env Try.prog T (((G13 G 10).add 11 Fvalid).add 9 Fsel)) : Env Try.prog T ((((G13 G 10).add 11 Fvalid).add 9 Fsel).add 7 Ffc) := by
  refine hE.fun' (fn := Try.f7) (by kernel_rfl) (by kernel_rfl) (by kernel_rfl) fun tds r h => ?_
  unfold Ffc at h
  split at h
  · rename_i p q b
    simp only [Option.some.injEq, Prod.mk.injEq, true_and] at h
    subst h
    refine ⟨Nat.le_of_ble_eq_true (by kernel_rfl), .more 100 (fun _ => [9,10]) _ _ _ (.of_eq (e7 G p q b) ?_)⟩
    rw [← fc_T]
    unfold fc
    refine .bif (fun h => ?_) (fun h => ?_)
    · rw [h]; exact .ret _
    · have hg := (sel_good h).1
      have hG := good_spec hg
      have := hG.le
      rw [h, hg, top_in hG, cond_false]
      exact g7 G hg 9 _ fun x hx => by have := kids_mem hG (con_mem hx).1; exact ⟨this.1, this.2.1, by omega⟩
  · simp at h

theorem g8 (G : Tbl) {p q : List Int} {b : List Bool} (hg : good p q b = true) : ∀ (n : Nat) (a : Int), -1 ≤ a → a < p.length → (p.length : Int) - a ≤ n + 1 → out p q b a = -2 →
    Goes (((G14 G 10).add 16 Fvalid).add 10 Fsel) T Try.f8.ntmps Try.f8.results.toList (.loop L8.body L8.kont (S8 p q b a)) (fcF p q b n (con p q b a))
  | n, a, h1, h2, h3, ho => by
    have hG := good_spec hg
    have := hG.le
    refine Goes.lp 100 (fun _ => [0,1,2,9]) (.of_eq (i8 G p q b a) ?_)
    rw [hg, inR_of h1 h2 (by omega), Bool.true_and, cond_true]
    rw [out_eq hG h1 h2] at ho
    have hm : ∀ x ∈ con p q b a, x ∈ kids p a := fun x hx => (con_mem hx).1
    match hc : con p q b a, hm with
    | [], _ =>
      rw [hc] at ho
      simp only at ho
      cases hb : decide (a ≥ 0) && b.getD a.toNat false with
      | true => rw [hb] at ho; simp at ho hb; omega
      | false => rw [hb] at ho; simp at ho
    | [k], hm =>
      have hk := kids_mem hG (hm k (by simp))
      rw [hc] at ho
      have e1 : decide ((([k] : List Int).length : Int) > 1) = false := by simp
      have e3 : inB 0 ([k] : List Int).length = true := by simp [inB]
      rw [e1, cond_false, e3, cond_true, show ([k] : List Int).getD 0 0 = k from rfl]
      cases n with
      | zero => omega
      | succ n => exact g8 G hg n k (by omega) hk.2.1 (by omega) ho
    | x :: y :: r, _ =>
      have e1 : decide (((x :: y :: r : List Int).length : Int) > 1) = true := by simp; omega
      have e3 : inB 0 (x :: y :: r : List Int).length = true := by simp [inB]; omega
      have e4 : inB 1 (x :: y :: r : List Int).length = true := by simp [inB]; omega
      rw [e1, cond_true, e3, cond_true, e4, cond_true]
      cases n <;> exact .ret _

theorem env8 {G : Tbl} (hE : Env Try.prog T (((G14 G 10).add 16 Fvalid).add 10 Fsel)) : Env Try.prog T ((((G14 G 10).add 16 Fvalid).add 10 Fsel).add 8 Ffc) := by
  refine hE.fun' (fn := Try.f8) (by kernel_rfl) (by kernel_rfl) (by kernel_rfl) fun tds r h => ?_
  unfold Ffc at h
  split at h
  · rename_i p q b
    simp only [Option.some.injEq, Prod.mk.injEq, true_and] at h
    subst h
    refine ⟨Nat.le_of_ble_eq_true (by kernel_rfl), .more 100 (fun _ => [0,1,2,9]) _ _ _ (.of_eq (e8 G p q b) ?_)⟩
    rw [← fc_T]
    unfold fc
    refine .bif (fun h => ?_) (fun h => ?_)
    · rw [h]; exact .ret _
    · obtain ⟨hg, ho⟩ := sel_good h
      have hG := good_spec hg
      have := hG.le
      rw [h, cond_false]
      exact g8 G hg 9 (-1) (by omega) (by omega) (by omega) ho
  · simp at h
end Go.Lift.L14
