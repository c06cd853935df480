/- A part of the proof that the law returns true for every input: no condition. -/
import Derived.Test.YtcaeapfbmhmmkaaA7
set_option maxRecDepth 100000
set_option linter.unusedVariables false
set_option linter.unusedSimpArgs false
namespace Go.Lift.L14
open Go.Lift Go.Proofs

/-! contenders -/
theorem contend_cons (oc : Int → Int) (q : List Int) (k : Int) (r o : List Int) : contend oc q (k :: r) o =
    bif decide (oc k = -1) then contend oc q r o
    else bif decide ((o.length : Int) > 0) && decide (at' q k > at' q (o.getD 0 0)) then
      (bif decide (((([] : List Int)).length : Int) = 0) || decide (at' q k = at' q (([] : List Int).getD 0 0)) then contend oc q r ([] ++ [k]) else contend oc q r [])
    else (bif decide ((o.length : Int) = 0) || decide (at' q k = at' q (o.getD 0 0)) then contend oc q r (o ++ [k]) else contend oc q r o) := by
  simp only [contend]
  cases decide ((o.length : Int) > 0) && decide (at' q k > at' q (o.getD 0 0)) <;> rfl

theorem band_bif {a b : Bool} : (bif a then b else false) = (a && b) := by cases a <;> rfl

theorem drop_at {l : List Int} {i : Nat} (h : i < l.length) : l.drop i = l.getD i 0 :: l.drop (i + 1) := by
  rw [List.drop_eq_getElem_cons h]
  simp [List.getD, h]

theorem getD_mem {l : List Int} {i : Nat} (h : i < l.length) : l.getD i 0 ∈ l := by
  have : l.getD i 0 = l[i] := by simp [List.getD, h]
  rw [this]; exact List.getElem_mem h

theorem inR_of {p : List Int} {a : Int} {n : Nat} (h1 : -1 ≤ a) (h2 : a < p.length) (h3 : (p.length : Int) - a ≤ n) : inR p a n = true := by simp [inR, h1, h2, h3]
theorem inR_spec {p : List Int} {a : Int} {n : Nat} (h : inR p a n = true) : -1 ≤ a ∧ a < p.length ∧ (p.length : Int) - a ≤ n := by simpa [inR, and_assoc] using h

theorem gX13 {G : Tbl} {p q : List Int} {b : List Bool} {l : List Int} {i : Nat} {k : Int} (hil : i < l.length) (hl8 : l.length ≤ 100) (hk : 0 ≤ k ∧ k < q.length) {o : List Int} (ho : InR q o) (hoi : o.length ≤ i)
    (ih : ∀ o2 : List Int, InR q o2 → o2.length ≤ i + 1 → Goes G T Try.f13.ntmps Try.f13.results.toList (.loop L13.body L13.kont (S13 p q b l ((i + 1 : Nat) : Int) o2)) (.own (.int .i64) (contend (out p q b) q (l.drop (i + 1)) o2))) :
    Goes G T Try.f13.ntmps Try.f13.results.toList (X13 p q b l i k o) (.own (.int .i64) (bif decide ((o.length : Int) = 0) || decide (at' q k = at' q (o.getD 0 0)) then contend (out p q b) q (l.drop (i + 1)) (o ++ [k]) else contend (out p q b) q (l.drop (i + 1)) o)) := by
  unfold X13
  rw [inB_of hk.1 hk.2, Bool.true_or, cond_true, ck1 o _ (ckA o), cond_true, ck2 ho _ (ckA o), cond_true, bor_bif, lenOK_le (by simp [lenBound]; omega), wrapS hil (by simp [lenBound]; omega)]
  refine .bif (fun h => ?_) (fun h => ?_)
  · have h' : (decide ((o.length : Int) = 0) || decide (at' q k = at' q (o.getD 0 0))) = true := h
    rw [h']
    refine ih (o ++ [k]) (fun x hx => ?_) (by simp; omega)
    simp only [List.mem_append, List.mem_singleton] at hx
    rcases hx with hx | rfl
    · exact ho x hx
    · exact hk
  · have h' : (decide ((o.length : Int) = 0) || decide (at' q k = at' q (o.getD 0 0))) = false := h
    rw [h']
    exact ih o ho (by omega)

theorem g13 (G : Tbl) (n : Nat) {p q : List Int} {b : List Bool} (hg : good p q b = true) (l : List Int) (hl : ∀ x ∈ l, 0 ≤ x ∧ x < p.length ∧ (p.length : Int) - x ≤ n) (hl8 : l.length ≤ 100) : ∀ (m i : Nat) (o : List Int), l.length - i = m → i ≤ l.length → InR q o → o.length ≤ i →
    Goes (G13 G n) T Try.f13.ntmps Try.f13.results.toList (.loop L13.body L13.kont (S13 p q b l i o)) (.own (.int .i64) (contend (out p q b) q (l.drop i) o))
  | m, i, o, hm, hi, ho, hoi => by
    have hq := (good_spec hg).q
    refine Goes.lp 100 (fun _ => [2,5,11,12,13]) (.of_eq (i13 G n p q b l i o) ?_)
    refine .bif (fun h => ?_) (fun h => ?_)
    · have hlt : i < l.length := by simpa using h
      have hk := hl _ (getD_mem hlt)
      have ih := fun o2 h1 h2 => g13 G n hg l hl hl8 (m - 1) (i + 1) o2 (by omega) (by omega) h1 h2
      have hkq : 0 ≤ l.getD i 0 ∧ l.getD i 0 < q.length := ⟨hk.1, by rw [hq]; exact hk.2.1⟩
      rw [inB_nat hlt, cond_true, Int.toNat_natCast, hg, inR_of (by omega) hk.2.1 hk.2.2, Bool.true_and, cond_true, drop_at hlt, contend_cons]
      refine .bif (fun h => ?_) (fun h => ?_)
      · rw [h, cond_true, wrapS hlt (by simp [lenBound]; omega)]
        exact ih o ho (by omega)
      · rw [h, cond_false, inB_of hkq.1 hkq.2, Bool.true_or, cond_true, ck1 o _ (ckB o), cond_true, ck2 ho _ (ckB o), cond_true, band_bif]
        refine .bif (fun h => ?_) (fun h => ?_)
        · have h' : (decide ((o.length : Int) > 0) && decide (at' q (l.getD i 0) > at' q (o.getD 0 0))) = true := h
          rw [h', cond_true]
          exact gX13 hlt hl8 hkq (fun x hx => by simp at hx) (Nat.zero_le _) ih
        · have h' : (decide ((o.length : Int) > 0) && decide (at' q (l.getD i 0) > at' q (o.getD 0 0))) = false := h
          rw [h', cond_false]
          exact gX13 hlt hl8 hkq ho hoi ih
    · have hge : l.length ≤ i := by simpa using h
      rw [List.drop_eq_nil_of_le hge]
      exact .ret _
  termination_by m => m

theorem kids_length (p : List Int) (a : Int) : (kids p a).length ≤ p.length := kidsFrom_length a p 0

theorem tds_tr {p q : List Int} {b : List Bool} {u : Unit} : (⟨.cons (.slice (.int .i64)) (.cons (.slice (.int .i64)) (.cons (.slice .bool) .nil)), (p, q, b, u)⟩ : TD) = TR p q b := rfl

theorem env13 {G : Tbl} {n : Nat} (hE : Env Try.prog T (G13 G n)) : Env Try.prog T ((G13 G n).add 13 (Fcon (n + 1))) := by
  refine hE.fun' (fn := Try.f13) (by kernel_rfl) (by kernel_rfl) (by kernel_rfl) fun tds r h => ?_
  unfold Fcon at h
  split at h
  · rename_i p q b a
    simp only [Option.some.injEq, Prod.mk.injEq, Bool.and_eq_true] at h
    obtain ⟨⟨hg, ha⟩, rfl⟩ := h
    obtain ⟨h1, h2, h3⟩ := inR_spec ha
    have hG := good_spec hg
    have := hG.le
    refine ⟨Nat.le_of_ble_eq_true (by kernel_rfl), .more 100 (fun _ => [2,5,11,12,13]) _ _ _ (.of_eq (e13 G n p q b a) ?_)⟩
    rw [lenOK_le (by simp [lenBound]; omega), cond_true]
    exact g13 G n hg (kids p a) (fun x hx => by have := kids_mem hG hx; exact ⟨this.1, this.2.1, by omega⟩) (by have := kids_length p a; omega) _ 0 [] rfl (Nat.zero_le _) (fun x hx => by simp at hx) (Nat.zero_le _)
  · simp at h

theorem con_one {l : List Int} (h : ((l.length : Int) > 1) = False) (h1 : ((l.length : Int) = 1) = False) : l = [] := by
  match l, h, h1 with
  | [], _, _ => rfl
  | [x], _, h1 => simp at h1
  | x :: y :: r, h, _ => simp at h; omega

theorem env15 {G : Tbl} {n : Nat} (hE : Env Try.prog T ((G13 G n).add 13 (Fcon (n + 1)))) : Env Try.prog T (((G13 G n).add 13 (Fcon (n + 1))).add 15 (Fout (n + 1))) := by
  refine hE.fun' (fn := Try.f15) (by kernel_rfl) (by kernel_rfl) (by kernel_rfl) fun tds r h => ?_
  unfold Fout at h
  split at h
  · rename_i p q b a
    simp only [Option.some.injEq, Prod.mk.injEq, Bool.and_eq_true] at h
    obtain ⟨⟨hg, ha⟩, rfl⟩ := h
    obtain ⟨h1, h2, h3⟩ := inR_spec ha
    have hG := good_spec hg
    refine ⟨Nat.le_of_ble_eq_true (by kernel_rfl), .more 100 (fun _ => []) _ _ _ (.of_eq (e15 G n p q b a) ?_)⟩
    rw [hg, ha, Bool.true_and, cond_true, out_eq hG h1 h2]
    have hm : ∀ x ∈ con p q b a, x ∈ kids p a := fun x hx => (con_mem hx).1
    match hc : con p q b a, hm with
    | [], _ =>
      have : (inB a b.length || !decide (a ≥ 0)) = true := by
        rcases Int.lt_or_le a 0 with h | h
        · simp; right; exact h
        · rw [inB_of h (by rw [hG.b]; exact h2)]; rfl
      simp only [List.length_nil]
      rw [this, cond_true, band_bif]
      refine .bif (fun h => ?_) (fun h => ?_)
      · simp at h
      · refine .bif (fun h => ?_) (fun _ => ?_)
        · simp at h
        · cases decide (a ≥ 0) && b.getD a.toNat false <;> exact .ret _
    | [k], hm =>
      have hk := kids_mem hG (hm k (by simp))
      have : inR p k n = true := inR_of (by omega) hk.2.1 (by omega)
      have e1 : decide ((([k] : List Int).length : Int) > 1) = false := by simp
      have e2 : decide ((([k] : List Int).length : Int) = 1) = true := by simp
      have e3 : inB 0 ([k] : List Int).length = true := by simp [inB]
      rw [e1, cond_false, e2, cond_true, e3, cond_true, show ([k] : List Int).getD 0 0 = k from rfl, this, Bool.true_and, cond_true]
      exact .ret _
    | x :: y :: r, _ =>
      have e1 : decide (((x :: y :: r : List Int).length : Int) > 1) = true := by simp; omega
      rw [e1, cond_true]
      exact .ret _
  · simp at h

theorem G13_succ (G : Tbl) (n : Nat) (f : Nat) (tds : List TD) : G13 G (n + 1) f tds = (((G13 G n).add 13 (Fcon (n + 1))).add 15 (Fout (n + 1))) f tds := by
  unfold G13 Tbl.add
  cases h15 : Nat.beq f 15 with
  | true =>
    have := Nat.eq_of_beq_eq_true h15; subst this; rfl
  | false =>
    cases h13 : Nat.beq f 13 <;> cases h18 : Nat.beq f 18 <;> rfl

theorem Fcon_zero (tds : List TD) (r : SV) : Fcon 0 tds ≠ some (true, r) := by
  unfold Fcon
  split
  · intro h
    simp only [Option.some.injEq, Prod.mk.injEq, Bool.and_eq_true] at h
    have := inR_spec h.1.2
    omega
  · simp
theorem Fout_zero (tds : List TD) (r : SV) : Fout 0 tds ≠ some (true, r) := by
  unfold Fout
  split
  · intro h
    simp only [Option.some.injEq, Prod.mk.injEq, Bool.and_eq_true] at h
    have := inR_spec h.1.2
    omega
  · simp

theorem envTree {G : Tbl} (hE : Env Try.prog T G) : ∀ n, Env Try.prog T (G13 G n)
  | 0 => ((env18 hE).fun' (fn := Try.f15) (by kernel_rfl) (by kernel_rfl) (by kernel_rfl) fun tds r h => (Fout_zero tds r h).elim).fun' (fn := Try.f13) (by kernel_rfl) (by kernel_rfl) (by kernel_rfl) fun tds r h => (Fcon_zero tds r h).elim
  | n + 1 => (env15 (env13 (envTree hE n))).congr (G13_succ G n)

end Go.Lift.L14
