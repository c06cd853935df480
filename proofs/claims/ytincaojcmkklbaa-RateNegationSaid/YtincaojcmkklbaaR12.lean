/- A part of the proof that the law returns true for every input: no condition. -/
import Derived.Test.YtincaojcmkklbaaR11
set_option maxRecDepth 100000
set_option linter.unusedVariables false
set_option linter.unusedSimpArgs false
namespace Go.Lift.L03
open Go.Lift Go.Proofs

theorem rdOk_nat {q r d : Nat} (hq : q ≤ 4611686018427387904) (hr : r < d) (hd : d ≤ 4611686018427387904) : rdOk (q : Int) (r : Int) (d : Int) = true := by
  unfold rdOk; simp only [Bool.and_eq_true, decide_eq_true_eq]; omega
theorem limOk_nat {q : Nat} (hq : q ≤ 4611686018427387904) : limOk (q : Int) = true := by
  unfold limOk; simp only [Bool.and_eq_true, decide_eq_true_eq]; omega
theorem u64ok_nat {q : Nat} (hq : q < 18446744073709551616) : u64ok (q : Int) = true := by
  unfold u64ok; simp only [Bool.and_eq_true, decide_eq_true_eq]; omega
theorem symOk_of {n : Int} (h : n.natAbs ≤ 9223372036854775807) : symOk n = true := by
  unfold symOk; simp only [Bool.and_eq_true, decide_eq_true_eq]; omega
theorem ne0 {d : Int} (h : d ≠ 0) : (!(d == 0)) = true := by simp [h]
/-! floor, rounded -/
def fl2 (n d : Int) : Bool := decide (-4611686018427387904 ≤ n) && decide (n ≤ 4611686018427387904) && decide (0 < d) && decide (d ≤ 4611686018427387904)
theorem fl2_spec {n d : Int} (h : fl2 n d = true) : -4611686018427387904 ≤ n ∧ n ≤ 4611686018427387904 ∧ 0 < d ∧ d ≤ 4611686018427387904 := by
  simp only [fl2, Bool.and_eq_true, decide_eq_true_eq] at h; omega
def Ffloor := FC2 (.int .i64) (.int .i64) fl2 fun n d => .tup [.tv (I (n / d)), .tv (I (n % d))]
theorem tdiv_ediv {n d : Int} (hd : 0 < d) : n.tdiv d = if n % d = 0 ∨ 0 ≤ n then n / d else n / d + 1 := by
  have := @Int.tdiv_eq_ediv n d
  rw [this]
  have hs : d.sign = 1 := Int.sign_eq_one_of_pos hd
  by_cases h : 0 ≤ n
  · simp [h]
  · by_cases h2 : d ∣ n
    · simp [h, h2, Int.emod_eq_zero_of_dvd h2]
    · have : ¬ n % d = 0 := fun e => h2 (Int.dvd_of_emod_eq_zero e)
      simp [h, h2, this, hs]
theorem floor_vals {n d : Int} (h : fl2 n d = true) : (n.tmod d < 0 → w (w (n.tdiv d) - 1) = n / d ∧ w (n.tmod d + d) = n % d) ∧ (¬ n.tmod d < 0 → w (n.tdiv d) = n / d ∧ n.tmod d = n % d) := by
  obtain ⟨h1, h2, h3, h4⟩ := fl2_spec h
  have a1 := Int.mul_tdiv_add_tmod n d
  have a2 := Int.mul_ediv_add_emod n d
  have a3 := Int.emod_nonneg n (show d ≠ 0 by omega)
  have a4 := Int.emod_lt_of_pos n h3
  have b1 : -4611686018427387904 - 1 ≤ n / d ∧ n / d ≤ 4611686018427387904 := by
    constructor
    · have : (-4611686018427387904 : Int) ≤ n / d := by
        rw [Int.le_ediv_iff_mul_le h3]
        have : (-4611686018427387904 : Int) * d ≤ -4611686018427387904 * 1 := Int.mul_le_mul_of_nonpos_left (by omega) (by omega)
        omega
      omega
    · have : n / d ≤ 4611686018427387904 := by
        apply Int.ediv_le_of_le_mul h3
        have : (4611686018427387904 : Int) * 1 ≤ 4611686018427387904 * d := Int.mul_le_mul_of_nonneg_left (by omega) (by omega)
        omega
      exact this
  have e := @tdiv_ediv n d h3
  by_cases hz : n % d = 0 ∨ 0 ≤ n
  · rw [if_pos hz] at e
    rw [e] at a1 ⊢
    have em : n.tmod d = n % d := by omega
    rw [em]
    refine ⟨fun h => by omega, fun _ => ⟨wrap_id (by omega) (by omega), rfl⟩⟩
  · rw [if_neg hz] at e
    rw [e, Int.mul_add] at a1
    have em : n.tmod d = n % d - d := by omega
    rw [em, e]
    refine ⟨fun _ => ?_, fun h => by omega⟩
    rw [show w (n / d + 1) = n / d + 1 from wrap_id (by omega) (by omega)]
    exact ⟨by rw [show n / d + 1 - 1 = n / d by omega]; exact wrap_id (by omega) (by omega), by rw [show n % d - d + d = n % d by omega]; exact wrap_id (by omega) (by omega)⟩
theorem has27 : Hs 27 Ffloor := by
  refine Has.fc2 (fn := Try.f27) env0 (by kernel_rfl) (by kernel_rfl) (by kernel_rfl) (by kernel_rfl) fun (n d : Int) h => .run0 (e27 Tbl.none n d) ?_
  obtain ⟨h1, h2, h3, h4⟩ := fl2_spec h
  have hz : (!(d == 0)) = true := ne0 (by omega)
  obtain ⟨v1, v2⟩ := floor_vals h
  rw [hz, cond_true, cond_true]
  refine .bif (fun h => ?_) (fun h => ?_)
  · obtain ⟨q1, q2⟩ := v1 (of_decide_eq_true h)
    exact .ret' (by rw [q1, q2])
  · obtain ⟨q1, q2⟩ := v2 (of_decide_eq_false h)
    exact .ret' (by rw [q1, q2])
def rd2 (f r d : Int) : Bool := decide (-4611686018427387905 ≤ f) && decide (f ≤ 4611686018427387904) && decide (0 ≤ r) && decide (r < d) && decide (d ≤ 4611686018427387904)
def Frounded := FC4 (.int .i64) (.int .i64) (.int .i64) (.int .i64) (fun f r d _ => rd2 f r d) fun f r d m => .tv (I (rndF f r d m))
theorem has28 : Hs 28 Frounded := by
  refine Has.fc4 (fn := Try.f28) env0 (by kernel_rfl) (by kernel_rfl) (by kernel_rfl) (by kernel_rfl) fun (f r d m : Int) h => .run0 (e28 Tbl.none f r d m) ?_
  simp only [rd2, Bool.and_eq_true, decide_eq_true_eq] at h
  have e1 : w (d - r) = d - r := wrap_id (by omega) (by omega)
  have e2 : w (f + 1) = f + 1 := wrap_id (by omega) (by omega)
  rw [e1]
  have fin : ∀ u : Bool, (r == 0) = false → up28' f r d m = u → Goes Tbl.none T Try.f28.ntmps Try.f28.results.toList (fin28 f u) (.tv (I (rndF f r d m))) := by
    intro u h0 hu
    unfold rndF fin28
    rw [h0, hu]
    cases u
    · exact .ret _
    · rw [e2]; exact .ret _
  refine .bif (fun h => .ret' (by unfold rndF; rw [h]; rfl)) (fun h0 => .bif (fun h1 => .bif (fun h2 => fin _ h0 ?_) fun h2 => fin _ h0 ?_) fun h1 => fin _ h0 ?_)
  · unfold up28'; rw [h1, h2]; rfl
  · unfold up28'; rw [h1, h2]; rfl
  · unfold up28'; rw [h1]; rfl

/-! DivRound, MulDiv -/
def negI2 (n d : Int) : Bool := !(decide (n < 0) == decide (d < 0))
def negI (c n d : Int) : Bool := !((!(decide (c < 0) == decide (n < 0))) == decide (d < 0))
def drU (n d m : Int) : Nat := up1 (n.natAbs / d.natAbs) (n.natAbs % d.natAbs) d.natAbs (negI2 n d) m
def drRes (n d m : Int) : Int × Int :=
  bif !modeOk m then (0, 1) else bif d == 0 then (0, 12) else bif decide (absI n > 4611686018427387904) || decide (absI d > 4611686018427387904) then (0, 3) else (sgn (negI2 n d) (drU n d m : Nat), 0)
def FDivRound := FC3 (.int .i64) (.int .i64) (.int .i64) (fun n d _ => i64ok n && i64ok d) fun n d m => .tup [.tv (I (drRes n d m).1), .tv (I (drRes n d m).2)]
theorem up1_le (q r d : Nat) (neg : Bool) (m : Int) : q ≤ up1 q r d neg m ∧ up1 q r d neg m ≤ q + 1 := by
  unfold up1; cases upN q r d neg m <;> simp
theorem wq {q : Nat} (h : q < 18446744073709551616) : w64 (q : Int) = q := w64k h
theorem e31 (G : Tbl) (k33 : Int → Bool) (r33 : Int → Bool) (k34 : Int → Bool) (r34 : Int → Int) (k35 : Int → Int → Int → Bool → Int → Bool) (r35 : Int → Int → Int → Bool → Int → Int) (k36 : Int → Bool → Bool) (r36 : Int → Bool → Int) (a0 : Int) (a1 : Int) (a2 : Int) :
    runF ((((G.add 33 (FC1 (.int .i64) k33 (fun x0 => .tv (B (r33 x0))))).add 34 (FC1 (.int .i64) k34 (fun x0 => .tv (U (r34 x0))))).add 35 (FC5 (.int .u64) (.int .u64) (.int .u64) (.bool) (.int .i64) k35 (fun x0 x1 x2 x3 x4 => .tv (U (r35 x0 x1 x2 x3 x4))))).add 36 (FC2 (.int .u64) (.bool) k36 (fun x0 x1 => .tv (I (r36 x0 x1))))) [] Try.f31 400 (bod Try.f31) (entry [(I a0), (I a1), (I a2)]) =
  bif (k33 a2) then
    bif (!(r33 a2)) then
      .ret (.tup [.tv (I 0), .tv (I 1)])
    else
      bif (a1 == 0) then
        .ret (.tup [.tv (I 0), .tv (I 12)])
      else
        bif (k34 a0) then
          bif ((k34 a1) || (!(!(decide ((r34 a0) > 4611686018427387904))))) then
            bif (bif (decide ((r34 a0) > 4611686018427387904)) then true else (decide ((r34 a1) > 4611686018427387904))) then
              .ret (.tup [.tv (I 0), .tv (I 3)])
            else
              bif (k34 a0) then
                bif (k34 a1) then
                  bif (!((r34 a1) == 0)) then
                    bif (!((r34 a1) == 0)) then
                      bif (k35 (w64 (Int.tdiv (r34 a0) (r34 a1))) (Int.tmod (r34 a0) (r34 a1)) (r34 a1) (!((decide (a0 < 0)) == (decide (a1 < 0)))) a2) then
                        bif (k36 (r35 (w64 (Int.tdiv (r34 a0) (r34 a1))) (Int.tmod (r34 a0) (r34 a1)) (r34 a1) (!((decide (a0 < 0)) == (decide (a1 < 0)))) a2) (!((decide (a0 < 0)) == (decide (a1 < 0))))) then
                          .ret (.tup [.tv (I (r36 (r35 (w64 (Int.tdiv (r34 a0) (r34 a1))) (Int.tmod (r34 a0) (r34 a1)) (r34 a1) (!((decide (a0 < 0)) == (decide (a1 < 0)))) a2) (!((decide (a0 < 0)) == (decide (a1 < 0)))))), .tv (I 0)])
                        else
                          .fail
                      else
                        .fail
                    else
                      .fail
                  else
                    .fail
                else
                  .fail
              else
                .fail
          else
            .fail
        else
          .fail
  else
    .fail := by kernel_rfl
theorem has31 : Hs 31 FDivRound := by
  refine Has.fc3 (fn := Try.f31) ((((env0.more has33).more has34).more has35).more has36) (by kernel_rfl) (by kernel_rfl) (by kernel_rfl) (by kernel_rfl) fun (n d m : Int) h => .run0 (e31 Tbl.none _ _ _ _ _ _ _ _ n d m) ?_
  simp only [Bool.and_eq_true] at h
  obtain ⟨hn, hd⟩ := h
  rw [hn, hd, cond_true, cond_true, Bool.true_or, cond_true, cond_true, cond_true]
  unfold drRes
  refine .bif (fun h1 => .ret' (by rw [h1]; rfl)) fun h1 => ?_
  rw [h1, cond_false]
  refine .bif (fun h2 => .ret' (by rw [h2]; rfl)) fun h2 => ?_
  rw [h2, cond_false, bor_bif]
  refine .bif (fun h3 => .ret' (by rw [h3]; rfl)) fun h3 => ?_
  rw [h3, cond_false]
  have hd0 : d ≠ 0 := by simpa using h2
  have h3a : ¬ (absI n > 4611686018427387904) := of_decide_eq_false (Bool.or_eq_false_iff.1 h3).1
  have h3b : ¬ (absI d > 4611686018427387904) := of_decide_eq_false (Bool.or_eq_false_iff.1 h3).2
  unfold absI at h3a h3b
  have hb0 : (!(absI d == 0)) = true := ne0 (by unfold absI; omega)
  have hdp : 0 < d.natAbs := by omega
  have hqle : n.natAbs / d.natAbs ≤ 4611686018427387904 := Nat.le_trans (Nat.div_le_self _ _) (by omega)
  have hr := Nat.mod_lt n.natAbs hdp
  have e1 : w64 (Int.tdiv (absI n) (absI d)) = ((n.natAbs / d.natAbs : Nat) : Int) := by
    unfold absI; rw [tdivN]; exact wq (by omega)
  have e2 : Int.tmod (absI n) (absI d) = ((n.natAbs % d.natAbs : Nat) : Int) := tmodN _ _
  have e3 : absI d = ((d.natAbs : Nat) : Int) := rfl
  rw [hb0, cond_true, cond_true, e1, e2, e3]
  have k1 : rdOk ((n.natAbs / d.natAbs : Nat) : Int) ((n.natAbs % d.natAbs : Nat) : Int) ((d.natAbs : Nat) : Int) = true := rdOk_nat hqle hr (by omega)
  simp only [Int.toNat_natCast]
  have k2 : limOk ((up1 (n.natAbs / d.natAbs) (n.natAbs % d.natAbs) d.natAbs (!(decide (n < 0) == decide (d < 0))) m : Nat) : Int) = true := by
    have := (up1_le (n.natAbs / d.natAbs) (n.natAbs % d.natAbs) d.natAbs (!(decide (n < 0) == decide (d < 0))) m).2
    have : up1 (n.natAbs / d.natAbs) (n.natAbs % d.natAbs) d.natAbs (!(decide (n < 0) == decide (d < 0))) m ≤ 4611686018427387904 := by
      by_cases hq : n.natAbs / d.natAbs < 4611686018427387904
      · omega
      · have h4 : n.natAbs / d.natAbs = 4611686018427387904 := by omega
        have h5 := Nat.div_add_mod n.natAbs d.natAbs
        rw [h4] at h5
        have h6 : d.natAbs = 1 := by
          have : d.natAbs * 4611686018427387904 ≤ 1 * 4611686018427387904 := by omega
          have := Nat.le_of_mul_le_mul_right this (by omega)
          omega
        have h7 : n.natAbs % d.natAbs = 0 := by omega
        have : ∀ neg : Bool, up1 4611686018427387904 0 1 neg m = 4611686018427387904 := by
          intro neg; unfold up1 upN; simp
        rw [h4, h7, h6, this]; exact Nat.le_refl _
    exact limOk_nat this
  rw [k1, cond_true, k2, cond_true]
  exact .ret _

def mdU (c n d m : Int) : Nat := up1 (c.natAbs * n.natAbs / d.natAbs) (c.natAbs * n.natAbs % d.natAbs) d.natAbs (negI c n d) m
def mdBig (c n d : Int) : Bool := (decide (absI c > 1000000000000000) || decide (absI n > 1000000000)) || decide (absI d > 1000000000)
def mdRes (c n d m : Int) : Int × Int :=
  bif !modeOk m then (0, 1) else bif d == 0 then (0, 12) else bif mdBig c n d then (0, 3) else bif decide (mdU c n d m > 1000000000000000) then (0, 3) else (sgn (negI c n d) (mdU c n d m : Nat), 0)
def FMulDiv := FC4 (.int .i64) (.int .i64) (.int .i64) (.int .i64) (fun c n d _ => i64ok c && i64ok n && i64ok d) fun c n d m => .tup [.tv (I (mdRes c n d m).1), .tv (I (mdRes c n d m).2)]
end Go.Lift.L03
