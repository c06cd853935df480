/- A part of the proof that the law returns true for every input: no condition. -/
import Derived.Test.YtincaojcmkklbaaR12
set_option maxRecDepth 100000
set_option linter.unusedVariables false
set_option linter.unusedSimpArgs false
namespace Go.Lift.L03
open Go.Lift Go.Proofs

theorem mdBig_eq (c n d : Int) : mdBig c n d = (bif (bif decide (absI c > 1000000000000000) then true else decide (absI n > 1000000000)) then true else decide (absI d > 1000000000)) := by
  unfold mdBig; rw [bor_bif, bor_bif]
theorem mdBig_no {c n d : Int} (h : mdBig c n d = false) : c.natAbs ≤ 1000000000000000 ∧ n.natAbs ≤ 1000000000 ∧ d.natAbs ≤ 1000000000 := by
  have h1 := Bool.or_eq_false_iff.1 h
  have h2 := Bool.or_eq_false_iff.1 h1.1
  have a1 := of_decide_eq_false h2.1
  have a2 := of_decide_eq_false h2.2
  have a3 := of_decide_eq_false h1.2
  unfold absI at a1 a2 a3
  omega
theorem wN {n : Nat} (h : n ≤ 9223372036854775807) : w (n : Int) = (n : Int) := wrap_id (by omega) (by omega)
theorem md_vals {c n d : Int} (b1 : c.natAbs ≤ 1000000000000000) (b2 : n.natAbs ≤ 1000000000) (hd : 0 < d.natAbs) :
    divQ (mulHi (absI c) (absI n)) (mulLo (absI c) (absI n)) (absI d) = ((c.natAbs * n.natAbs / d.natAbs : Nat) : Int) ∧
    divR (mulHi (absI c) (absI n)) (mulLo (absI c) (absI n)) (absI d) = ((c.natAbs * n.natAbs % d.natAbs : Nat) : Int) ∧
    u64ok (mulHi (absI c) (absI n)) = true ∧ u64ok (mulLo (absI c) (absI n)) = true ∧
    (mulHi (absI c) (absI n) ≥ absI d → 1000000000000000 < c.natAbs * n.natAbs / d.natAbs) := by
  have hcn : c.natAbs * n.natAbs ≤ 1000000000000000000000000 := Nat.mul_le_mul b1 b2
  have vhi : mulHi (absI c) (absI n) = ((c.natAbs * n.natAbs / 18446744073709551616 : Nat) : Int) := rfl
  have vlo : mulLo (absI c) (absI n) = ((c.natAbs * n.natAbs % 18446744073709551616 : Nat) : Int) := rfl
  rw [vhi, vlo]
  generalize c.natAbs * n.natAbs = x at *
  have hdm := Nat.div_add_mod x 18446744073709551616
  have hlt := Nat.mod_lt x (show 0 < 18446744073709551616 by omega)
  rw [Nat.mul_comm] at hdm
  refine ⟨?_, ?_, u64ok_nat (by omega), u64ok_nat hlt, fun h => ?_⟩
  · unfold divQ; simp only [Int.toNat_natCast]; rw [hdm]; rfl
  · unfold divR; simp only [Int.toNat_natCast]; rw [hdm]; rfl
  · unfold absI at h
    have h5 : d.natAbs ≤ x / 18446744073709551616 := by omega
    have h6 := Nat.mul_le_mul_right 18446744073709551616 h5
    have h7 : 18446744073709551616 ≤ x / d.natAbs := by
      rw [Nat.le_div_iff_mul_le hd, Nat.mul_comm]; omega
    omega
theorem sgn_big (neg : Bool) (u : Nat) : beyondI (sgn neg (u : Int)) 1000000000000000 = decide (u > 1000000000000000) := by
  unfold beyondI sgn
  cases neg <;> simp <;> rw [Bool.eq_iff_iff] <;> simp <;> omega
theorem e29 (G : Tbl) (k33 : Int → Bool) (r33 : Int → Bool) (k34 : Int → Bool) (r34 : Int → Int) (k22 : Int → Int → Bool) (r22_0 : Int → Int → Int) (r22_1 : Int → Int → Int) (k24 : Int → Int → Int → Bool) (r24_0 : Int → Int → Int → Int) (r24_1 : Int → Int → Int → Int) (k35 : Int → Int → Int → Bool → Int → Bool) (r35 : Int → Int → Int → Bool → Int → Int) (k36 : Int → Bool → Bool) (r36 : Int → Bool → Int) (a0 : Int) (a1 : Int) (a2 : Int) (a3 : Int) :
    runF ((((((G.add 33 (FC1 (.int .i64) k33 (fun x0 => .tv (B (r33 x0))))).add 34 (FC1 (.int .i64) k34 (fun x0 => .tv (U (r34 x0))))).add 22 (FC2 (.int .u64) (.int .u64) k22 (fun x0 x1 => .tup [.tv (U (r22_0 x0 x1)), .tv (U (r22_1 x0 x1))]))).add 24 (FC3 (.int .u64) (.int .u64) (.int .u64) k24 (fun x0 x1 x2 => .tup [.tv (U (r24_0 x0 x1 x2)), .tv (U (r24_1 x0 x1 x2))]))).add 35 (FC5 (.int .u64) (.int .u64) (.int .u64) (.bool) (.int .i64) k35 (fun x0 x1 x2 x3 x4 => .tv (U (r35 x0 x1 x2 x3 x4))))).add 36 (FC2 (.int .u64) (.bool) k36 (fun x0 x1 => .tv (I (r36 x0 x1))))) [] Try.f29 400 (bod Try.f29) (entry [(I a0), (I a1), (I a2), (I a3)]) =
  bif (k33 a3) then
    bif (!(r33 a3)) then
      .ret (.tup [.tv (I 0), .tv (I 1)])
    else
      bif (a2 == 0) then
        .ret (.tup [.tv (I 0), .tv (I 12)])
      else
        bif (k34 a0) then
          bif ((k34 a1) || (!(!(decide ((r34 a0) > 1000000000000000))))) then
            bif ((k34 a2) || (!(!(bif (decide ((r34 a0) > 1000000000000000)) then true else (decide ((r34 a1) > 1000000000)))))) then
              bif (bif (bif (decide ((r34 a0) > 1000000000000000)) then true else (decide ((r34 a1) > 1000000000))) then true else (decide ((r34 a2) > 1000000000))) then
                .ret (.tup [.tv (I 0), .tv (I 3)])
              else
                bif (k34 a0) then
                  bif (k34 a1) then
                    bif (k22 (r34 a0) (r34 a1)) then
                      bif (k34 a2) then
                        bif (decide ((r22_0 (r34 a0) (r34 a1)) ≥ (r34 a2))) then
                          .ret (.tup [.tv (I 0), .tv (I 3)])
                        else
                          bif (k24 (r22_0 (r34 a0) (r34 a1)) (r22_1 (r34 a0) (r34 a1)) (r34 a2)) then
                            bif (decide ((r24_0 (r22_0 (r34 a0) (r34 a1)) (r22_1 (r34 a0) (r34 a1)) (r34 a2)) > 1000000000000000)) then
                              .ret (.tup [.tv (I 0), .tv (I 3)])
                            else
                              bif (k35 (r24_0 (r22_0 (r34 a0) (r34 a1)) (r22_1 (r34 a0) (r34 a1)) (r34 a2)) (r24_1 (r22_0 (r34 a0) (r34 a1)) (r22_1 (r34 a0) (r34 a1)) (r34 a2)) (r34 a2) (!((!((decide (a0 < 0)) == (decide (a1 < 0)))) == (decide (a2 < 0)))) a3) then
                                bif (decide ((r35 (r24_0 (r22_0 (r34 a0) (r34 a1)) (r22_1 (r34 a0) (r34 a1)) (r34 a2)) (r24_1 (r22_0 (r34 a0) (r34 a1)) (r22_1 (r34 a0) (r34 a1)) (r34 a2)) (r34 a2) (!((!((decide (a0 < 0)) == (decide (a1 < 0)))) == (decide (a2 < 0)))) a3) > 1000000000000000)) then
                                  .ret (.tup [.tv (I 0), .tv (I 3)])
                                else
                                  bif (k36 (r35 (r24_0 (r22_0 (r34 a0) (r34 a1)) (r22_1 (r34 a0) (r34 a1)) (r34 a2)) (r24_1 (r22_0 (r34 a0) (r34 a1)) (r22_1 (r34 a0) (r34 a1)) (r34 a2)) (r34 a2) (!((!((decide (a0 < 0)) == (decide (a1 < 0)))) == (decide (a2 < 0)))) a3) (!((!((decide (a0 < 0)) == (decide (a1 < 0)))) == (decide (a2 < 0))))) then
                                    .ret (.tup [.tv (I (r36 (r35 (r24_0 (r22_0 (r34 a0) (r34 a1)) (r22_1 (r34 a0) (r34 a1)) (r34 a2)) (r24_1 (r22_0 (r34 a0) (r34 a1)) (r22_1 (r34 a0) (r34 a1)) (r34 a2)) (r34 a2) (!((!((decide (a0 < 0)) == (decide (a1 < 0)))) == (decide (a2 < 0)))) a3) (!((!((decide (a0 < 0)) == (decide (a1 < 0)))) == (decide (a2 < 0)))))), .tv (I 0)])
                                  else
                                    .fail
                              else
                                .fail
                          else
                            .fail
                      else
                        .fail
                    else
                      .fail
                  else
                    .fail
                else
                  .fail
            else
              .fail
          else
            .fail
        else
          .fail
  else
    .fail := by kernel_rfl
theorem has29 : Hs 29 FMulDiv := by
  refine Has.fc4 (fn := Try.f29) ((((((env0.more has33).more has34).more has22).more has24).more has35).more has36) (by kernel_rfl) (by kernel_rfl) (by kernel_rfl) (by kernel_rfl)
    fun (c n d m : Int) h => .run0 (e29 Tbl.none (fun _ => true) modeOk i64ok absI (fun x y => u64ok x && u64ok y) mulHi mulLo (fun hi lo y => u64ok hi && u64ok lo && u64ok y && ltI hi y) divQ divR (fun q r d _ _ => rdOk q r d) (fun q r d neg m => ((up1 q.toNat r.toNat d.toNat neg m : Nat) : Int)) (fun n _ => limOk n) (fun n neg => sgn neg n) c n d m) ?_
  simp only [Bool.and_eq_true] at h
  obtain ⟨⟨hc, hn⟩, hd⟩ := h
  rw [hc, hn, hd, ← mdBig_eq]
  repeat (first | rw [cond_true] | rw [Bool.true_or])
  unfold mdRes
  refine .bif (fun h1 => .ret' (by rw [h1]; rfl)) fun h1 => ?_
  rw [h1, cond_false]
  refine .bif (fun h2 => .ret' (by rw [h2]; rfl)) fun h2 => ?_
  rw [h2, cond_false]
  refine .bif (fun h3 => .ret' (by rw [h3]; rfl)) fun h3 => ?_
  rw [h3, cond_false]
  obtain ⟨b1, b2, b3⟩ := mdBig_no h3
  have hd0 : d ≠ 0 := by simpa using h2
  have hdp : 0 < d.natAbs := by omega
  have u1 : u64ok (absI c) = true := u64ok_nat (by omega)
  have u2 : u64ok (absI n) = true := u64ok_nat (by omega)
  have u3 : u64ok (absI d) = true := u64ok_nat (by omega)
  obtain ⟨vQ, vR, u4, u5, vO⟩ := md_vals b1 b2 hdp
  have hup := up1_le (c.natAbs * n.natAbs / d.natAbs) (c.natAbs * n.natAbs % d.natAbs) d.natAbs (negI c n d) m
  have hR := Nat.mod_lt (c.natAbs * n.natAbs) hdp
  have hdm2 := Nat.div_add_mod (c.natAbs * n.natAbs) d.natAbs
  have over : c.natAbs * n.natAbs / d.natAbs > 1000000000000000 → decide (mdU c n d m > 1000000000000000) = true := by
    intro h; simp only [decide_eq_true_eq]; unfold mdU; omega
  rw [u1, u2]
  repeat (first | rw [cond_true] | rw [Bool.and_true])
  refine .bif (fun h4 => .ret' ?_) fun h4 => ?_
  · rw [over]
    · rfl
    · exact vO (of_decide_eq_true h4)
  · have h5 := of_decide_eq_false h4
    have hlt' : ltI (mulHi (absI c) (absI n)) (absI d) = true := by unfold ltI; exact decide_eq_true (by omega)
    rw [u4, u5, u3, hlt', vQ, vR]
    repeat (first | rw [cond_true] | rw [Bool.and_true] | rw [Int.toNat_natCast])
    refine .bif (fun h6 => .ret' ?_) fun h6 => ?_
    · rw [over (by have := of_decide_eq_true h6; omega)]; rfl
    · have h7 : c.natAbs * n.natAbs / d.natAbs ≤ 1000000000000000 := by have := of_decide_eq_false h6; omega
      have k1 : rdOk ((c.natAbs * n.natAbs / d.natAbs : Nat) : Int) ((c.natAbs * n.natAbs % d.natAbs : Nat) : Int) (absI d) = true := rdOk_nat (by omega) hR (by omega)
      rw [k1, cond_true]
      have e3 : (absI d).toNat = d.natAbs := rfl
      rw [e3, show (!((!(decide (c < 0) == decide (n < 0))) == decide (d < 0))) = negI c n d from rfl]
      show Goes _ _ _ _ (bif decide (((mdU c n d m : Nat) : Int) > 1000000000000000) then _ else bif limOk ((mdU c n d m : Nat) : Int) then _ else _) _
      have hU : mdU c n d m ≤ 1000000000000001 := by unfold mdU; omega
      refine .bif (fun h8 => .ret' ?_) fun h8 => ?_
      · have : decide (mdU c n d m > 1000000000000000) = true := by have := of_decide_eq_true h8; simp only [decide_eq_true_eq]; omega
        rw [this]; rfl
      · have : decide (mdU c n d m > 1000000000000000) = false := by have := of_decide_eq_false h8; simp only [decide_eq_false_iff_not]; omega
        have k2 : limOk ((mdU c n d m : Nat) : Int) = true := limOk_nat (by omega)
        rw [this, k2]
        exact .ret _
theorem e30 (G : Tbl) (k37 : Int → Bool) (r37 : Int → Bool) (k38 : Int → Int → Bool) (r38 : Int → Int → Bool) (k39 : Int → Bool) (r39 : Int → Int) (k40 : Int → Int → Int → Bool → Int → Bool) (r40 : Int → Int → Int → Bool → Int → Int) (a0 : Int) (a1 : Int) (a2 : Int) (a3 : Int) :
    runF ((((G.add 37 (FC1 (.int .i64) k37 (fun x0 => .tv (B (r37 x0))))).add 38 (FC2 (.int .i64) (.int .i64) k38 (fun x0 x1 => .tv (B (r38 x0 x1))))).add 39 (FC1 (.int .i64) k39 (fun x0 => .tv (I (r39 x0))))).add 40 (FC5 (.int .i64) (.int .i64) (.int .i64) (.bool) (.int .i64) k40 (fun x0 x1 x2 x3 x4 => .tv (I (r40 x0 x1 x2 x3 x4))))) [] Try.f30 400 (bod Try.f30) (entry [(I a0), (I a1), (I a2), (I a3)]) =
  bif (k37 a3) then
    bif (!(r37 a3)) then
      .ret (.tup [.tv (I 0), .tv (I 1)])
    else
      bif (a2 == 0) then
        .ret (.tup [.tv (I 0), .tv (I 12)])
      else
        bif (k38 a0 1000000000000000) then
          bif ((k38 a1 1000000000) || (!(!(r38 a0 1000000000000000)))) then
            bif ((k38 a2 1000000000) || (!(!(bif (r38 a0 1000000000000000) then true else (r38 a1 1000000000))))) then
              bif (bif (bif (r38 a0 1000000000000000) then true else (r38 a1 1000000000)) then true else (r38 a2 1000000000)) then
                .ret (.tup [.tv (I 0), .tv (I 3)])
              else
                bif (k39 a0) then
                  bif (k39 a1) then
                    bif (k39 a2) then
                      bif ((!((r39 a2) == 0)) || (!(decide ((r39 a1) > 0)))) then
                        bif ((!((r39 a1) == 0)) || (!(decide ((r39 a1) > 0)))) then
                          bif (bif (decide ((r39 a1) > 0)) then (decide ((w (Int.tdiv (r39 a0) (r39 a2))) > (w (Int.tdiv 1000000000000000 (r39 a1))))) else false) then
                            .ret (.tup [.tv (I 0), .tv (I 3)])
                          else
                            bif (!((r39 a2) == 0)) then
                              bif (!((r39 a2) == 0)) then
                                bif (!((r39 a2) == 0)) then
                                  bif (!((r39 a2) == 0)) then
                                    bif (k40 (w ((w ((w (Int.tdiv (r39 a0) (r39 a2))) * (r39 a1))) + (w (Int.tdiv (w ((Int.tmod (r39 a0) (r39 a2)) * (r39 a1))) (r39 a2))))) (Int.tmod (w ((Int.tmod (r39 a0) (r39 a2)) * (r39 a1))) (r39 a2)) (r39 a2) (!((!((decide (a0 < 0)) == (decide (a1 < 0)))) == (decide (a2 < 0)))) a3) then
                                      bif (k38 (r40 (w ((w ((w (Int.tdiv (r39 a0) (r39 a2))) * (r39 a1))) + (w (Int.tdiv (w ((Int.tmod (r39 a0) (r39 a2)) * (r39 a1))) (r39 a2))))) (Int.tmod (w ((Int.tmod (r39 a0) (r39 a2)) * (r39 a1))) (r39 a2)) (r39 a2) (!((!((decide (a0 < 0)) == (decide (a1 < 0)))) == (decide (a2 < 0)))) a3) 1000000000000000) then
                                        bif (r38 (r40 (w ((w ((w (Int.tdiv (r39 a0) (r39 a2))) * (r39 a1))) + (w (Int.tdiv (w ((Int.tmod (r39 a0) (r39 a2)) * (r39 a1))) (r39 a2))))) (Int.tmod (w ((Int.tmod (r39 a0) (r39 a2)) * (r39 a1))) (r39 a2)) (r39 a2) (!((!((decide (a0 < 0)) == (decide (a1 < 0)))) == (decide (a2 < 0)))) a3) 1000000000000000) then
                                          .ret (.tup [.tv (I 0), .tv (I 3)])
                                        else
                                          .ret (.tup [.tv (I (r40 (w ((w ((w (Int.tdiv (r39 a0) (r39 a2))) * (r39 a1))) + (w (Int.tdiv (w ((Int.tmod (r39 a0) (r39 a2)) * (r39 a1))) (r39 a2))))) (Int.tmod (w ((Int.tmod (r39 a0) (r39 a2)) * (r39 a1))) (r39 a2)) (r39 a2) (!((!((decide (a0 < 0)) == (decide (a1 < 0)))) == (decide (a2 < 0)))) a3)), .tv (I 0)])
                                      else
                                        .fail
                                    else
                                      .fail
                                  else
                                    .fail
                                else
                                  .fail
                              else
                                .fail
                            else
                              .fail
                        else
                          .fail
                      else
                        .fail
                    else
                      .fail
                  else
                    .fail
                else
                  .fail
            else
              .fail
          else
            .fail
        else
          .fail
  else
    .fail := by kernel_rfl
theorem has30 : Hs 30 FMulDiv := by
  refine Has.fc4 (fn := Try.f30) ((((env0.more has37).more has38).more has39).more has40) (by kernel_rfl) (by kernel_rfl) (by kernel_rfl) (by kernel_rfl)
    fun (c n d m : Int) h => .run0 (e30 Tbl.none _ _ _ _ _ _ _ _ c n d m) ?_
  simp only [Bool.and_eq_true] at h
  obtain ⟨⟨hc, hn⟩, hd⟩ := h
  have l15 : limOk 1000000000000000 = true := rfl
  have l9 : limOk 1000000000 = true := rfl
  have bE : ∀ {x : Int} (l : Nat), beyondI x (l : Int) = decide (absI x > (l : Int)) := by
    intro x l; unfold beyondI absI; rw [Bool.eq_iff_iff]; simp only [Bool.or_eq_true, decide_eq_true_eq]; omega
  rw [l15, l9, show beyondI c 1000000000000000 = decide (absI c > 1000000000000000) from bE 1000000000000000, show beyondI n 1000000000 = decide (absI n > 1000000000) from bE 1000000000,
    show beyondI d 1000000000 = decide (absI d > 1000000000) from bE 1000000000, ← mdBig_eq]
  simp only [Bool.true_or, cond_true]
  unfold mdRes
  refine .bif (fun h1 => .ret' (by rw [h1]; rfl)) fun h1 => ?_
  rw [h1, cond_false]
  refine .bif (fun h2 => .ret' (by rw [h2]; rfl)) fun h2 => ?_
  rw [h2, cond_false]
  refine .bif (fun h3 => .ret' (by rw [h3]; rfl)) fun h3 => ?_
  rw [h3, cond_false]
  obtain ⟨b1, b2, b3⟩ := mdBig_no h3
  have hd0 : d ≠ 0 := by simpa using h2
  have hdp : 0 < d.natAbs := by omega
  have s1 : symOk c = true := symOk_of (by omega)
  have s2 : symOk n = true := symOk_of (by omega)
  have s3 : symOk d = true := symOk_of (by omega)
  have hb : (!(absI d == 0)) = true := ne0 (by unfold absI; omega)
  rw [s1, s2, s3, hb]
  simp only [Bool.true_or, cond_true]
  have hx : ((!(absI n == 0)) || (!(decide (absI n > 0)))) = true := by
    by_cases h : n = 0
    · subst h; rfl
    · rw [ne0 (by unfold absI; omega)]; rfl
  rw [hx, cond_true, show (!((!(decide (c < 0) == decide (n < 0))) == decide (d < 0))) = negI c n d from rfl]
  -- plain numbers
  have q1 : w (Int.tdiv (absI c) (absI d)) = ((c.natAbs / d.natAbs : Nat) : Int) := by
    unfold absI; rw [tdivN]; exact wN (Nat.le_trans (Nat.div_le_self c.natAbs d.natAbs) (by omega))
  have q2 : w (Int.tdiv 1000000000000000 (absI n)) = ((1000000000000000 / n.natAbs : Nat) : Int) := by
    unfold absI; rw [show (1000000000000000 : Int) = ((1000000000000000 : Nat) : Int) from rfl, tdivN]; exact wN (Nat.le_trans (Nat.div_le_self 1000000000000000 n.natAbs) (by omega))
  have q3 : Int.tmod (absI c) (absI d) = ((c.natAbs % d.natAbs : Nat) : Int) := tmodN _ _
  have hmod := Nat.mod_lt c.natAbs hdp
  have hlo : c.natAbs % d.natAbs * n.natAbs ≤ 1000000000 * 1000000000 := Nat.mul_le_mul (by omega) b2
  have q4 : w (((c.natAbs % d.natAbs : Nat) : Int) * absI n) = ((c.natAbs % d.natAbs * n.natAbs : Nat) : Int) := by
    unfold absI; rw [← Int.natCast_mul]; exact wN (by omega)
  have q5 : w (Int.tdiv ((c.natAbs % d.natAbs * n.natAbs : Nat) : Int) (absI d)) = ((c.natAbs % d.natAbs * n.natAbs / d.natAbs : Nat) : Int) := by
    unfold absI; rw [tdivN]; exact wN (Nat.le_trans (Nat.div_le_self (c.natAbs % d.natAbs * n.natAbs) d.natAbs) (by omega))
  have q6 : Int.tmod ((c.natAbs % d.natAbs * n.natAbs : Nat) : Int) (absI d) = ((c.natAbs % d.natAbs * n.natAbs % d.natAbs : Nat) : Int) := tmodN _ _
  rw [q1, q2, q3, q4, q5, q6, band_bif]
  have hsum : c.natAbs * n.natAbs = c.natAbs % d.natAbs * n.natAbs + c.natAbs / d.natAbs * n.natAbs * d.natAbs := by
    have := Nat.div_add_mod c.natAbs d.natAbs
    calc c.natAbs * n.natAbs = (d.natAbs * (c.natAbs / d.natAbs) + c.natAbs % d.natAbs) * n.natAbs := by rw [this]
      _ = _ := by rw [Nat.add_mul, Nat.add_comm, Nat.mul_assoc, Nat.mul_comm d.natAbs]
  have hQ : c.natAbs * n.natAbs / d.natAbs = c.natAbs / d.natAbs * n.natAbs + c.natAbs % d.natAbs * n.natAbs / d.natAbs := by
    rw [hsum, Nat.add_mul_div_right _ _ hdp, Nat.add_comm]
  have hR : c.natAbs * n.natAbs % d.natAbs = c.natAbs % d.natAbs * n.natAbs % d.natAbs := by
    rw [hsum, Nat.add_mul_mod_self_right]
  have hup := up1_le (c.natAbs * n.natAbs / d.natAbs) (c.natAbs * n.natAbs % d.natAbs) d.natAbs (negI c n d) m
  have hd1 := Nat.div_le_self (c.natAbs % d.natAbs * n.natAbs) d.natAbs
  refine .bif (fun h4 => .ret' ?_) fun h4 => ?_
  · have : decide (mdU c n d m > 1000000000000000) = true := by
      simp only [Bool.and_eq_true, decide_eq_true_eq] at h4 ⊢
      obtain ⟨h5, h6⟩ := h4
      unfold absI at h5
      have hn0 : 0 < n.natAbs := by omega
      have h7 : 1000000000000000 / n.natAbs + 1 ≤ c.natAbs / d.natAbs := by
        generalize 1000000000000000 / n.natAbs = p at *
        generalize c.natAbs / d.natAbs = q at *
        omega
      have h8 := Nat.mul_le_mul_right n.natAbs h7
      have h9 := Nat.lt_div_mul_add (a := 1000000000000000) hn0
      have : (1000000000000000 / n.natAbs + 1) * n.natAbs = 1000000000000000 / n.natAbs * n.natAbs + n.natAbs := by rw [Nat.add_mul, Nat.one_mul]
      have hQ2 : 1000000000000000 < c.natAbs * n.natAbs / d.natAbs := by
        rw [hQ]; exact Nat.lt_of_lt_of_le (Nat.lt_of_lt_of_le (Nat.lt_of_lt_of_le h9 (Nat.le_of_eq this.symm)) h8) (Nat.le_add_right _ _)
      exact Nat.lt_of_lt_of_le hQ2 hup.1
    rw [this]; rfl
  · have h5 : c.natAbs / d.natAbs * n.natAbs ≤ 1000000000000000 := by
      by_cases hn0 : n.natAbs = 0
      · rw [hn0]; omega
      · have hp : decide (absI n > 0) = true := by simp only [decide_eq_true_eq]; unfold absI; omega
        rw [hp, Bool.true_and] at h4
        have h6 : c.natAbs / d.natAbs ≤ 1000000000000000 / n.natAbs := by
          have := of_decide_eq_false h4
          generalize 1000000000000000 / n.natAbs = p at *
          generalize c.natAbs / d.natAbs = q at *
          omega
        exact Nat.le_trans (Nat.mul_le_mul_right _ h6) (Nat.div_mul_le_self _ _)
    have q7 : w (((c.natAbs / d.natAbs : Nat) : Int) * absI n) = ((c.natAbs / d.natAbs * n.natAbs : Nat) : Int) := by
      unfold absI; rw [← Int.natCast_mul]; exact wN (by omega)
    have q8 : w (((c.natAbs / d.natAbs * n.natAbs : Nat) : Int) + ((c.natAbs % d.natAbs * n.natAbs / d.natAbs : Nat) : Int)) = ((c.natAbs * n.natAbs / d.natAbs : Nat) : Int) := by
      rw [← Int.natCast_add, ← hQ]; exact wN (by omega)
    rw [q7, q8, ← hR]
    have hRlt := Nat.mod_lt (c.natAbs * n.natAbs) hdp
    have k1 : rdOk ((c.natAbs * n.natAbs / d.natAbs : Nat) : Int) ((c.natAbs * n.natAbs % d.natAbs : Nat) : Int) (absI d) = true := rdOk_nat (by omega) hRlt (by omega)
    rw [k1]
    simp only [cond_true, Int.toNat_natCast]
    rw [show (absI d).toNat = d.natAbs from rfl]
    show Goes _ _ _ _ (bif beyondI (sgn (negI c n d) ((mdU c n d m : Nat) : Int)) 1000000000000000 then _ else _) _
    rw [sgn_big]
    refine .bif (fun h6 => .ret' (by rw [h6]; rfl)) fun h6 => .ret' (by rw [h6]; rfl)
end Go.Lift.L03
