/- A part of the proof that the law returns true for every input: no condition. -/
import Derived.Test.YtincaojcmkklbaaR15
set_option maxRecDepth 100000
set_option linter.unusedVariables false
set_option linter.unusedSimpArgs false
namespace Go.Lift.L03
open Go.Lift Go.Proofs

/-! FromRatio -/
def frU (n d m : Int) : Nat := up1 (n.natAbs * 1000000 / d.natAbs) (n.natAbs * 1000000 % d.natAbs) d.natAbs (negI2 n d) m
def frBad (n d : Int) : Bool := beyondI n 1000000000000000 || beyondI d 1000000000000000
def frRes (n d m : Int) : Int × Int :=
  bif !modeOk m then (0, 1) else bif d == 0 then (0, 12) else bif frBad n d then (0, 3) else bif decide (frU n d m > 1000000000) then (0, 3) else (sgn (negI2 n d) (frU n d m : Nat), 0)
def FFromRatio := FC3 (.int .i64) (.int .i64) (.int .i64) (fun _ _ _ => true) fun n d m => pr2 (frRes n d m)

theorem frRes_ok {n d m : Int} (h1 : (!modeOk m) = false) (h2 : (d == 0) = false) (h3 : frBad n d = false) :
    frRes n d m = bif decide (frU n d m > 1000000000) then (0, 3) else (sgn (negI2 n d) (frU n d m : Nat), 0) := by
  unfold frRes; rw [h1, h2, h3, cond_false, cond_false, cond_false]
theorem sgn_big9 (neg : Bool) (u : Nat) : beyondI (sgn neg (u : Int)) 1000000000 = decide (u > 1000000000) := by
  unfold beyondI sgn
  cases neg <;> simp <;> rw [Bool.eq_iff_iff] <;> simp <;> omega
theorem frRes_ok2 {n d m : Int} (h1 : (!modeOk m) = false) (h2 : (d == 0) = false) (h3 : frBad n d = false) :
    frRes n d m = bif beyondI (sgn (negI2 n d) ((frU n d m : Nat) : Int)) 1000000000 then (0, 3) else (sgn (negI2 n d) (frU n d m : Nat), 0) := by
  rw [frRes_ok h1 h2 h3, sgn_big9]
theorem dv_q {d : Int} {x : Nat} : divQ ((x / 18446744073709551616 : Nat) : Int) ((x % 18446744073709551616 : Nat) : Int) (absI d) = ((x / d.natAbs : Nat) : Int) := by
  have hdm := Nat.div_add_mod x 18446744073709551616
  rw [Nat.mul_comm] at hdm
  unfold divQ absI; rw [Int.toNat_natCast, Int.toNat_natCast, Int.toNat_natCast, hdm]
theorem dv_r {d : Int} {x : Nat} : divR ((x / 18446744073709551616 : Nat) : Int) ((x % 18446744073709551616 : Nat) : Int) (absI d) = ((x % d.natAbs : Nat) : Int) := by
  have hdm := Nat.div_add_mod x 18446744073709551616
  rw [Nat.mul_comm] at hdm
  unfold divR absI; rw [Int.toNat_natCast, Int.toNat_natCast, Int.toNat_natCast, hdm]
theorem dv_o {d : Int} {x : Nat} (hd : 0 < d.natAbs) (h : ((x / 18446744073709551616 : Nat) : Int) ≥ absI d) : 1000000000 < x / d.natAbs := by
  have hdm := Nat.div_add_mod x 18446744073709551616
  unfold absI at h
  have h5 : d.natAbs ≤ x / 18446744073709551616 := by omega
  have h6 := Nat.mul_le_mul_right 18446744073709551616 h5
  have h7 : 18446744073709551616 ≤ x / d.natAbs := by
    rw [Nat.le_div_iff_mul_le hd, Nat.mul_comm]; omega
  omega
theorem dv_u {x : Nat} (h : x ≤ 1000000000000000000000) : u64ok ((x / 18446744073709551616 : Nat) : Int) = true ∧ u64ok ((x % 18446744073709551616 : Nat) : Int) = true :=
  ⟨u64ok_nat (by omega), u64ok_nat (Nat.mod_lt _ (by omega))⟩
theorem mul6_hi (n : Int) : mulHi (absI n) 1000000 = ((n.natAbs * 1000000 / 18446744073709551616 : Nat) : Int) := by
  unfold mulHi absI; rw [Int.toNat_natCast, show (1000000 : Int).toNat = 1000000 from rfl]
theorem mul6_lo (n : Int) : mulLo (absI n) 1000000 = ((n.natAbs * 1000000 % 18446744073709551616 : Nat) : Int) := by
  unfold mulLo absI; rw [Int.toNat_natCast, show (1000000 : Int).toNat = 1000000 from rfl]
theorem fr_vals {n d : Int} (b1 : n.natAbs ≤ 1000000000000000) (hd : 0 < d.natAbs) :
    divQ (mulHi (absI n) 1000000) (mulLo (absI n) 1000000) (absI d) = ((n.natAbs * 1000000 / d.natAbs : Nat) : Int) ∧
    divR (mulHi (absI n) 1000000) (mulLo (absI n) 1000000) (absI d) = ((n.natAbs * 1000000 % d.natAbs : Nat) : Int) ∧
    u64ok (mulHi (absI n) 1000000) = true ∧ u64ok (mulLo (absI n) 1000000) = true ∧
    (mulHi (absI n) 1000000 ≥ absI d → 1000000000 < n.natAbs * 1000000 / d.natAbs) := by
  have hu := dv_u (x := n.natAbs * 1000000) (Nat.mul_le_mul_right 1000000 b1)
  rw [mul6_hi, mul6_lo]
  exact ⟨dv_q, dv_r, hu.1, hu.2, dv_o hd⟩
noncomputable def c9_18  (s8 : Bool) (s12 : Int) : Leaf :=
  bif (decide (s12 > 1000000000)) then
    .ret (.tup [.tv (I 0), .tv (I 3)])
  else
    bif s8 then
      .ret (.tup [.tv (I (w (0 - (w s12)))), .tv (I 0)])
    else
      .ret (.tup [.tv (I (w s12)), .tv (I 0)])
noncomputable def c9_8 (k22 : Int → Int → Bool) (r22_0 : Int → Int → Int) (r22_1 : Int → Int → Int) (k23 : Int → Bool) (r23 : Int → Int) (k24 : Int → Int → Int → Bool) (r24_0 : Int → Int → Int → Int) (r24_1 : Int → Int → Int → Int) (k25 : Int → Int → Int → Bool → Int → Bool) (r25 : Int → Int → Int → Bool → Int → Bool) (s0 : Int) (s1 : Int) (s2 : Int) : Leaf :=
  bif (k23 s0) then
    bif (k22 (r23 s0) 1000000) then
      bif (k23 s1) then
        bif (decide ((r22_0 (r23 s0) 1000000) ≥ (r23 s1))) then
          .ret (.tup [.tv (I 0), .tv (I 3)])
        else
          bif (k24 (r22_0 (r23 s0) 1000000) (r22_1 (r23 s0) 1000000) (r23 s1)) then
            bif (decide ((r24_0 (r22_0 (r23 s0) 1000000) (r22_1 (r23 s0) 1000000) (r23 s1)) > 1000000000)) then
              .ret (.tup [.tv (I 0), .tv (I 3)])
            else
              bif (k25 (r24_0 (r22_0 (r23 s0) 1000000) (r22_1 (r23 s0) 1000000) (r23 s1)) (r24_1 (r22_0 (r23 s0) 1000000) (r22_1 (r23 s0) 1000000) (r23 s1)) (r23 s1) (!((decide (s0 < 0)) == (decide (s1 < 0)))) s2) then
                bif (r25 (r24_0 (r22_0 (r23 s0) 1000000) (r22_1 (r23 s0) 1000000) (r23 s1)) (r24_1 (r22_0 (r23 s0) 1000000) (r22_1 (r23 s0) 1000000) (r23 s1)) (r23 s1) (!((decide (s0 < 0)) == (decide (s1 < 0)))) s2) then
                  c9_18  (!((decide (s0 < 0)) == (decide (s1 < 0)))) (w64 ((r24_0 (r22_0 (r23 s0) 1000000) (r22_1 (r23 s0) 1000000) (r23 s1)) + 1))
                else
                  c9_18  (!((decide (s0 < 0)) == (decide (s1 < 0)))) (r24_0 (r22_0 (r23 s0) 1000000) (r22_1 (r23 s0) 1000000) (r23 s1))
              else
                .fail
          else
            .fail
      else
        .fail
    else
      .fail
  else
    .fail
theorem e9 (G : Tbl) (k20 : Int → Bool) (r20 : Int → Bool) (k21 : Int → Int → Bool) (r21 : Int → Int → Bool) (k22 : Int → Int → Bool) (r22_0 : Int → Int → Int) (r22_1 : Int → Int → Int) (k23 : Int → Bool) (r23 : Int → Int) (k24 : Int → Int → Int → Bool) (r24_0 : Int → Int → Int → Int) (r24_1 : Int → Int → Int → Int) (k25 : Int → Int → Int → Bool → Int → Bool) (r25 : Int → Int → Int → Bool → Int → Bool) (a0 : Int) (a1 : Int) (a2 : Int) :
    runL ((((((G.add 20 (FC1 (.int .i64) k20 (fun x0 => .tv (B (r20 x0))))).add 21 (FC2 (.int .i64) (.int .i64) k21 (fun x0 x1 => .tv (B (r21 x0 x1))))).add 22 (FC2 (.int .u64) (.int .u64) k22 (fun x0 x1 => .tup [.tv (U (r22_0 x0 x1)), .tv (U (r22_1 x0 x1))]))).add 23 (FC1 (.int .i64) k23 (fun x0 => .tv (U (r23 x0))))).add 24 (FC3 (.int .u64) (.int .u64) (.int .u64) k24 (fun x0 x1 x2 => .tup [.tv (U (r24_0 x0 x1 x2)), .tv (U (r24_1 x0 x1 x2))]))).add 25 (FC5 (.int .u64) (.int .u64) (.int .u64) (.bool) (.int .i64) k25 (fun x0 x1 x2 x3 x4 => .tv (B (r25 x0 x1 x2 x3 x4))))) [] Try.f9 1000 (bod Try.f9) (entry [(I a0), (I a1), (I a2)]) =
  bif (k20 a2) then
    bif (!(r20 a2)) then
      .ret (.tup [.tv (I 0), .tv (I 1)])
    else
      bif (a1 == 0) then
        .ret (.tup [.tv (I 0), .tv (I 12)])
      else
        bif (k21 a0 1000000000000000) then
          bif (r21 a0 1000000000000000) then
            bif (r21 a0 1000000000000000) then
              .ret (.tup [.tv (I 0), .tv (I 3)])
            else
              c9_8 k22 r22_0 r22_1 k23 r23 k24 r24_0 r24_1 k25 r25 a0 a1 a2
          else
            bif (k21 a1 1000000000000000) then
              bif (r21 a1 1000000000000000) then
                .ret (.tup [.tv (I 0), .tv (I 3)])
              else
                c9_8 k22 r22_0 r22_1 k23 r23 k24 r24_0 r24_1 k25 r25 a0 a1 a2
            else
              .fail
        else
          .fail
  else
    .fail := by kernel_rfl
theorem c18_goes {G : Tbl} {q : Nat} (u neg : Bool) (hq : q ≤ 1000000000) : Goes G T Try.f9.ntmps Try.f9.results.toList (c9_18 neg ((q + u.toNat : Nat) : Int))
    (pr2 (bif decide (q + u.toNat > 1000000000) then (0, 3) else (sgn neg ((q + u.toNat : Nat) : Int), 0))) := by
  have ht : u.toNat ≤ 1 := by cases u <;> decide
  unfold c9_18
  refine .bif (fun h8 => .ret' ?_) fun h8 => ?_
  · rw [decide_eq_true (show q + u.toNat > 1000000000 by have := of_decide_eq_true h8; omega)]; rfl
  · rw [decide_eq_false (show ¬ q + u.toNat > 1000000000 by have := of_decide_eq_false h8; omega), cond_false]
    have e1 : w ((q + u.toNat : Nat) : Int) = ((q + u.toNat : Nat) : Int) := wN (by omega)
    have e2 : w (0 - ((q + u.toNat : Nat) : Int)) = -((q + u.toNat : Nat) : Int) := by rw [Int.zero_sub]; exact wrap_id (by omega) (by omega)
    rw [e1, e2]
    cases neg <;> exact .ret _
theorem w64_inc {q : Nat} (h : q ≤ 1000000000) : w64 ((q : Int) + 1) = ((q + true.toNat : Nat) : Int) := by
  rw [show ((q : Int) + 1) = ((q + true.toNat : Nat) : Int) from rfl]
  exact w64k (by have : true.toNat = 1 := rfl; omega)
theorem gt_nat {q : Nat} {l : Nat} (h : decide ((q : Int) > (l : Int)) = true) : q > l := by have := of_decide_eq_true h; omega
theorem ngt_nat {q : Nat} {l : Nat} (h : decide ((q : Int) > (l : Int)) = false) : q ≤ l := by have := of_decide_eq_false h; omega
abbrev k22 : Int → Int → Bool := fun x y => u64ok x && u64ok y
abbrev k24 : Int → Int → Int → Bool := fun hi lo y => u64ok hi && u64ok lo && u64ok y && ltI hi y
abbrev k25 : Int → Int → Int → Bool → Int → Bool := fun q r d _ _ => rdOk q r d
abbrev u25 : Int → Int → Int → Bool → Int → Bool := fun q r d neg m => upN q.toNat r.toNat d.toNat neg m
theorem has9 : Hs 9 FFromRatio := by
  refine Has.fc3 (G := (((((Tbl.none.add 20 Fmode).add 21 Fbey).add 22 Fmul).add 23 Fabs).add 24 Fdiv).add 25 FroundUp) (fn := Try.f9)
    ((((((env0.more has20).more has21).more has22).more has23).more has24).more has25) (by kernel_rfl) (by kernel_rfl) (by kernel_rfl) (by kernel_rfl)
    fun (n d m : Int) h => .run1 (e9 Tbl.none (fun _ => true) modeOk (fun _ l => limOk l) beyondI k22 mulHi mulLo i64ok absI k24 divQ divR k25 u25 n d m) ?_
  have bad : frBad n d = true → (!modeOk m) = false → (d == 0) = false → pr2 (0, 3) = pr2 (frRes n d m) := by
    intro h1 h2 h3; unfold frRes; rw [h1, h2, h3]; rfl
  have fin : frBad n d = false → (!modeOk m) = false → (d == 0) = false →
      Goes ((((((Tbl.none.add 20 Fmode).add 21 Fbey).add 22 Fmul).add 23 Fabs).add 24 Fdiv).add 25 FroundUp) T Try.f9.ntmps Try.f9.results.toList
        (c9_8 k22 mulHi mulLo i64ok absI k24 divQ divR k25 u25 n d m) (pr2 (frRes n d m)) := by
    intro h1 h2 h3
    have hb := Bool.or_eq_false_iff.1 h1
    have b1 : n.natAbs ≤ 1000000000000000 := bey_no (l := 1000000000000000) hb.1
    have b2 : d.natAbs ≤ 1000000000000000 := bey_no (l := 1000000000000000) hb.2
    have hd0 : d ≠ 0 := by intro e; rw [e] at h3; cases h3
    have hdp : 0 < d.natAbs := by omega
    obtain ⟨vQ, vR, u4, u5, vO⟩ := fr_vals b1 hdp
    have hup := up1_le (n.natAbs * 1000000 / d.natAbs) (n.natAbs * 1000000 % d.natAbs) d.natAbs (negI2 n d) m
    have hR := Nat.mod_lt (n.natAbs * 1000000) hdp
    have u1 : u64ok (absI n) = true := u64ok_nat (by omega)
    have u2 : u64ok 1000000 = true := rfl
    have u3 : u64ok (absI d) = true := u64ok_nat (by omega)
    have hres := frRes_ok h2 h3 h1
    have over : n.natAbs * 1000000 / d.natAbs > 1000000000 → pr2 (0, 3) = pr2 (frRes n d m) := by
      intro h
      have : decide (frU n d m > 1000000000) = true := decide_eq_true (Nat.lt_of_lt_of_le h hup.1)
      rw [hres, this]; rfl
    unfold c9_8
    have hk22 : k22 (absI n) 1000000 = true := by
      show (u64ok _ && u64ok _) = true
      rw [u1, u2]; rfl
    rw [i64of' b1, i64of' b2, cond_true, hk22, cond_true, cond_true]
    refine .bif (fun h4 => .ret' (over (vO (of_decide_eq_true h4)))) fun h4 => ?_
    have h5 := of_decide_eq_false h4
    have hlt' : ltI (mulHi (absI n) 1000000) (absI d) = true := by unfold ltI; exact decide_eq_true (by omega)
    have hk24 : k24 (mulHi (absI n) 1000000) (mulLo (absI n) 1000000) (absI d) = true := by
      show (u64ok _ && u64ok _ && u64ok _ && ltI _ _) = true
      rw [u4, u5, u3, hlt']; rfl
    rw [hk24, cond_true, vQ, vR]
    refine .bif (fun h6 => .ret' (over (gt_nat (l := 1000000000) h6))) fun h6 => ?_
    have h7 : n.natAbs * 1000000 / d.natAbs ≤ 1000000000 := ngt_nat (l := 1000000000) h6
    have k1 : rdOk ((n.natAbs * 1000000 / d.natAbs : Nat) : Int) ((n.natAbs * 1000000 % d.natAbs : Nat) : Int) (absI d) = true := rdOk_nat (Nat.le_trans h7 (by omega)) hR (by omega)
    have hn : (!(decide (n < 0) == decide (d < 0))) = negI2 n d := rfl
    have hfin : ∀ (u : Bool) (s : Int), upN (n.natAbs * 1000000 / d.natAbs) (n.natAbs * 1000000 % d.natAbs) d.natAbs (negI2 n d) m = u → s = ((n.natAbs * 1000000 / d.natAbs + u.toNat : Nat) : Int) → ∀ G : Tbl,
        Goes G T Try.f9.ntmps Try.f9.results.toList (c9_18 (negI2 n d) s) (pr2 (frRes n d m)) := by
      intro u s hu hs G
      have hU : frU n d m = n.natAbs * 1000000 / d.natAbs + u.toNat := by unfold frU up1; rw [hu]
      rw [hres, hU, hs]
      exact c18_goes u _ h7
    show Goes _ _ _ _ (bif rdOk _ _ _ then bif upN (Int.toNat _) (Int.toNat _) (Int.toNat _) _ _ then _ else _ else _) _
    rw [k1, cond_true, Int.toNat_natCast, Int.toNat_natCast, show (absI d).toNat = d.natAbs from rfl, hn]
    exact .bif (fun h8 => hfin true _ h8 (w64_inc h7) _) fun h8 => hfin false _ h8 rfl _
  rw [cond_true, l15, cond_true, cond_true]
  refine .bif (fun h1 => .ret' (by unfold frRes; rw [h1]; rfl)) fun h1 => .bif (fun h2 => .ret' (by unfold frRes; rw [h1, h2]; rfl)) fun h2 => .bif (fun h3 => ?_) fun h3 => .bif (fun h4 => ?_) fun h4 => ?_
  · rw [h3]; exact .ret' (bad (by unfold frBad; rw [h3]; rfl) h1 h2)
  · exact .ret' (bad (by unfold frBad; rw [h3, h4]; rfl) h1 h2)
  · exact fin (by unfold frBad; rw [h3, h4]; rfl) h1 h2
theorem div_uniq {x f r d : Int} (hd : 0 < d) (hr : 0 ≤ r) (hr' : r < d) (h : x = f * d + r) : x / d = f ∧ x % d = r := by
  subst h
  constructor
  · rw [Int.add_comm, Int.add_mul_ediv_right _ _ (by omega), Int.ediv_eq_zero_of_lt hr hr', Int.zero_add]
  · rw [Int.add_comm, Int.add_mul_emod_self_right, Int.emod_eq_of_lt hr hr']
theorem tdiv_nn {a b : Int} (ha : 0 ≤ a) (hb : 0 ≤ b) : a.tdiv b = a / b := by
  rw [Int.tdiv_eq_ediv_of_nonneg ha]
theorem tmod_nn {a b : Int} (ha : 0 ≤ a) : a.tmod b = a % b := Int.tmod_eq_emod_of_nonneg ha
noncomputable def c10_10 (k26 : Int → Int → Bool) (r26 : Int → Int → Bool) (k27 : Int → Int → Bool) (r27_0 : Int → Int → Int) (r27_1 : Int → Int → Int) (k28 : Int → Int → Int → Int → Bool) (r28 : Int → Int → Int → Int → Int) (s0 : Int) (s1 : Int) (s2 : Int) : Leaf :=
  bif (k27 s0 s1) then
    bif (k26 (r27_0 s0 s1) 1001) then
      bif (r26 (r27_0 s0 s1) 1001) then
        .ret (.tup [.tv (I 0), .tv (I 3)])
      else
        bif (!(s1 == 0)) then
          bif (!(s1 == 0)) then
            bif (!(s1 == 0)) then
              bif (!(s1 == 0)) then
                bif (k28 (w ((w ((w ((r27_0 s0 s1) * 1000000)) + (w ((w (Int.tdiv (w ((r27_1 s0 s1) * 1000)) s1)) * 1000)))) + (w (Int.tdiv (w ((Int.tmod (w ((r27_1 s0 s1) * 1000)) s1) * 1000)) s1)))) (Int.tmod (w ((Int.tmod (w ((r27_1 s0 s1) * 1000)) s1) * 1000)) s1) s1 s2) then
                  bif (k26 (r28 (w ((w ((w ((r27_0 s0 s1) * 1000000)) + (w ((w (Int.tdiv (w ((r27_1 s0 s1) * 1000)) s1)) * 1000)))) + (w (Int.tdiv (w ((Int.tmod (w ((r27_1 s0 s1) * 1000)) s1) * 1000)) s1)))) (Int.tmod (w ((Int.tmod (w ((r27_1 s0 s1) * 1000)) s1) * 1000)) s1) s1 s2) 1000000000) then
                    bif (r26 (r28 (w ((w ((w ((r27_0 s0 s1) * 1000000)) + (w ((w (Int.tdiv (w ((r27_1 s0 s1) * 1000)) s1)) * 1000)))) + (w (Int.tdiv (w ((Int.tmod (w ((r27_1 s0 s1) * 1000)) s1) * 1000)) s1)))) (Int.tmod (w ((Int.tmod (w ((r27_1 s0 s1) * 1000)) s1) * 1000)) s1) s1 s2) 1000000000) then
                      .ret (.tup [.tv (I 0), .tv (I 3)])
                    else
                      .ret (.tup [.tv (I (r28 (w ((w ((w ((r27_0 s0 s1) * 1000000)) + (w ((w (Int.tdiv (w ((r27_1 s0 s1) * 1000)) s1)) * 1000)))) + (w (Int.tdiv (w ((Int.tmod (w ((r27_1 s0 s1) * 1000)) s1) * 1000)) s1)))) (Int.tmod (w ((Int.tmod (w ((r27_1 s0 s1) * 1000)) s1) * 1000)) s1) s1 s2)), .tv (I 0)])
                  else
                    .fail
                else
                  .fail
              else
                .fail
            else
              .fail
          else
            .fail
        else
          .fail
    else
      .fail
  else
    .fail
theorem e10 (G : Tbl) (k26 : Int → Int → Bool) (r26 : Int → Int → Bool) (k27 : Int → Int → Bool) (r27_0 : Int → Int → Int) (r27_1 : Int → Int → Int) (k28 : Int → Int → Int → Int → Bool) (r28 : Int → Int → Int → Int → Int) (a0 : Int) (a1 : Int) (a2 : Int) :
    runL (((G.add 26 (FC2 (.int .i64) (.int .i64) k26 (fun x0 x1 => .tv (B (r26 x0 x1))))).add 27 (FC2 (.int .i64) (.int .i64) k27 (fun x0 x1 => .tup [.tv (I (r27_0 x0 x1)), .tv (I (r27_1 x0 x1))]))).add 28 (FC4 (.int .i64) (.int .i64) (.int .i64) (.int .i64) k28 (fun x0 x1 x2 x3 => .tv (I (r28 x0 x1 x2 x3))))) [] Try.f10 1000 (bod Try.f10) (entry [(I a0), (I a1), (I a2)]) =
  bif (bif (decide (a2 < 0)) then true else (decide (a2 > 5))) then
    .ret (.tup [.tv (I 0), .tv (I 1)])
  else
    bif (a1 == 0) then
      .ret (.tup [.tv (I 0), .tv (I 12)])
    else
      bif (k26 a0 1000000000000000) then
        bif ((k26 a1 1000000000000000) || (!(!(r26 a0 1000000000000000)))) then
          bif (bif (r26 a0 1000000000000000) then true else (r26 a1 1000000000000000)) then
            .ret (.tup [.tv (I 0), .tv (I 3)])
          else
            bif (decide (a1 < 0)) then
              c10_10 k26 r26 k27 r27_0 r27_1 k28 r28 (w (0 - a0)) (w (0 - a1)) a2
            else
              c10_10 k26 r26 k27 r27_0 r27_1 k28 r28 a0 a1 a2
        else
          .fail
      else
        .fail := by kernel_rfl
abbrev G10 : Tbl := ((Tbl.none.add 26 Fbey).add 27 Ffloor).add 28 Frounded
theorem tail10 {n d m : Int} (hn : n.natAbs ≤ 1000000000000000) (hd : 0 < d) (hd' : d ≤ 1000000000000000) :
    Goes G10 T Try.f10.ntmps Try.f10.results.toList (c10_10 (fun _ l => limOk l) beyondI fl2 (fun n d => n / d) (fun n d => n % d) (fun f r d _ => rd2 f r d) rndF n d m)
      (pr2 (bif beyondI (rndF (n * 1000000 / d) (n * 1000000 % d) d m) 1000000000 then (0, 3) else (rndF (n * 1000000 / d) (n * 1000000 % d) d m, 0))) := by
  have k1 : fl2 n d = true := by
    unfold fl2; rw [Bool.and_eq_true, Bool.and_eq_true, Bool.and_eq_true, decide_eq_true_eq, decide_eq_true_eq, decide_eq_true_eq, decide_eq_true_eq]; omega
  have r0 := Int.emod_nonneg n (show d ≠ 0 by omega)
  have r1 := Int.emod_lt_of_pos n hd
  have hdm := Int.mul_ediv_add_emod n d
  obtain ⟨q0, q1⟩ := div_small (p := n) (d := d) (l := 1000000000000000) hd (by omega) (by omega) (by omega)
  generalize hq : n / d = q at *
  generalize hr : n % d = r at *
  -- two steps
  have a0 := Int.emod_nonneg (r * 1000) (show d ≠ 0 by omega)
  have a1 := Int.emod_lt_of_pos (r * 1000) hd
  have adm := Int.mul_ediv_add_emod (r * 1000) d
  have aq : 0 ≤ r * 1000 / d ∧ r * 1000 / d < 1000 := ⟨Int.ediv_nonneg (by omega) (by omega), Int.ediv_lt_of_lt_mul hd (by omega)⟩
  generalize ha : r * 1000 / d = a at *
  generalize hs : r * 1000 % d = s at *
  have c0 := Int.emod_nonneg (s * 1000) (show d ≠ 0 by omega)
  have c1 := Int.emod_lt_of_pos (s * 1000) hd
  have cdm := Int.mul_ediv_add_emod (s * 1000) d
  have cq : 0 ≤ s * 1000 / d ∧ s * 1000 / d < 1000 := ⟨Int.ediv_nonneg (by omega) (by omega), Int.ediv_lt_of_lt_mul hd (by omega)⟩
  generalize hb : s * 1000 / d = b at *
  generalize ht : s * 1000 % d = t at *
  have hf : n * 1000000 = (q * 1000000 + a * 1000 + b) * d + t := by
    rw [Int.add_mul, Int.add_mul, Int.mul_right_comm q, Int.mul_right_comm a, Int.mul_comm q d, Int.mul_comm a d, Int.mul_comm b d]
    omega
  obtain ⟨f1, f2⟩ := div_uniq hd c0 c1 hf
  rw [f1, f2]
  have hle := rndF_le (q * 1000000 + a * 1000 + b) t d m
  unfold c10_10
  show Goes _ _ _ _ (bif fl2 n d then bif limOk 1001 then bif beyondI (n / d) 1001 then _ else _ else _ else _) _
  rw [k1, hq, l1001, cond_true, cond_true]
  refine .bif (fun h1 => .ret' ?_) fun h1 => ?_
  · have : beyondI (rndF (q * 1000000 + a * 1000 + b) t d m) 1000000000 = true := by
      unfold beyondI at h1 ⊢
      rw [Bool.or_eq_true, decide_eq_true_eq, decide_eq_true_eq] at h1 ⊢
      omega
    rw [this]; rfl
  · have hq' : q.natAbs ≤ 1001 := bey_no (l := 1001) h1
    show Goes _ _ _ _ (bif !(d == 0) then bif !(d == 0) then bif !(d == 0) then bif !(d == 0) then bif rd2 (w (w (w (n / d * 1000000) + w (w (Int.tdiv (w (n % d * 1000)) d) * 1000)) + w (Int.tdiv (w (Int.tmod (w (n % d * 1000)) d * 1000)) d))) (Int.tmod (w (Int.tmod (w (n % d * 1000)) d * 1000)) d) d then
      bif limOk 1000000000 then bif beyondI (rndF (w (w (w (n / d * 1000000) + w (w (Int.tdiv (w (n % d * 1000)) d) * 1000)) + w (Int.tdiv (w (Int.tmod (w (n % d * 1000)) d * 1000)) d))) (Int.tmod (w (Int.tmod (w (n % d * 1000)) d * 1000)) d) d m) 1000000000 then _ else
        .ret (.tup [.tv (I (rndF (w (w (w (n / d * 1000000) + w (w (Int.tdiv (w (n % d * 1000)) d) * 1000)) + w (Int.tdiv (w (Int.tmod (w (n % d * 1000)) d * 1000)) d))) (Int.tmod (w (Int.tmod (w (n % d * 1000)) d * 1000)) d) d m)), .tv (I 0)]) else _ else _ else _ else _ else _ else _) _
    have w1 : w (n % d * 1000) = r * 1000 := by rw [hr]; exact wrap_id (by omega) (by omega)
    have w2 : w (Int.tdiv (r * 1000) d) = a := by rw [tdiv_nn (by omega) (by omega), ha]; exact wrap_id (by omega) (by omega)
    have w3 : Int.tmod (r * 1000) d = s := by rw [tmod_nn (by omega), hs]
    have w4 : w (s * 1000) = s * 1000 := wrap_id (by omega) (by omega)
    have w5 : w (Int.tdiv (s * 1000) d) = b := by rw [tdiv_nn (by omega) (by omega), hb]; exact wrap_id (by omega) (by omega)
    have w6 : Int.tmod (s * 1000) d = t := by rw [tmod_nn (by omega), ht]
    have w7 : w (n / d * 1000000) = q * 1000000 := by rw [hq]; exact wrap_id (by omega) (by omega)
    have w8 : w (a * 1000) = a * 1000 := wrap_id (by omega) (by omega)
    have w9 : w (q * 1000000 + a * 1000) = q * 1000000 + a * 1000 := wrap_id (by omega) (by omega)
    have w10 : w (q * 1000000 + a * 1000 + b) = q * 1000000 + a * 1000 + b := wrap_id (by omega) (by omega)
    rw [w1, w2, w3, w4, w5, w6, w7, w8, w9, w10, ne0 (show d ≠ 0 by omega)]
    have k2 : rd2 (q * 1000000 + a * 1000 + b) t d = true := by
      unfold rd2
      rw [Bool.and_eq_true, Bool.and_eq_true, Bool.and_eq_true, Bool.and_eq_true, decide_eq_true_eq, decide_eq_true_eq, decide_eq_true_eq, decide_eq_true_eq, decide_eq_true_eq]; omega
    rw [k2, l9]
    repeat rw [cond_true]
    exact .bif (fun h2 => .ret' (by rw [h2]; rfl)) fun h2 => .ret' (by rw [h2]; rfl)
theorem rnd_agree' (x : Nat) {D : Nat} (hD : 0 < D) (neg : Bool) {m : Int} (hm : modeOk m = true) :
    sgn neg ((up1 (x / D) (x % D) D neg m : Nat) : Int) = rndF (sgn neg (x : Int) / (D : Int)) (sgn neg (x : Int) % (D : Int)) D m := by
  have h := @rnd_agree (x / D) (x % D) D (Nat.mod_lt _ hD) neg m hm
  rw [Nat.div_add_mod'] at h
  exact h
theorem sgn_mul6 (n d n' : Int) (hn' : n' = bif decide (d < 0) then -n else n) : sgn (negI2 n d) ((n.natAbs * 1000000 : Nat) : Int) = n' * 1000000 := by
  have hn : ((n.natAbs * 1000000 : Nat) : Int) = (n.natAbs : Int) * 1000000 := Int.natCast_mul _ _
  rw [hn, hn']
  have sT : ∀ x : Int, sgn true x = -x := fun _ => rfl
  have sF : ∀ x : Int, sgn false x = x := fun _ => rfl
  by_cases h1 : n < 0 <;> by_cases h2 : d < 0
  · have e : negI2 n d = false := by unfold negI2; rw [decide_eq_true h1, decide_eq_true h2]; rfl
    rw [e, sF, decide_eq_true h2, cond_true]; omega
  · have e : negI2 n d = true := by unfold negI2; rw [decide_eq_true h1, decide_eq_false h2]; rfl
    rw [e, sT, decide_eq_false h2, cond_false]; omega
  · have e : negI2 n d = true := by unfold negI2; rw [decide_eq_false h1, decide_eq_true h2]; rfl
    rw [e, sT, decide_eq_true h2, cond_true]; omega
  · have e : negI2 n d = false := by unfold negI2; rw [decide_eq_false h1, decide_eq_false h2]; rfl
    rw [e, sF, decide_eq_false h2, cond_false]; omega
/-- the two ways to round agree -/
theorem fr_agree {n d m n' d' : Int} (hd : d ≠ 0) (hm : (!modeOk m) = false) (hn' : n' = bif decide (d < 0) then -n else n) (hd' : d' = bif decide (d < 0) then -d else d) :
    rndF (n' * 1000000 / d') (n' * 1000000 % d') d' m = sgn (negI2 n d) ((frU n d m : Nat) : Int) := by
  have hm' : modeOk m = true := by cases h : modeOk m <;> rw [h] at hm <;> first | rfl | cases hm
  have hdp : 0 < d.natAbs := by omega
  have e2 : d' = ((d.natAbs : Nat) : Int) := by
    rw [hd']
    by_cases h : d < 0
    · rw [decide_eq_true h, cond_true]; omega
    · rw [decide_eq_false h, cond_false]; omega
  unfold frU
  rw [rnd_agree' _ hdp _ hm', sgn_mul6 n d n' hn', e2]
theorem has10 : Hs 10 FFromRatio := by
  refine Has.fc3 (G := G10) (fn := Try.f10) (((env0.more has26).more has27).more has28) (by kernel_rfl) (by kernel_rfl) (by kernel_rfl) (by kernel_rfl)
    fun (n d m : Int) h => .run1 (e10 Tbl.none (fun _ l => limOk l) beyondI fl2 (fun n d => n / d) (fun n d => n % d) (fun f r d _ => rd2 f r d) rndF n d m) ?_
  rw [modeBad, l15, Bool.true_or, bor_bif, cond_true, cond_true]
  refine .bif (fun h1 => .ret' (by unfold frRes; rw [h1]; rfl)) fun h1 => .bif (fun h2 => .ret' (by unfold frRes; rw [h1, h2]; rfl)) fun h2 => .bif (fun h3 => .ret' ?_) fun h3 => ?_
  · have : frBad n d = true := h3
    unfold frRes; rw [h1, h2, this]; rfl
  · have hb := Bool.or_eq_false_iff.1 h3
    have b1 : n.natAbs ≤ 1000000000000000 := bey_no (l := 1000000000000000) hb.1
    have b2 : d.natAbs ≤ 1000000000000000 := bey_no (l := 1000000000000000) hb.2
    have hd0 : d ≠ 0 := by intro e; rw [e] at h2; cases h2
    have hres := frRes_ok2 h1 h2 (show frBad n d = false from h3)
    refine .bif (fun h4 => ?_) fun h4 => ?_
    · have h5 := of_decide_eq_true h4
      have e1 : w (0 - n) = -n := by rw [Int.zero_sub]; exact wrap_id (by omega) (by omega)
      have e2 : w (0 - d) = -d := by rw [Int.zero_sub]; exact wrap_id (by omega) (by omega)
      rw [e1, e2, hres, ← fr_agree (n := n) (d := d) (n' := -n) (d' := -d) hd0 h1 (by rw [h4]; rfl) (by rw [h4]; rfl)]
      exact tail10 (by omega) (by omega) (by omega)
    · have h5 := of_decide_eq_false h4
      rw [hres, ← fr_agree (n := n) (d := d) (n' := n) (d' := d) hd0 h1 (by rw [h4]; rfl) (by rw [h4]; rfl)]
      exact tail10 b1 (by omega) (by omega)
end Go.Lift.L03
