/- A part of the proof that the law returns true for every input: no condition. -/
import Derived.Test.YtincaojcmkklbaaR13
set_option maxRecDepth 100000
set_option linter.unusedVariables false
set_option linter.unusedSimpArgs false
namespace Go.Lift.L03
open Go.Lift Go.Proofs

abbrev pr2 (p : Int × Int) : SV := .tup [.tv (I p.1), .tv (I p.2)]
theorem modeBad (m : Int) : (bif decide (m < 0) then true else decide (m > 5)) = !modeOk m := by
  unfold modeOk; rw [bor_bif, Bool.eq_iff_iff]
  simp only [Bool.or_eq_true, Bool.not_eq_true', Bool.and_eq_false_iff, decide_eq_true_eq, decide_eq_false_iff_not]; omega
theorem l15 : limOk 1000000000000000 = true := rfl
theorem l9 : limOk 1000000000 = true := rfl
theorem l1001 : limOk 1001 = true := rfl
theorem i6 : i64ok 1000000 = true := rfl
theorem bey_no {n : Int} {l : Nat} (h : beyondI n (l : Int) = false) : n.natAbs ≤ l := by
  have h1 := Bool.or_eq_false_iff.1 h
  have a1 := of_decide_eq_false h1.1
  have a2 := of_decide_eq_false h1.2
  omega

/-! Apply -/
def FApply := FC3 (.int .i64) (.int .i64) (.int .i64) (fun c r _ => i64ok c && i64ok r) fun c r m => pr2 (mdRes c r 1000000 m)
theorem e18 (G : Tbl) (k29 : Int → Int → Int → Int → Bool) (r29_0 : Int → Int → Int → Int → Int) (r29_1 : Int → Int → Int → Int → Int) (a0 : Int) (a1 : Int) (a2 : Int) :
    runF (G.add 29 (FC4 (.int .i64) (.int .i64) (.int .i64) (.int .i64) k29 (fun x0 x1 x2 x3 => .tup [.tv (I (r29_0 x0 x1 x2 x3)), .tv (I (r29_1 x0 x1 x2 x3))]))) [] Try.f18 400 (bod Try.f18) (entry [(I a0), (I a1), (I a2)]) =
  bif (k29 a0 a1 1000000 a2) then
    .ret (.tup [.tv (I (r29_0 a0 a1 1000000 a2)), .tv (I (r29_1 a0 a1 1000000 a2))])
  else
    .fail := by kernel_rfl
theorem has18 : Hs 18 FApply := by
  refine Has.fc3 (fn := Try.f18) (env0.more has29) (by kernel_rfl) (by kernel_rfl) (by kernel_rfl) (by kernel_rfl)
    fun (c r m : Int) h => .run0 (e18 Tbl.none (fun c n d _ => i64ok c && i64ok n && i64ok d) (fun c n d m => (mdRes c n d m).1) (fun c n d m => (mdRes c n d m).2) c r m) ?_
  rw [h, i6, Bool.and_true, cond_true]
  exact .ret _
theorem e19 (G : Tbl) (k30 : Int → Int → Int → Int → Bool) (r30_0 : Int → Int → Int → Int → Int) (r30_1 : Int → Int → Int → Int → Int) (a0 : Int) (a1 : Int) (a2 : Int) :
    runF (G.add 30 (FC4 (.int .i64) (.int .i64) (.int .i64) (.int .i64) k30 (fun x0 x1 x2 x3 => .tup [.tv (I (r30_0 x0 x1 x2 x3)), .tv (I (r30_1 x0 x1 x2 x3))]))) [] Try.f19 400 (bod Try.f19) (entry [(I a0), (I a1), (I a2)]) =
  bif (k30 a0 a1 1000000 a2) then
    .ret (.tup [.tv (I (r30_0 a0 a1 1000000 a2)), .tv (I (r30_1 a0 a1 1000000 a2))])
  else
    .fail := by kernel_rfl
theorem has19 : Hs 19 FApply := by
  refine Has.fc3 (fn := Try.f19) (env0.more has30) (by kernel_rfl) (by kernel_rfl) (by kernel_rfl) (by kernel_rfl)
    fun (c r m : Int) h => .run0 (e19 Tbl.none (fun c n d _ => i64ok c && i64ok n && i64ok d) (fun c n d m => (mdRes c n d m).1) (fun c n d m => (mdRes c n d m).2) c r m) ?_
  rw [h, i6, Bool.and_true, cond_true]
  exact .ret _

/-! Prorate -/
def prBad (c days total : Int) : Bool := ((decide (total > 109573) || decide (days < 0)) || decide (days > total)) || beyondI c 1000000000000000
def prRes (c days total m : Int) : Int × Int :=
  bif !modeOk m then (0, 1) else bif decide (total < 1) then (0, 12) else bif prBad c days total then (0, 3) else mdRes c days total m
def FProrate := FC4 (.int .i64) (.int .i64) (.int .i64) (.int .i64) (fun c n d _ => i64ok c && i64ok n && i64ok d) fun c n d m => pr2 (prRes c n d m)
def c12_10 (k29 : Int → Int → Int → Int → Bool) (r29_0 : Int → Int → Int → Int → Int) (r29_1 : Int → Int → Int → Int → Int) (s0 : Int) (s1 : Int) (s2 : Int) (s3 : Int) : Leaf :=
  bif (k29 s0 s1 s2 s3) then
    .ret (.tup [.tv (I (r29_0 s0 s1 s2 s3)), .tv (I (r29_1 s0 s1 s2 s3))])
  else
    .fail
theorem e12 (G : Tbl) (k20 : Int → Bool) (r20 : Int → Bool) (k21 : Int → Int → Bool) (r21 : Int → Int → Bool) (k29 : Int → Int → Int → Int → Bool) (r29_0 : Int → Int → Int → Int → Int) (r29_1 : Int → Int → Int → Int → Int) (a0 : Int) (a1 : Int) (a2 : Int) (a3 : Int) :
    runF (((G.add 20 (FC1 (.int .i64) k20 (fun x0 => .tv (B (r20 x0))))).add 21 (FC2 (.int .i64) (.int .i64) k21 (fun x0 x1 => .tv (B (r21 x0 x1))))).add 29 (FC4 (.int .i64) (.int .i64) (.int .i64) (.int .i64) k29 (fun x0 x1 x2 x3 => .tup [.tv (I (r29_0 x0 x1 x2 x3)), .tv (I (r29_1 x0 x1 x2 x3))]))) [] Try.f12 400 (bod Try.f12) (entry [(I a0), (I a1), (I a2), (I a3)]) =
  bif (k20 a3) then
    bif (!(r20 a3)) then
      .ret (.tup [.tv (I 0), .tv (I 1)])
    else
      bif (decide (a2 < 1)) then
        .ret (.tup [.tv (I 0), .tv (I 12)])
      else
        bif (decide (a2 > 109573)) then
          bif (decide (a2 > 109573)) then
            .ret (.tup [.tv (I 0), .tv (I 3)])
          else
            c12_10 k29 r29_0 r29_1 a0 a1 a2 a3
        else
          bif (decide (a1 < 0)) then
            bif (decide (a1 < 0)) then
              .ret (.tup [.tv (I 0), .tv (I 3)])
            else
              c12_10 k29 r29_0 r29_1 a0 a1 a2 a3
          else
            bif (decide (a1 > a2)) then
              bif (decide (a1 > a2)) then
                .ret (.tup [.tv (I 0), .tv (I 3)])
              else
                c12_10 k29 r29_0 r29_1 a0 a1 a2 a3
            else
              bif (k21 a0 1000000000000000) then
                bif (r21 a0 1000000000000000) then
                  .ret (.tup [.tv (I 0), .tv (I 3)])
                else
                  c12_10 k29 r29_0 r29_1 a0 a1 a2 a3
              else
                .fail
  else
    .fail := by kernel_rfl
theorem has12 : Hs 12 FProrate := by
  refine Has.fc4 (fn := Try.f12) (((env0.more has20).more has21).more has29) (by kernel_rfl) (by kernel_rfl) (by kernel_rfl) (by kernel_rfl)
    fun (c n d m : Int) h => .run0 (e12 Tbl.none (fun _ => true) modeOk (fun _ l => limOk l) beyondI (fun c n d _ => i64ok c && i64ok n && i64ok d) (fun c n d m => (mdRes c n d m).1) (fun c n d m => (mdRes c n d m).2) c n d m) ?_
  have fin : prBad c n d = false → (!modeOk m) = false → decide (d < 1) = false → ∀ G : Tbl, Goes G T Try.f12.ntmps Try.f12.results.toList
      (c12_10 (fun c n d _ => i64ok c && i64ok n && i64ok d) (fun c n d m => (mdRes c n d m).1) (fun c n d m => (mdRes c n d m).2) c n d m) (pr2 (prRes c n d m)) := by
    intro h1 h2 h3 G
    unfold c12_10 prRes
    dsimp only
    rw [h, h1, h2, h3]
    exact .ret _
  have bad : prBad c n d = true → (!modeOk m) = false → decide (d < 1) = false → pr2 (0, 3) = pr2 (prRes c n d m) := by
    intro h1 h2 h3; unfold prRes; rw [h1, h2, h3]; rfl
  rw [cond_true, l15, cond_true]
  refine .bif (fun h1 => .ret' (by unfold prRes; rw [h1]; rfl)) fun h1 => .bif (fun h2 => .ret' (by unfold prRes; rw [h1, h2]; rfl)) fun h2 => .bif (fun h3 => ?_) fun h3 => .bif (fun h4 => ?_) fun h4 => .bif (fun h5 => ?_) fun h5 => .bif (fun h6 => ?_) fun h6 => ?_
  · rw [h3]; exact .ret' (bad (by unfold prBad; rw [h3]; rfl) h1 h2)
  · rw [h4]; exact .ret' (bad (by unfold prBad; rw [h3, h4]; rfl) h1 h2)
  · rw [h5]; exact .ret' (bad (by unfold prBad; rw [h3, h4, h5]; rfl) h1 h2)
  · exact .ret' (bad (by unfold prBad; rw [h3, h4, h5, h6]; rfl) h1 h2)
  · exact fin (by unfold prBad; rw [h3, h4, h5, h6]; rfl) h1 h2 _
def c13_7 (k30 : Int → Int → Int → Int → Bool) (r30_0 : Int → Int → Int → Int → Int) (r30_1 : Int → Int → Int → Int → Int) (s0 : Int) (s1 : Int) (s2 : Int) (s3 : Int) : Leaf :=
  bif (k30 s0 s1 s2 s3) then
    .ret (.tup [.tv (I (r30_0 s0 s1 s2 s3)), .tv (I (r30_1 s0 s1 s2 s3))])
  else
    .fail
theorem e13 (G : Tbl) (k26 : Int → Int → Bool) (r26 : Int → Int → Bool) (k30 : Int → Int → Int → Int → Bool) (r30_0 : Int → Int → Int → Int → Int) (r30_1 : Int → Int → Int → Int → Int) (a0 : Int) (a1 : Int) (a2 : Int) (a3 : Int) :
    runF ((G.add 26 (FC2 (.int .i64) (.int .i64) k26 (fun x0 x1 => .tv (B (r26 x0 x1))))).add 30 (FC4 (.int .i64) (.int .i64) (.int .i64) (.int .i64) k30 (fun x0 x1 x2 x3 => .tup [.tv (I (r30_0 x0 x1 x2 x3)), .tv (I (r30_1 x0 x1 x2 x3))]))) [] Try.f13 400 (bod Try.f13) (entry [(I a0), (I a1), (I a2), (I a3)]) =
  bif (bif (decide (a3 < 0)) then true else (decide (a3 > 5))) then
    .ret (.tup [.tv (I 0), .tv (I 1)])
  else
    bif (decide (a2 < 1)) then
      .ret (.tup [.tv (I 0), .tv (I 12)])
    else
      bif ((k26 a0 1000000000000000) || (!(!(bif (bif (decide (a2 > 109573)) then true else (decide (a1 < 0))) then true else (decide (a1 > a2)))))) then
        bif (bif (bif (bif (decide (a2 > 109573)) then true else (decide (a1 < 0))) then true else (decide (a1 > a2))) then true else (r26 a0 1000000000000000)) then
          .ret (.tup [.tv (I 0), .tv (I 3)])
        else
          c13_7 k30 r30_0 r30_1 a0 a1 a2 a3
      else
        .fail := by kernel_rfl
theorem has13 : Hs 13 FProrate := by
  refine Has.fc4 (fn := Try.f13) ((env0.more has26).more has30) (by kernel_rfl) (by kernel_rfl) (by kernel_rfl) (by kernel_rfl)
    fun (c n d m : Int) h => .run0 (e13 Tbl.none (fun _ l => limOk l) beyondI (fun c n d _ => i64ok c && i64ok n && i64ok d) (fun c n d m => (mdRes c n d m).1) (fun c n d m => (mdRes c n d m).2) c n d m) ?_
  rw [modeBad, l15, Bool.true_or, cond_true, bor_bif, bor_bif, bor_bif]
  show Goes _ _ _ _ (bif !modeOk m then _ else bif decide (d < 1) then _ else bif prBad c n d then _ else _) _
  unfold prRes c13_7
  dsimp only
  rw [h]
  refine .bif (fun h1 => .ret' (by rw [h1]; rfl)) fun h1 => .bif (fun h2 => .ret' (by rw [h1, h2]; rfl)) fun h2 => .bif (fun h3 => .ret' (by rw [h1, h2, h3]; rfl)) fun h3 => .ret' (by rw [h1, h2, h3]; rfl)

/-! Mul -/
def mulV (p : Int) (m : Int) : Int := sgn (decide (p < 0)) ((up1 (p.natAbs / 1000000) (p.natAbs % 1000000) 1000000 (decide (p < 0)) m : Nat) : Int)
def mulRes (a b m : Int) : Int × Int :=
  bif !modeOk m then (0, 1) else bif beyondI a 1000000000 || beyondI b 1000000000 then (0, 3) else bif beyondI (mulV (a * b) m) 1000000000 then (0, 3) else (mulV (a * b) m, 0)
def FMulR := FC3 (.int .i64) (.int .i64) (.int .i64) (fun _ _ _ => true) fun a b m => pr2 (mulRes a b m)
theorem mul_small {a b : Int} (ha : a.natAbs ≤ 1000000000) (hb : b.natAbs ≤ 1000000000) : (a * b).natAbs ≤ 1000000000000000000 ∧ w (a * b) = a * b := by
  have h1 : (a * b).natAbs ≤ 1000000000000000000 := by rw [Int.natAbs_mul]; exact Nat.mul_le_mul ha hb
  exact ⟨h1, wrap_id (by omega) (by omega)⟩
theorem i64of {n : Int} (h : n.natAbs ≤ 9223372036854775807) : i64ok n = true := by
  unfold i64ok; rw [Bool.and_eq_true, decide_eq_true_eq, decide_eq_true_eq]; omega
theorem dr_mul {p m : Int} (hp : p.natAbs ≤ 1000000000000000000) (hm : (!modeOk m) = false) : drRes p 1000000 m = (mulV p m, 0) := by
  unfold drRes
  have h1 : decide (absI p > 4611686018427387904) = false := decide_eq_false (by unfold absI; omega)
  have h2 : decide (absI 1000000 > 4611686018427387904) = false := rfl
  have h3 : ((1000000 : Int) == 0) = false := rfl
  rw [hm, h1, h2, h3]
  have h4 : negI2 p 1000000 = decide (p < 0) := by
    unfold negI2; rw [show decide ((1000000 : Int) < 0) = false from rfl]; cases decide (p < 0) <;> rfl
  unfold drU mulV
  rw [h4]
  rfl
theorem e16 (G : Tbl) (k20 : Int → Bool) (r20 : Int → Bool) (k21 : Int → Int → Bool) (r21 : Int → Int → Bool) (k31 : Int → Int → Int → Bool) (r31_0 : Int → Int → Int → Int) (r31_1 : Int → Int → Int → Int) (a0 : Int) (a1 : Int) (a2 : Int) :
    runF (((G.add 20 (FC1 (.int .i64) k20 (fun x0 => .tv (B (r20 x0))))).add 21 (FC2 (.int .i64) (.int .i64) k21 (fun x0 x1 => .tv (B (r21 x0 x1))))).add 31 (FC3 (.int .i64) (.int .i64) (.int .i64) k31 (fun x0 x1 x2 => .tup [.tv (I (r31_0 x0 x1 x2)), .tv (I (r31_1 x0 x1 x2))]))) [] Try.f16 400 (bod Try.f16) (entry [(I a0), (I a1), (I a2)]) =
  bif (k20 a2) then
    bif (!(r20 a2)) then
      .ret (.tup [.tv (I 0), .tv (I 1)])
    else
      bif (k21 a0 1000000000) then
        bif ((k21 a1 1000000000) || (!(!(r21 a0 1000000000)))) then
          bif (bif (r21 a0 1000000000) then true else (r21 a1 1000000000)) then
            .ret (.tup [.tv (I 0), .tv (I 3)])
          else
            bif (k31 (w (a0 * a1)) 1000000 a2) then
              bif ((r31_1 (w (a0 * a1)) 1000000 a2) != 0) then
                .ret (.tup [.tv (I 0), .tv (I (r31_1 (w (a0 * a1)) 1000000 a2))])
              else
                bif (k21 (r31_0 (w (a0 * a1)) 1000000 a2) 1000000000) then
                  bif (r21 (r31_0 (w (a0 * a1)) 1000000 a2) 1000000000) then
                    .ret (.tup [.tv (I 0), .tv (I 3)])
                  else
                    .ret (.tup [.tv (I (r31_0 (w (a0 * a1)) 1000000 a2)), .tv (I 0)])
                else
                  .fail
            else
              .fail
        else
          .fail
      else
        .fail
  else
    .fail := by kernel_rfl
theorem has16 : Hs 16 FMulR := by
  refine Has.fc3 (fn := Try.f16) (((env0.more has20).more has21).more has31) (by kernel_rfl) (by kernel_rfl) (by kernel_rfl) (by kernel_rfl)
    fun (a b m : Int) h => .run0 (e16 Tbl.none (fun _ => true) modeOk (fun _ l => limOk l) beyondI (fun n d _ => i64ok n && i64ok d) (fun n d m => (drRes n d m).1) (fun n d m => (drRes n d m).2) a b m) ?_
  rw [l9, Bool.true_or, bor_bif]
  repeat rw [cond_true]
  unfold mulRes
  refine .bif (fun h1 => .ret' (by rw [h1]; rfl)) fun h1 => .bif (fun h2 => .ret' (by rw [h1, h2]; rfl)) fun h2 => ?_
  rw [h1, h2, cond_false, cond_false]
  have hb := Bool.or_eq_false_iff.1 h2
  obtain ⟨q1, q2⟩ := mul_small (bey_no (l := 1000000000) hb.1) (bey_no (l := 1000000000) hb.2)
  rw [q2, dr_mul q1 h1, i64of (by omega), i6, Bool.and_true, cond_true]
  have e0 : ((0 : Int) != 0) = false := rfl
  rw [e0, cond_false]
  exact .bif (fun h3 => .ret' (by rw [h3]; rfl)) fun h3 => .ret' (by rw [h3]; rfl)
theorem mulV_floor {p m : Int} (hm : (!modeOk m) = false) : rndF (p / 1000000) (p % 1000000) 1000000 m = mulV p m := by
  have hm' : modeOk m = true := by cases h : modeOk m <;> rw [h] at hm <;> first | rfl | cases hm
  have h := @rnd_agree (p.natAbs / 1000000) (p.natAbs % 1000000) 1000000 (Nat.mod_lt _ (by omega)) (decide (p < 0)) m hm'
  have e : sgn (decide (p < 0)) ((p.natAbs / 1000000 * 1000000 + p.natAbs % 1000000 : Nat) : Int) = p := by
    rw [Nat.div_add_mod']
    unfold sgn
    by_cases hp : p < 0
    · rw [decide_eq_true hp, cond_true]; omega
    · rw [decide_eq_false hp, cond_false]; omega
  rw [e] at h
  exact h.symm
theorem rndF_le (f r d m : Int) : f ≤ rndF f r d m ∧ rndF f r d m ≤ f + 1 := by
  unfold rndF
  cases (r == 0)
  · cases up28' f r d m
    · exact ⟨Int.le_refl f, by show f ≤ f + 1; omega⟩
    · exact ⟨by show f ≤ f + 1; omega, Int.le_refl _⟩
  · exact ⟨Int.le_refl f, by show f ≤ f + 1; omega⟩
theorem div_small {p : Int} {d l : Int} (hd : 0 < d) (h1 : -l ≤ p) (h2 : p ≤ l) (hl : 0 ≤ l) : -l - 1 ≤ p / d ∧ p / d ≤ l := by
  constructor
  · have : -l - 1 < p / d := by
      have := Int.lt_ediv_add_one_mul_self p hd
      by_cases hc : p / d + 1 ≤ -l - 1 + 1
      · have h5 : (p / d + 1) * d ≤ -l * d := Int.mul_le_mul_of_nonneg_right (by omega) (by omega)
        have h6 : l * 1 ≤ l * d := Int.mul_le_mul_of_nonneg_left (by omega) hl
        rw [Int.neg_mul] at h5
        omega
      · omega
    omega
  · exact Int.ediv_le_of_le_mul hd (by
      have h6 : l * 1 ≤ l * d := Int.mul_le_mul_of_nonneg_left (by omega) hl
      omega)
theorem e17 (G : Tbl) (k26 : Int → Int → Bool) (r26 : Int → Int → Bool) (k27 : Int → Int → Bool) (r27_0 : Int → Int → Int) (r27_1 : Int → Int → Int) (k28 : Int → Int → Int → Int → Bool) (r28 : Int → Int → Int → Int → Int) (a0 : Int) (a1 : Int) (a2 : Int) :
    runF (((G.add 26 (FC2 (.int .i64) (.int .i64) k26 (fun x0 x1 => .tv (B (r26 x0 x1))))).add 27 (FC2 (.int .i64) (.int .i64) k27 (fun x0 x1 => .tup [.tv (I (r27_0 x0 x1)), .tv (I (r27_1 x0 x1))]))).add 28 (FC4 (.int .i64) (.int .i64) (.int .i64) (.int .i64) k28 (fun x0 x1 x2 x3 => .tv (I (r28 x0 x1 x2 x3))))) [] Try.f17 400 (bod Try.f17) (entry [(I a0), (I a1), (I a2)]) =
  bif (bif (decide (a2 < 0)) then true else (decide (a2 > 5))) then
    .ret (.tup [.tv (I 0), .tv (I 1)])
  else
    bif (k26 a0 1000000000) then
      bif ((k26 a1 1000000000) || (!(!(r26 a0 1000000000)))) then
        bif (bif (r26 a0 1000000000) then true else (r26 a1 1000000000)) then
          .ret (.tup [.tv (I 0), .tv (I 3)])
        else
          bif (k27 (w (a0 * a1)) 1000000) then
            bif (k28 (r27_0 (w (a0 * a1)) 1000000) (r27_1 (w (a0 * a1)) 1000000) 1000000 a2) then
              bif (k26 (r28 (r27_0 (w (a0 * a1)) 1000000) (r27_1 (w (a0 * a1)) 1000000) 1000000 a2) 1000000000) then
                bif (r26 (r28 (r27_0 (w (a0 * a1)) 1000000) (r27_1 (w (a0 * a1)) 1000000) 1000000 a2) 1000000000) then
                  .ret (.tup [.tv (I 0), .tv (I 3)])
                else
                  .ret (.tup [.tv (I (r28 (r27_0 (w (a0 * a1)) 1000000) (r27_1 (w (a0 * a1)) 1000000) 1000000 a2)), .tv (I 0)])
              else
                .fail
            else
              .fail
          else
            .fail
      else
        .fail
    else
      .fail := by kernel_rfl
theorem has17 : Hs 17 FMulR := by
  refine Has.fc3 (fn := Try.f17) (((env0.more has26).more has27).more has28) (by kernel_rfl) (by kernel_rfl) (by kernel_rfl) (by kernel_rfl)
    fun (a b m : Int) h => .run0 (e17 Tbl.none (fun _ l => limOk l) beyondI fl2 (fun n d => n / d) (fun n d => n % d) (fun f r d _ => rd2 f r d) rndF a b m) ?_
  rw [modeBad, l9, Bool.true_or, bor_bif]
  repeat rw [cond_true]
  unfold mulRes
  refine .bif (fun h1 => .ret' (by rw [h1]; rfl)) fun h1 => .bif (fun h2 => .ret' (by rw [h1, h2]; rfl)) fun h2 => ?_
  rw [h1, h2, cond_false, cond_false]
  have hb := Bool.or_eq_false_iff.1 h2
  obtain ⟨q1, q2⟩ := mul_small (bey_no (l := 1000000000) hb.1) (bey_no (l := 1000000000) hb.2)
  rw [q2, mulV_floor h1]
  have k1 : fl2 (a * b) 1000000 = true := by
    unfold fl2; rw [Bool.and_eq_true, Bool.and_eq_true, Bool.and_eq_true, decide_eq_true_eq, decide_eq_true_eq, decide_eq_true_eq, decide_eq_true_eq]; omega
  have h4 := Int.emod_nonneg (a * b) (show (1000000 : Int) ≠ 0 by omega)
  have h5 := Int.emod_lt_of_pos (a * b) (show (0 : Int) < 1000000 by omega)
  obtain ⟨h6, h7⟩ := div_small (p := a * b) (d := 1000000) (l := 1000000000000000000) (by omega) (by omega) (by omega) (by omega)
  have k2 : rd2 (a * b / 1000000) (a * b % 1000000) 1000000 = true := by
    unfold rd2
    generalize a * b / 1000000 = f at *
    generalize a * b % 1000000 = r at *
    rw [Bool.and_eq_true, Bool.and_eq_true, Bool.and_eq_true, Bool.and_eq_true, decide_eq_true_eq, decide_eq_true_eq, decide_eq_true_eq, decide_eq_true_eq, decide_eq_true_eq]; omega
  rw [k1, cond_true, k2, cond_true]
  exact .bif (fun h3 => .ret' (by rw [h3]; rfl)) fun h3 => .ret' (by rw [h3]; rfl)
end Go.Lift.L03
