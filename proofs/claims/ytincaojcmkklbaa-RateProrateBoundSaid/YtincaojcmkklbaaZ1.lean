/- A part of the proof that the law returns true for every input: no condition. -/
import Derived.Test.YtincaojcmkklbaaR16
set_option maxRecDepth 100000
set_option linter.unusedVariables false
set_option linter.unusedSimpArgs false
namespace Go.Lift.L03
open Go.Lift Go.Proofs

/-! the examples -/
abbrev FT0 := FC0 true (.tv (B true))
abbrev FT3 (k : Int → Int → Int → Bool) := FC3 (.int .i64) (.int .i64) (.int .i64) k fun _ _ _ => .tv (B true)
abbrev FT4 (k : Int → Int → Int → Int → Bool) := FC4 (.int .i64) (.int .i64) (.int .i64) (.int .i64) k fun _ _ _ _ => .tv (B true)
theorem has11 : Hs 11 FT0 := by
  refine Has.fc0 (G := ((Tbl.none.add 9 FFromRatio).add 12 FProrate).add 14 FCompound) (fn := Try.f11) (((env0.more has9).more has12).more has14) (by kernel_rfl) (by kernel_rfl) (by kernel_rfl) (by kernel_rfl)
    fun h => .run0 (n := 1000) (ks := []) (L := .ret (.tv (B true))) (by kernel_rfl) (.ret _)
theorem eqs (a b : Int) : (bif (bif (a == a) then (b == b) else false) then true else false) = true := by rw [beq_self_eq_true, beq_self_eq_true]; rfl

theorem i64_wf {n : Int} (h : Wf (.int .i64) n) : i64ok n = true := by
  have h' : (decide (IntKind.min .i64 ≤ n) && decide (n ≤ IntKind.max .i64)) = true := h
  exact h'

/-! the laws -/
theorem e3 (G : Tbl) (k9 : Int → Int → Int → Bool) (r9_0 : Int → Int → Int → Int) (r9_1 : Int → Int → Int → Int) (k10 : Int → Int → Int → Bool) (r10_0 : Int → Int → Int → Int) (r10_1 : Int → Int → Int → Int) (k11 : Bool) (r11 : Bool) (a0 : Int) (a1 : Int) (a2 : Int) :
    runL (((G.add 9 (FC3 (.int .i64) (.int .i64) (.int .i64) k9 (fun x0 x1 x2 => .tup [.tv (I (r9_0 x0 x1 x2)), .tv (I (r9_1 x0 x1 x2))]))).add 10 (FC3 (.int .i64) (.int .i64) (.int .i64) k10 (fun x0 x1 x2 => .tup [.tv (I (r10_0 x0 x1 x2)), .tv (I (r10_1 x0 x1 x2))]))).add 11 (FC0  k11 (.tv (B r11)))) [] Try.f3 1000 (bod Try.f3) (entry [(I a0), (I a1), (I a2)]) =
  bif (k9 a0 a1 a2) then
    bif (k10 a0 a1 a2) then
      bif (k11 || (!(bif ((r9_0 a0 a1 a2) == (r10_0 a0 a1 a2)) then ((r9_1 a0 a1 a2) == (r10_1 a0 a1 a2)) else false))) then
        .ret (.tv (B (bif (bif ((r9_0 a0 a1 a2) == (r10_0 a0 a1 a2)) then ((r9_1 a0 a1 a2) == (r10_1 a0 a1 a2)) else false) then r11 else false)))
      else
        .fail
    else
      .fail
  else
    .fail := by kernel_rfl
theorem has3 : Hs 3 (FT3 fun _ _ _ => true) := by
  refine Has.fc3 (fn := Try.f3) (((env0.more has9).more has10).more has11) (by kernel_rfl) (by kernel_rfl) (by kernel_rfl) (by kernel_rfl)
    fun (n d m : Int) h => .run1 (e3 Tbl.none (fun _ _ _ => true) (fun n d m => (frRes n d m).1) (fun n d m => (frRes n d m).2) (fun _ _ _ => true) (fun n d m => (frRes n d m).1) (fun n d m => (frRes n d m).2) true true n d m) ?_
  rw [cond_true, cond_true, Bool.true_or, cond_true, eqs]
  exact .ret _
theorem e4 (G : Tbl) (k11 : Bool) (r11 : Bool) (k12 : Int → Int → Int → Int → Bool) (r12_0 : Int → Int → Int → Int → Int) (r12_1 : Int → Int → Int → Int → Int) (k13 : Int → Int → Int → Int → Bool) (r13_0 : Int → Int → Int → Int → Int) (r13_1 : Int → Int → Int → Int → Int) (a0 : Int) (a1 : Int) (a2 : Int) (a3 : Int) :
    runL (((G.add 11 (FC0  k11 (.tv (B r11)))).add 12 (FC4 (.int .i64) (.int .i64) (.int .i64) (.int .i64) k12 (fun x0 x1 x2 x3 => .tup [.tv (I (r12_0 x0 x1 x2 x3)), .tv (I (r12_1 x0 x1 x2 x3))]))).add 13 (FC4 (.int .i64) (.int .i64) (.int .i64) (.int .i64) k13 (fun x0 x1 x2 x3 => .tup [.tv (I (r13_0 x0 x1 x2 x3)), .tv (I (r13_1 x0 x1 x2 x3))]))) [] Try.f4 1000 (bod Try.f4) (entry [(I a0), (I a1), (I a2), (I a3)]) =
  bif (k12 a0 a1 a2 a3) then
    bif (k13 a0 a1 a2 a3) then
      bif (k11 || (!(bif ((r12_0 a0 a1 a2 a3) == (r13_0 a0 a1 a2 a3)) then ((r12_1 a0 a1 a2 a3) == (r13_1 a0 a1 a2 a3)) else false))) then
        .ret (.tv (B (bif (bif ((r12_0 a0 a1 a2 a3) == (r13_0 a0 a1 a2 a3)) then ((r12_1 a0 a1 a2 a3) == (r13_1 a0 a1 a2 a3)) else false) then r11 else false)))
      else
        .fail
    else
      .fail
  else
    .fail := by kernel_rfl
theorem has4 : Hs 4 (FT4 fun c n d _ => i64ok c && i64ok n && i64ok d) := by
  refine Has.fc4 (fn := Try.f4) (((env0.more has11).more has12).more has13) (by kernel_rfl) (by kernel_rfl) (by kernel_rfl) (by kernel_rfl)
    fun (c n d m : Int) h => .run1 (e4 Tbl.none true true (fun c n d _ => i64ok c && i64ok n && i64ok d) (fun c n d m => (prRes c n d m).1) (fun c n d m => (prRes c n d m).2) (fun c n d _ => i64ok c && i64ok n && i64ok d) (fun c n d m => (prRes c n d m).1) (fun c n d m => (prRes c n d m).2) c n d m) ?_
  rw [h, cond_true, cond_true, Bool.true_or, cond_true, eqs]
  exact .ret _
theorem e5 (G : Tbl) (k11 : Bool) (r11 : Bool) (k14 : Int → Int → Int → Int → Bool) (r14_0 : Int → Int → Int → Int → Int) (r14_1 : Int → Int → Int → Int → Int) (k15 : Int → Int → Int → Int → Bool) (r15_0 : Int → Int → Int → Int → Int) (r15_1 : Int → Int → Int → Int → Int) (a0 : Int) (a1 : Int) (a2 : Int) (a3 : Int) :
    runL (((G.add 11 (FC0  k11 (.tv (B r11)))).add 14 (FC4 (.int .i64) (.int .i64) (.int .i64) (.int .i64) k14 (fun x0 x1 x2 x3 => .tup [.tv (I (r14_0 x0 x1 x2 x3)), .tv (I (r14_1 x0 x1 x2 x3))]))).add 15 (FC4 (.int .i64) (.int .i64) (.int .i64) (.int .i64) k15 (fun x0 x1 x2 x3 => .tup [.tv (I (r15_0 x0 x1 x2 x3)), .tv (I (r15_1 x0 x1 x2 x3))]))) [] Try.f5 1000 (bod Try.f5) (entry [(I a0), (I a1), (I a2), (I a3)]) =
  bif (k14 a0 a1 a2 a3) then
    bif (k15 a0 a1 a2 a3) then
      bif (k11 || (!(bif ((r14_0 a0 a1 a2 a3) == (r15_0 a0 a1 a2 a3)) then ((r14_1 a0 a1 a2 a3) == (r15_1 a0 a1 a2 a3)) else false))) then
        .ret (.tv (B (bif (bif ((r14_0 a0 a1 a2 a3) == (r15_0 a0 a1 a2 a3)) then ((r14_1 a0 a1 a2 a3) == (r15_1 a0 a1 a2 a3)) else false) then r11 else false)))
      else
        .fail
    else
      .fail
  else
    .fail := by kernel_rfl
theorem has5 : Hs 5 (FT4 fun _ _ _ _ => true) := by
  refine Has.fc4 (fn := Try.f5) (((env0.more has11).more has14).more has15) (by kernel_rfl) (by kernel_rfl) (by kernel_rfl) (by kernel_rfl)
    fun (c n d m : Int) h => .run1 (e5 Tbl.none true true (fun _ _ _ _ => true) (fun c n d m => (cpRes c n d m).1) (fun c n d m => (cpRes c n d m).2) (fun _ _ _ _ => true) (fun c n d m => (cpRes c n d m).1) (fun c n d m => (cpRes c n d m).2) c n d m) ?_
  rw [cond_true, cond_true, Bool.true_or, cond_true, eqs]
  exact .ret _
theorem e8 (G : Tbl) (k11 : Bool) (r11 : Bool) (k16 : Int → Int → Int → Bool) (r16_0 : Int → Int → Int → Int) (r16_1 : Int → Int → Int → Int) (k17 : Int → Int → Int → Bool) (r17_0 : Int → Int → Int → Int) (r17_1 : Int → Int → Int → Int) (k18 : Int → Int → Int → Bool) (r18_0 : Int → Int → Int → Int) (r18_1 : Int → Int → Int → Int) (k19 : Int → Int → Int → Bool) (r19_0 : Int → Int → Int → Int) (r19_1 : Int → Int → Int → Int) (a0 : Int) (a1 : Int) (a2 : Int) :
    runL (((((G.add 11 (FC0  k11 (.tv (B r11)))).add 16 (FC3 (.int .i64) (.int .i64) (.int .i64) k16 (fun x0 x1 x2 => .tup [.tv (I (r16_0 x0 x1 x2)), .tv (I (r16_1 x0 x1 x2))]))).add 17 (FC3 (.int .i64) (.int .i64) (.int .i64) k17 (fun x0 x1 x2 => .tup [.tv (I (r17_0 x0 x1 x2)), .tv (I (r17_1 x0 x1 x2))]))).add 18 (FC3 (.int .i64) (.int .i64) (.int .i64) k18 (fun x0 x1 x2 => .tup [.tv (I (r18_0 x0 x1 x2)), .tv (I (r18_1 x0 x1 x2))]))).add 19 (FC3 (.int .i64) (.int .i64) (.int .i64) k19 (fun x0 x1 x2 => .tup [.tv (I (r19_0 x0 x1 x2)), .tv (I (r19_1 x0 x1 x2))]))) [] Try.f8 1000 (bod Try.f8) (entry [(I a0), (I a1), (I a2)]) =
  bif (k16 a0 a1 a2) then
    bif (k17 a0 a1 a2) then
      bif (k18 a0 a1 a2) then
        bif (k19 a0 a1 a2) then
          bif (k11 || (!(bif (bif (bif ((r16_0 a0 a1 a2) == (r17_0 a0 a1 a2)) then ((r16_1 a0 a1 a2) == (r17_1 a0 a1 a2)) else false) then ((r18_0 a0 a1 a2) == (r19_0 a0 a1 a2)) else false) then ((r18_1 a0 a1 a2) == (r19_1 a0 a1 a2)) else false))) then
            .ret (.tv (B (bif (bif (bif (bif ((r16_0 a0 a1 a2) == (r17_0 a0 a1 a2)) then ((r16_1 a0 a1 a2) == (r17_1 a0 a1 a2)) else false) then ((r18_0 a0 a1 a2) == (r19_0 a0 a1 a2)) else false) then ((r18_1 a0 a1 a2) == (r19_1 a0 a1 a2)) else false) then r11 else false)))
          else
            .fail
        else
          .fail
      else
        .fail
    else
      .fail
  else
    .fail := by kernel_rfl
theorem has8 : Hs 8 (FT3 fun a b _ => i64ok a && i64ok b) := by
  refine Has.fc3 (fn := Try.f8) (((((env0.more has11).more has16).more has17).more has18).more has19) (by kernel_rfl) (by kernel_rfl) (by kernel_rfl) (by kernel_rfl)
    fun (a b m : Int) h => .run1 (e8 Tbl.none true true (fun _ _ _ => true) (fun c n d => (mulRes c n d).1) (fun c n d => (mulRes c n d).2) (fun _ _ _ => true) (fun c n d => (mulRes c n d).1) (fun c n d => (mulRes c n d).2)
      (fun c r _ => i64ok c && i64ok r) (fun c r m => (mdRes c r 1000000 m).1) (fun c r m => (mdRes c r 1000000 m).2) (fun c r _ => i64ok c && i64ok r) (fun c r m => (mdRes c r 1000000 m).1) (fun c r m => (mdRes c r 1000000 m).2) a b m) ?_
  rw [h, cond_true, cond_true, cond_true, cond_true, Bool.true_or, cond_true, beq_self_eq_true, beq_self_eq_true, beq_self_eq_true, beq_self_eq_true]
  exact .ret _

/-! prorate, floor -/
def pR0 (c n d m : Int) : Int := (prRes c n d m).1
def pR1 (c n d m : Int) : Int := (prRes c n d m).2
def kR (c n d _m : Int) : Bool := i64ok c && i64ok n && i64ok d
theorem pr_floor {c a t : Int} (h1 : 0 ≤ c) (h2 : c ≤ 1000000000000000) (h3 : 1 ≤ t) (h4 : t ≤ 109573) (h5 : 0 ≤ a) (h6 : a ≤ t) : prRes c a t 0 = (((c.toNat * a.toNat / t.toNat : Nat) : Int), 0) := by
  have m0 : (!modeOk 0) = false := rfl
  have b1 : prBad c a t = false := by
    unfold prBad beyondI
    rw [decide_eq_false (show ¬ t > 109573 by omega), decide_eq_false (show ¬ a < 0 by omega), decide_eq_false (show ¬ a > t by omega), decide_eq_false (show ¬ c > 1000000000000000 by omega), decide_eq_false (show ¬ c < -1000000000000000 by omega)]
    rfl
  have b2 : mdBig c a t = false := by
    unfold mdBig absI
    rw [decide_eq_false (show ¬ ((c.natAbs : Nat) : Int) > 1000000000000000 by omega), decide_eq_false (show ¬ ((a.natAbs : Nat) : Int) > 1000000000 by omega), decide_eq_false (show ¬ ((t.natAbs : Nat) : Int) > 1000000000 by omega)]
    rfl
  have n1 : negI c a t = false := by
    unfold negI
    rw [decide_eq_false (show ¬ c < 0 by omega), decide_eq_false (show ¬ a < 0 by omega), decide_eq_false (show ¬ t < 0 by omega)]
    rfl
  have e1 : c.natAbs = c.toNat := by omega
  have e2 : a.natAbs = a.toNat := by omega
  have e3 : t.natAbs = t.toNat := by omega
  have u1 : mdU c a t 0 = c.toNat * a.toNat / t.toNat := by
    unfold mdU
    rw [n1, e1, e2, e3]
    rfl
  have hle : c.toNat * a.toNat / t.toNat ≤ c.toNat := by
    apply Nat.div_le_of_le_mul
    rw [Nat.mul_comm]
    exact Nat.mul_le_mul_right _ (by omega)
  unfold prRes mdRes
  rw [m0, b1, b2, n1, u1, decide_eq_false (show ¬ t < 1 by omega), show (t == 0) = false from beq_false_of_ne (by omega), decide_eq_false (show ¬ c.toNat * a.toNat / t.toNat > 1000000000000000 by omega)]
  rfl
theorem floors (c a b t : Nat) (ht : 0 < t) (h : a + b ≤ t) : c * a / t + c * b / t ≤ c * (a + b) / t ∧ c * (a + b) / t ≤ c * a / t + c * b / t + 1 ∧ c * (a + b) / t ≤ c := by
  have e : c * (a + b) = c * a + c * b := Nat.mul_add c a b
  have d1 := Nat.div_add_mod (c * a) t
  have d2 := Nat.div_add_mod (c * b) t
  have m1 := Nat.mod_lt (c * a) ht
  have m2 := Nat.mod_lt (c * b) ht
  refine ⟨?_, ?_, ?_⟩
  · rw [Nat.le_div_iff_mul_le ht, e, Nat.add_mul]
    have := Nat.mul_comm (c * a / t) t
    have := Nat.mul_comm (c * b / t) t
    omega
  · have : c * (a + b) / t < c * a / t + c * b / t + 2 := by
      rw [Nat.div_lt_iff_lt_mul ht, e, Nat.add_mul, Nat.add_mul]
      have := Nat.mul_comm (c * a / t) t
      have := Nat.mul_comm (c * b / t) t
      omega
    omega
  · apply Nat.div_le_of_le_mul
    rw [Nat.mul_comm]
    exact Nat.mul_le_mul_right _ h
noncomputable def c6_3 (k11 : Bool) (r11 : Bool) (k12 : Int → Int → Int → Int → Bool) (r12_0 : Int → Int → Int → Int → Int) (r12_1 : Int → Int → Int → Int → Int) (s0 : Int) (s1 : Int) (s2 : Int) (s3 : Int) : Leaf :=
  bif (k12 s0 s1 s3 0) then
    bif (k12 s0 s2 s3 0) then
      bif (k12 s0 (w (s1 + s2)) s3 0) then
        bif (bif (bif ((r12_1 s0 s1 s3 0) != 0) then true else ((r12_1 s0 s2 s3 0) != 0)) then true else ((r12_1 s0 (w (s1 + s2)) s3 0) != 0)) then
          .ret (.tv (B false))
        else
          bif (k11 || (!(bif (bif (bif (bif (decide ((w ((r12_0 s0 s1 s3 0) + (r12_0 s0 s2 s3 0))) ≤ (r12_0 s0 (w (s1 + s2)) s3 0))) then (decide ((r12_0 s0 (w (s1 + s2)) s3 0) ≤ (w ((w ((r12_0 s0 s1 s3 0) + (r12_0 s0 s2 s3 0))) + 1)))) else false) then (decide ((r12_0 s0 (w (s1 + s2)) s3 0) ≤ s0)) else false) then (decide ((r12_0 s0 s1 s3 0) ≥ 0)) else false) then (decide ((r12_0 s0 s2 s3 0) ≥ 0)) else false))) then
            .ret (.tv (B (bif (bif (bif (bif (bif (decide ((w ((r12_0 s0 s1 s3 0) + (r12_0 s0 s2 s3 0))) ≤ (r12_0 s0 (w (s1 + s2)) s3 0))) then (decide ((r12_0 s0 (w (s1 + s2)) s3 0) ≤ (w ((w ((r12_0 s0 s1 s3 0) + (r12_0 s0 s2 s3 0))) + 1)))) else false) then (decide ((r12_0 s0 (w (s1 + s2)) s3 0) ≤ s0)) else false) then (decide ((r12_0 s0 s1 s3 0) ≥ 0)) else false) then (decide ((r12_0 s0 s2 s3 0) ≥ 0)) else false) then r11 else false)))
          else
            .fail
      else
        .fail
    else
      .fail
  else
    .fail
theorem e6 (G : Tbl) (k11 : Bool) (r11 : Bool) (k12 : Int → Int → Int → Int → Bool) (r12_0 : Int → Int → Int → Int → Int) (r12_1 : Int → Int → Int → Int → Int) (a0 : Int) (a1 : Int) (a2 : Int) (a3 : Int) :
    runL ((G.add 11 (FC0  k11 (.tv (B r11)))).add 12 (FC4 (.int .i64) (.int .i64) (.int .i64) (.int .i64) k12 (fun x0 x1 x2 x3 => .tup [.tv (I (r12_0 x0 x1 x2 x3)), .tv (I (r12_1 x0 x1 x2 x3))]))) [] Try.f6 1000 (bod Try.f6) (entry [(I a0), (I a1), (I a2), (I a3)]) =
  bif (bif (bif (bif (bif (bif (bif (bif (decide (a0 < 0)) then true else (decide (a0 > 1000000000000000))) then true else (decide (a3 < 1))) then true else (decide (a3 > 109573))) then true else (decide (a1 < 0))) then true else (decide (a1 > a3))) then true else (decide (a2 < 0))) then true else (decide (a2 > (w (a3 - a1))))) then
    bif k11 then
      .ret (.tv (B r11))
    else
      .fail
  else
    c6_3 k11 r11 k12 r12_0 r12_1 a0 a1 a2 a3 := by kernel_rfl
theorem has6 : Hs 6 (FT4 fun c n _ d => i64ok c && i64ok n && i64ok d) := by
  refine Has.fc4 (fn := Try.f6) ((env0.more has11).more has12) (by kernel_rfl) (by kernel_rfl) (by kernel_rfl) (by kernel_rfl)
    fun (c a b t : Int) h => .run1 (e6 Tbl.none true true kR pR0 pR1 c a b t) ?_
  refine .bif (fun h1 => .ret _) fun h1 => ?_
  repeat rw [bor_bif] at h1
  have g8 := Bool.or_eq_false_iff.1 h1
  have g7 := Bool.or_eq_false_iff.1 g8.1
  have g6 := Bool.or_eq_false_iff.1 g7.1
  have g5 := Bool.or_eq_false_iff.1 g6.1
  have g4 := Bool.or_eq_false_iff.1 g5.1
  have g3 := Bool.or_eq_false_iff.1 g4.1
  have g2 := Bool.or_eq_false_iff.1 g3.1
  have c0 := of_decide_eq_false g2.1
  have c1 := of_decide_eq_false g2.2
  have c2 := of_decide_eq_false g3.2
  have c3 := of_decide_eq_false g4.2
  have c4 := of_decide_eq_false g5.2
  have c5 := of_decide_eq_false g6.2
  have c6 := of_decide_eq_false g7.2
  have c7 := of_decide_eq_false g8.2
  rw [show w (t - a) = t - a from wrap_id (by omega) (by omega)] at c7
  have x := pr_floor (c := c) (a := a) (t := t) (by omega) (by omega) (by omega) (by omega) (by omega) (by omega)
  have y := pr_floor (c := c) (a := b) (t := t) (by omega) (by omega) (by omega) (by omega) (by omega) (by omega)
  have z := pr_floor (c := c) (a := a + b) (t := t) (by omega) (by omega) (by omega) (by omega) (by omega) (by omega)
  have hf := floors c.toNat a.toNat b.toNat t.toNat (by omega) (by omega)
  have hab : (a + b).toNat = a.toNat + b.toNat := by omega
  rw [hab] at z
  unfold c6_3
  have ok : ∀ n : Int, n.natAbs ≤ 1000000 → kR c n t 0 = true := by
    intro n hn; unfold kR; rw [i64of (n := c) (by omega), i64of (n := n) (by omega), i64of (n := t) (by omega)]; rfl
  have wab : w (a + b) = a + b := wrap_id (by omega) (by omega)
  have x0 : pR0 c a t 0 = ((c.toNat * a.toNat / t.toNat : Nat) : Int) := congrArg Prod.fst x
  have y0 : pR0 c b t 0 = ((c.toNat * b.toNat / t.toNat : Nat) : Int) := congrArg Prod.fst y
  have z0 : pR0 c (a + b) t 0 = ((c.toNat * (a.toNat + b.toNat) / t.toNat : Nat) : Int) := congrArg Prod.fst z
  have x1 : pR1 c a t 0 = 0 := congrArg Prod.snd x
  have y1 : pR1 c b t 0 = 0 := congrArg Prod.snd y
  have z1 : pR1 c (a + b) t 0 = 0 := congrArg Prod.snd z
  rw [wab, ok a (by omega), ok b (by omega), ok (a + b) (by omega), cond_true, cond_true, cond_true, x0, y0, z0, x1, y1, z1]
  clear x y z x0 y0 z0 x1 y1 z1
  generalize c.toNat * a.toNat / t.toNat = p at *
  generalize c.toNat * b.toNat / t.toNat = q at *
  generalize c.toNat * (a.toNat + b.toNat) / t.toNat = r at *
  have w1 : w ((p : Int) + (q : Int)) = p + q := wrap_id (by omega) (by omega)
  have w2 : w ((p : Int) + (q : Int) + 1) = p + q + 1 := wrap_id (by omega) (by omega)
  rw [show ((0 : Int) != 0) = false from rfl, cond_false, cond_false]
  rw [cond_false, Bool.true_or, cond_true, w1, w2, decide_eq_true (show (p : Int) + q ≤ r by omega), decide_eq_true (show (r : Int) ≤ p + q + 1 by omega), decide_eq_true (show (r : Int) ≤ c by omega), decide_eq_true (show (p : Int) ≥ 0 by omega), decide_eq_true (show (q : Int) ≥ 0 by omega)]
  exact .ret _

/-! negation -/
def oth (m : Int) : Int := bif m == 0 then 1 else bif m == 1 then 0 else m
theorem upN_0 (q r d : Nat) (neg : Bool) : upN q r d neg 0 = (neg && decide (0 < r)) := by
  unfold upN; rw [show ((0 : Int) == 0) = true from rfl, cond_true]
theorem upN_1 (q r d : Nat) (neg : Bool) : upN q r d neg 1 = (!neg && decide (0 < r)) := by
  unfold upN; rw [show ((1 : Int) == 0) = false from rfl, show ((1 : Int) == 1) = true from rfl, cond_false, cond_true]
theorem upN_oth (q r d : Nat) (neg : Bool) {m : Int} : upN q r d (!neg) (oth m) = upN q r d neg m := by
  by_cases h0 : m = 0
  · rw [h0, show oth 0 = 1 from rfl, upN_0, upN_1, Bool.not_not]
  · by_cases h1 : m = 1
    · rw [h1, show oth 1 = 0 from rfl, upN_0, upN_1]
    · have e0 : (m == 0) = false := beq_false_of_ne h0
      have e1 : (m == 1) = false := beq_false_of_ne h1
      have eo : oth m = m := by unfold oth; rw [e0, e1, cond_false, cond_false]
      rw [eo]
      unfold upN
      rw [e0, e1, cond_false, cond_false, cond_false, cond_false]
theorem upN_zero (d : Nat) (hd : 0 < d) (neg : Bool) (m : Int) : upN 0 0 d neg m = false := by
  unfold upN
  have a1 : decide (0 < 0) = false := rfl
  have a2 : decide (d ≤ 2 * 0) = false := decide_eq_false (by omega)
  have a3 : decide (d < 2 * 0) = false := decide_eq_false (by omega)
  have a4 : decide (2 * 0 = d) = false := decide_eq_false (by omega)
  rw [a1, a2, a3, a4]
  cases neg <;> cases (m == 0) <;> cases (m == 1) <;> cases (m == 3) <;> cases (m == 4) <;> cases (m == 5) <;> rfl
theorem sgn_neg (b : Bool) (x : Int) : sgn (!b) x = -sgn b x := by
  cases b
  · rfl
  · show x = - -x; omega
theorem frRes_dz {n d m : Int} (h1 : (!modeOk m) = false) (h2 : (d == 0) = true) : frRes n d m = (0, 12) := by
  unfold frRes; rw [h1, h2, cond_false, cond_true]
theorem pair_neg (c : Bool) (x : Int) : ((bif c then ((0 : Int), (3 : Int)) else (-x, 0)).1 = -(bif c then ((0 : Int), (3 : Int)) else (x, 0)).1) ∧ (bif c then ((0 : Int), (3 : Int)) else (-x, 0)).2 = (bif c then ((0 : Int), (3 : Int)) else (x, 0)).2 := by
  cases c <;> exact ⟨rfl, rfl⟩
theorem pair_zero (b b' : Bool) : ((bif decide (0 > 1000000000) then ((0 : Int), (3 : Int)) else (sgn b' ((0 : Nat) : Int), 0)).1 = -(bif decide (0 > 1000000000) then ((0 : Int), (3 : Int)) else (sgn b ((0 : Nat) : Int), 0)).1) ∧
    (bif decide (0 > 1000000000) then ((0 : Int), (3 : Int)) else (sgn b' ((0 : Nat) : Int), 0)).2 = (bif decide (0 > 1000000000) then ((0 : Int), (3 : Int)) else (sgn b ((0 : Nat) : Int), 0)).2 := by
  rw [decide_eq_false (show ¬ (0 : Nat) > 1000000000 by omega)]
  cases b <;> cases b' <;> exact ⟨rfl, rfl⟩
theorem frU_zero {x y k : Int} (hx : x.natAbs = 0) (hy : 0 < y.natAbs) : frU x y k = 0 := by
  unfold frU up1
  rw [hx, Nat.zero_mul, Nat.zero_div, Nat.zero_mod, upN_zero _ hy]
  rfl
theorem frRes_neg {n n' d d' m : Int} (hm : (!modeOk m) = false) (hm' : (!modeOk (oth m)) = false) (hd : (d == 0) = (d' == 0)) (hb : frBad n d = false) (hb' : frBad n' d' = false) (en : n'.natAbs = n.natAbs) (ed : d'.natAbs = d.natAbs)
    (hneg : n ≠ 0 → d ≠ 0 → negI2 n' d' = !negI2 n d) : (frRes n' d' (oth m)).1 = -(frRes n d m).1 ∧ (frRes n' d' (oth m)).2 = (frRes n d m).2 := by
  by_cases h0 : d = 0
  · have e : (d == 0) = true := by rw [h0]; rfl
    have e' : (d' == 0) = true := by rw [← hd, e]
    rw [frRes_dz hm e, frRes_dz hm' e']
    exact ⟨rfl, rfl⟩
  · have e : (d == 0) = false := beq_false_of_ne h0
    have e' : (d' == 0) = false := by rw [← hd, e]
    rw [frRes_ok hm e hb, frRes_ok hm' e' hb']
    by_cases hn : n = 0
    · rw [frU_zero (x := n) (y := d) (k := m) (by omega) (by omega), frU_zero (x := n') (y := d') (k := oth m) (by omega) (by omega)]
      exact pair_zero _ _
    · have hU : frU n' d' (oth m) = frU n d m := by
        unfold frU up1
        rw [en, ed, hneg hn h0, upN_oth]
      rw [hU, hneg hn h0, sgn_neg]
      exact pair_neg _ _
theorem frRes_small (n d m : Int) : (frRes n d m).1.natAbs ≤ 1000000000 := by
  unfold frRes
  cases !modeOk m
  · cases (d == 0)
    · cases frBad n d
      · by_cases h : frU n d m > 1000000000
        · rw [decide_eq_true h]; exact Nat.zero_le _
        · rw [decide_eq_false h]
          show (sgn (negI2 n d) ((frU n d m : Nat) : Int)).natAbs ≤ _
          generalize frU n d m = u at *
          unfold sgn
          cases negI2 n d
          · show ((u : Nat) : Int).natAbs ≤ _; omega
          · show (-((u : Nat) : Int)).natAbs ≤ _; omega
      · exact Nat.zero_le _
    · exact Nat.zero_le _
  · exact Nat.zero_le _
theorem bey15 {n : Int} (h : n.natAbs ≤ 1000000000000000) : beyondI n 1000000000000000 = false := by
  unfold beyondI; rw [decide_eq_false (show ¬ n > 1000000000000000 by omega), decide_eq_false (show ¬ n < -1000000000000000 by omega)]; rfl
noncomputable def c7_8 (k9 : Int → Int → Int → Bool) (r9_0 : Int → Int → Int → Int) (r9_1 : Int → Int → Int → Int) (k11 : Bool) (r11 : Bool) (s0 : Int) (s1 : Int) (s2 : Int) (s7 : Int) : Leaf :=
  bif (k9 s0 s1 s2) then
    bif (k9 (w (0 - s0)) s1 s7) then
      bif (k9 s0 (w (0 - s1)) s7) then
        bif (k11 || (!(bif (bif (bif ((r9_0 s0 s1 s2) == (w (0 - (r9_0 (w (0 - s0)) s1 s7)))) then ((r9_0 s0 s1 s2) == (w (0 - (r9_0 s0 (w (0 - s1)) s7)))) else false) then ((r9_1 s0 s1 s2) == (r9_1 (w (0 - s0)) s1 s7)) else false) then ((r9_1 s0 s1 s2) == (r9_1 s0 (w (0 - s1)) s7)) else false))) then
          .ret (.tv (B (bif (bif (bif (bif ((r9_0 s0 s1 s2) == (w (0 - (r9_0 (w (0 - s0)) s1 s7)))) then ((r9_0 s0 s1 s2) == (w (0 - (r9_0 s0 (w (0 - s1)) s7)))) else false) then ((r9_1 s0 s1 s2) == (r9_1 (w (0 - s0)) s1 s7)) else false) then ((r9_1 s0 s1 s2) == (r9_1 s0 (w (0 - s1)) s7)) else false) then r11 else false)))
        else
          .fail
      else
        .fail
    else
      .fail
  else
    .fail
theorem e7 (G : Tbl) (k9 : Int → Int → Int → Bool) (r9_0 : Int → Int → Int → Int) (r9_1 : Int → Int → Int → Int) (k11 : Bool) (r11 : Bool) (a0 : Int) (a1 : Int) (a2 : Int) :
    runL ((G.add 9 (FC3 (.int .i64) (.int .i64) (.int .i64) k9 (fun x0 x1 x2 => .tup [.tv (I (r9_0 x0 x1 x2)), .tv (I (r9_1 x0 x1 x2))]))).add 11 (FC0  k11 (.tv (B r11)))) [] Try.f7 1000 (bod Try.f7) (entry [(I a0), (I a1), (I a2)]) =
  bif (bif (bif (bif (bif (bif (decide (a0 < (-1000000000000000))) then true else (decide (a0 > 1000000000000000))) then true else (decide (a1 < (-1000000000000000)))) then true else (decide (a1 > 1000000000000000))) then true else (decide (a2 < 0))) then true else (decide (a2 > 5))) then
    bif k11 then
      .ret (.tv (B r11))
    else
      .fail
  else
    bif (a2 == 0) then
      bif (a2 == 1) then
        c7_8 k9 r9_0 r9_1 k11 r11 a0 a1 a2 0
      else
        c7_8 k9 r9_0 r9_1 k11 r11 a0 a1 a2 1
    else
      bif (a2 == 1) then
        c7_8 k9 r9_0 r9_1 k11 r11 a0 a1 a2 0
      else
        c7_8 k9 r9_0 r9_1 k11 r11 a0 a1 a2 a2 := by kernel_rfl
theorem has7 : Hs 7 (FT3 fun _ _ _ => true) := by
  refine Has.fc3 (fn := Try.f7) ((env0.more has9).more has11) (by kernel_rfl) (by kernel_rfl) (by kernel_rfl) (by kernel_rfl)
    fun (n d m : Int) h => .run1 (e7 Tbl.none (fun _ _ _ => true) (fun n d m => (frRes n d m).1) (fun n d m => (frRes n d m).2) true true n d m) ?_
  refine .bif (fun h1 => .ret _) fun h1 => ?_
  repeat rw [bor_bif] at h1
  have g6 := Bool.or_eq_false_iff.1 h1
  have g5 := Bool.or_eq_false_iff.1 g6.1
  have g4 := Bool.or_eq_false_iff.1 g5.1
  have g3 := Bool.or_eq_false_iff.1 g4.1
  have g2 := Bool.or_eq_false_iff.1 g3.1
  have c0 := of_decide_eq_false g2.1
  have c1 := of_decide_eq_false g2.2
  have c2 := of_decide_eq_false g3.2
  have c3 := of_decide_eq_false g4.2
  have c4 := of_decide_eq_false g5.2
  have c5 := of_decide_eq_false g6.2
  have hm : (!modeOk m) = false := by
    unfold modeOk; rw [decide_eq_true (show m ≥ 0 by omega), decide_eq_true (show m ≤ 5 by omega)]; rfl
  have hm' : (!modeOk (oth m)) = false := by
    unfold oth
    cases h0 : (m == 0)
    · cases h1 : (m == 1)
      · exact hm
      · rfl
    · rfl
  have fin : ∀ G : Tbl, Goes G T Try.f7.ntmps Try.f7.results.toList (c7_8 (fun _ _ _ => true) (fun n d m => (frRes n d m).1) (fun n d m => (frRes n d m).2) true true n d m (oth m)) (.tv (B true)) := by
    intro G
    have wn : w (0 - n) = -n := by rw [Int.zero_sub]; exact wrap_id (by omega) (by omega)
    have wd : w (0 - d) = -d := by rw [Int.zero_sub]; exact wrap_id (by omega) (by omega)
    have b0 : frBad n d = false := by unfold frBad; rw [bey15 (by omega), bey15 (by omega)]; rfl
    have b1 : frBad (-n) d = false := by unfold frBad; rw [bey15 (by omega), bey15 (by omega)]; rfl
    have b2 : frBad n (-d) = false := by unfold frBad; rw [bey15 (by omega), bey15 (by omega)]; rfl
    have dz : (d == 0) = (-d == 0) := by
      by_cases h : d = 0
      · rw [h]; rfl
      · rw [beq_false_of_ne h, beq_false_of_ne (show -d ≠ 0 by omega)]
    have ng : ∀ x : Int, x ≠ 0 → decide (-x < 0) = !decide (x < 0) := by
      intro x hx
      by_cases h : x < 0
      · rw [decide_eq_true h, decide_eq_false (show ¬ -x < 0 by omega)]; rfl
      · rw [decide_eq_false h, decide_eq_true (show -x < 0 by omega)]; rfl
    obtain ⟨p1, p2⟩ := frRes_neg (n := n) (n' := -n) (d := d) (d' := d) hm hm' rfl b0 b1 (by omega) rfl (fun hn hd => by
      unfold negI2; rw [ng n hn]; cases decide (n < 0) <;> cases decide (d < 0) <;> rfl)
    obtain ⟨q1, q2⟩ := frRes_neg (n := n) (n' := n) (d := d) (d' := -d) hm hm' dz b0 b2 rfl (by omega) (fun hn hd => by
      unfold negI2; rw [ng d hd]; cases decide (n < 0) <;> cases decide (d < 0) <;> rfl)
    have sm := frRes_small n d m
    unfold c7_8
    dsimp only
    rw [cond_true, cond_true, cond_true, Bool.true_or, cond_true, wn, wd, p1, p2, q1, q2]
    have wr : w (0 - -(frRes n d m).1) = (frRes n d m).1 := by
      generalize (frRes n d m).1 = x at *
      rw [show 0 - -x = x by omega]; exact wrap_id (by omega) (by omega)
    rw [wr, beq_self_eq_true, beq_self_eq_true]
    exact .ret _
  have eo : ∀ x, oth m = x → ∀ G : Tbl, Goes G T Try.f7.ntmps Try.f7.results.toList (c7_8 (fun _ _ _ => true) (fun n d m => (frRes n d m).1) (fun n d m => (frRes n d m).2) true true n d m x) (.tv (B true)) := fun x hx => hx ▸ fin
  refine .bif (fun h2 => .bif (fun h3 => ?_) fun h3 => ?_) fun h2 => .bif (fun h3 => ?_) fun h3 => ?_
  · have e2 : m = 0 := by simpa using h2
    rw [e2] at h3; cases h3
  · exact eo 1 (by unfold oth; rw [h2]; rfl) _
  · exact eo 0 (by unfold oth; rw [h2, h3]; rfl) _
  · exact eo m (by unfold oth; rw [h2, h3]; rfl) _
end Go.Lift.L03
