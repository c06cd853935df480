/- A part of the proof that the law returns true for every input: no condition. -/
import Derived.Test.YtincaojcmkklbaaR14
set_option maxRecDepth 100000
set_option linter.unusedVariables false
set_option linter.unusedSimpArgs false
namespace Go.Lift.L03
open Go.Lift Go.Proofs

/-! Compound -/
def cpGo (r m : Int) : Nat → Int → Int × Int
  | 0, c => (c, 0)
  | k + 1, c => bif ((mdRes c r 1000000 m).2 != 0) || beyondI (c + (mdRes c r 1000000 m).1) 1000000000000000 then (0, 3) else cpGo r m k (c + (mdRes c r 1000000 m).1)
def cpBad (c r n : Int) : Bool := ((decide (n < 0) || decide (n > 120)) || beyondI c 1000000000000000) || beyondI r 1000000000
def cpRes (c r n m : Int) : Int × Int := bif !modeOk m then (0, 1) else bif cpBad c r n then (0, 3) else cpGo r m n.toNat c
def FCompound := FC4 (.int .i64) (.int .i64) (.int .i64) (.int .i64) (fun _ _ _ _ => true) fun c r n m => pr2 (cpRes c r n m)
theorem mdRes_small (c n d m : Int) : (mdRes c n d m).1.natAbs ≤ 1000000000000000 := by
  unfold mdRes
  cases !modeOk m
  · cases (d == 0)
    · cases mdBig c n d
      · by_cases h : mdU c n d m > 1000000000000000
        · rw [decide_eq_true h]; exact Nat.zero_le _
        · rw [decide_eq_false h]
          show (sgn (negI c n d) ((mdU c n d m : Nat) : Int)).natAbs ≤ _
          unfold sgn
          cases negI c n d
          · show ((mdU c n d m : Nat) : Int).natAbs ≤ _; omega
          · show (-((mdU c n d m : Nat) : Int)).natAbs ≤ _; omega
      · exact Nat.zero_le _
    · exact Nat.zero_le _
  · exact Nat.zero_le _
theorem mdRes_err {c n d m : Int} (hm : (!modeOk m) = false) (hd : (d == 0) = false) : (mdRes c n d m).2 = 0 ∨ (mdRes c n d m).2 = 3 := by
  unfold mdRes
  rw [hm, hd]
  cases mdBig c n d
  · cases decide (mdU c n d m > 1000000000000000)
    · exact .inl rfl
    · exact .inr rfl
  · exact .inr rfl
theorem w_sum {a b : Int} (ha : a.natAbs ≤ 1000000000000000) (hb : b.natAbs ≤ 1000000000000000) : w (a + b) = a + b := wrap_id (by omega) (by omega)
theorem w_inc {i : Int} (h : i.natAbs ≤ 1000000000000000) : w (i + 1) = i + 1 := wrap_id (by omega) (by omega)
theorem i64of' {n : Int} (h : n.natAbs ≤ 1000000000000000) : i64ok n = true := i64of (by omega)
noncomputable def M14 : Leaf := .loop (cAt Try.f14 [1, 1, 0, 1, 0, 0]) [.inBlock 1, .code (cAt Try.f14 [1, 1, 1])] ⟨[], []⟩
def S14 (s0 : Int) (s1 : Int) (s3 : Int) (s25 : Int) (s26 : Int) : St := ⟨[(0, .tv (I s0)), (1, .tv (I s1)), (3, .tv (I s3)), (25, .tv (I s25)), (26, .tv (I s26))], []⟩
noncomputable def c14_8  (s0 : Int) (s1 : Int) (s2 : Int) (s3 : Int) : Leaf :=
  .loop M14.body M14.kont (S14 s0 s1 s3 s2 0)
theorem i14 (G : Tbl) (k18 : Int → Int → Int → Bool) (r18_0 : Int → Int → Int → Int) (r18_1 : Int → Int → Int → Int) (k20 : Int → Bool) (r20 : Int → Bool) (k21 : Int → Int → Bool) (r21 : Int → Int → Bool) (s0 : Int) (s1 : Int) (s3 : Int) (s25 : Int) (s26 : Int) :
    runL (((G.add 18 (FC3 (.int .i64) (.int .i64) (.int .i64) k18 (fun x0 x1 x2 => .tup [.tv (I (r18_0 x0 x1 x2)), .tv (I (r18_1 x0 x1 x2))]))).add 20 (FC1 (.int .i64) k20 (fun x0 => .tv (B (r20 x0))))).add 21 (FC2 (.int .i64) (.int .i64) k21 (fun x0 x1 => .tv (B (r21 x0 x1))))) [(2, [0, 1, 3, 25, 26])] Try.f14 1000 M14.round (S14 s0 s1 s3 s25 s26) =
  bif (decide (s26 < s25)) then
    bif (k18 s0 s1 s3) then
      bif ((k21 (w (s0 + (r18_0 s0 s1 s3))) 1000000000000000) || (!(!((r18_1 s0 s1 s3) != 0)))) then
        bif (bif ((r18_1 s0 s1 s3) != 0) then true else (r21 (w (s0 + (r18_0 s0 s1 s3))) 1000000000000000)) then
          .ret (.tup [.tv (I 0), .tv (I 3)])
        else
          .loop M14.body M14.kont (S14 (w (s0 + (r18_0 s0 s1 s3))) s1 s3 s25 (w (s26 + 1)))
      else
        .fail
    else
      .fail
  else
    .ret (.tup [.tv (I s0), .tv (I 0)]) := by kernel_rfl
theorem e14 (G : Tbl) (k18 : Int → Int → Int → Bool) (r18_0 : Int → Int → Int → Int) (r18_1 : Int → Int → Int → Int) (k20 : Int → Bool) (r20 : Int → Bool) (k21 : Int → Int → Bool) (r21 : Int → Int → Bool) (a0 : Int) (a1 : Int) (a2 : Int) (a3 : Int) :
    runL (((G.add 18 (FC3 (.int .i64) (.int .i64) (.int .i64) k18 (fun x0 x1 x2 => .tup [.tv (I (r18_0 x0 x1 x2)), .tv (I (r18_1 x0 x1 x2))]))).add 20 (FC1 (.int .i64) k20 (fun x0 => .tv (B (r20 x0))))).add 21 (FC2 (.int .i64) (.int .i64) k21 (fun x0 x1 => .tv (B (r21 x0 x1))))) [(2, [0, 1, 3, 25, 26])] Try.f14 1000 (bod Try.f14) (entry [(I a0), (I a1), (I a2), (I a3)]) =
  bif (k20 a3) then
    bif (!(r20 a3)) then
      .ret (.tup [.tv (I 0), .tv (I 1)])
    else
      bif (decide (a2 < 0)) then
        bif (decide (a2 < 0)) then
          .ret (.tup [.tv (I 0), .tv (I 3)])
        else
          c14_8  a0 a1 a2 a3
      else
        bif (decide (a2 > 120)) then
          bif (decide (a2 > 120)) then
            .ret (.tup [.tv (I 0), .tv (I 3)])
          else
            c14_8  a0 a1 a2 a3
        else
          bif (k21 a0 1000000000000000) then
            bif (r21 a0 1000000000000000) then
              bif (r21 a0 1000000000000000) then
                .ret (.tup [.tv (I 0), .tv (I 3)])
              else
                c14_8  a0 a1 a2 a3
            else
              bif (k21 a1 1000000000) then
                bif (r21 a1 1000000000) then
                  .ret (.tup [.tv (I 0), .tv (I 3)])
                else
                  c14_8  a0 a1 a2 a3
              else
                .fail
          else
            .fail
  else
    .fail := by kernel_rfl
abbrev G14 : Tbl := ((Tbl.none.add 18 FApply).add 20 Fmode).add 21 Fbey
theorem loop14 (r m n : Int) (hm : (!modeOk m) = false) (hr : r.natAbs ≤ 1000000000) (hn : n ≤ 120) : ∀ (k : Nat) (c i : Int), i + k = n → 0 ≤ i → c.natAbs ≤ 1000000000000000 →
    Goes G14 T Try.f14.ntmps Try.f14.results.toList (.loop M14.body M14.kont (S14 c r m n i)) (pr2 (cpGo r m k c))
  | 0, c, i, h, _, hc => by
    refine Goes.lp' (i14 Tbl.none (fun c r _ => i64ok c && i64ok r) (fun c r m => (mdRes c r 1000000 m).1) (fun c r m => (mdRes c r 1000000 m).2) (fun _ => true) modeOk (fun _ l => limOk l) beyondI c r m n i) ?_
    rw [decide_eq_false (show ¬ i < n by omega)]
    exact .ret _
  | k + 1, c, i, h, hi, hc => by
    refine Goes.lp' (i14 Tbl.none (fun c r _ => i64ok c && i64ok r) (fun c r m => (mdRes c r 1000000 m).1) (fun c r m => (mdRes c r 1000000 m).2) (fun _ => true) modeOk (fun _ l => limOk l) beyondI c r m n i) ?_
    have hx := mdRes_small c r 1000000 m
    rw [decide_eq_true (show i < n by omega), cond_true, i64of' hc, i64of' (n := r) (by omega), Bool.true_and, cond_true, l15, Bool.true_or, cond_true, bor_bif, w_sum hc hx, w_inc (by omega)]
    unfold cpGo
    refine .bif (fun h1 => .ret' (by rw [h1]; rfl)) fun h1 => ?_
    rw [h1]
    exact loop14 r m n hm hr hn k _ _ (by omega) (by omega) (bey_no (l := 1000000000000000) (Bool.or_eq_false_iff.1 h1).2)
theorem has14 : Hs 14 FCompound := by
  refine Has.fc4 (G := G14) (fn := Try.f14) (((env0.more has18).more has20).more has21) (by kernel_rfl) (by kernel_rfl) (by kernel_rfl) (by kernel_rfl)
    fun (c r n m : Int) h => .run1 (e14 Tbl.none (fun c r _ => i64ok c && i64ok r) (fun c r m => (mdRes c r 1000000 m).1) (fun c r m => (mdRes c r 1000000 m).2) (fun _ => true) modeOk (fun _ l => limOk l) beyondI c r n m) ?_
  have bad : cpBad c r n = true → (!modeOk m) = false → pr2 (0, 3) = pr2 (cpRes c r n m) := by
    intro h1 h2; unfold cpRes; rw [h1, h2]; rfl
  have fin : cpBad c r n = false → (!modeOk m) = false → Goes G14 T Try.f14.ntmps Try.f14.results.toList (c14_8 c r n m) (pr2 (cpRes c r n m)) := by
    intro h1 h2
    unfold c14_8 cpRes
    rw [h1, h2]
    have a1 := Bool.or_eq_false_iff.1 h1
    have a2 := Bool.or_eq_false_iff.1 a1.1
    have a3 := Bool.or_eq_false_iff.1 a2.1
    have b1 := of_decide_eq_false a3.1
    have b2 := of_decide_eq_false a3.2
    exact loop14 r m n h2 (bey_no (l := 1000000000) a1.2) (by omega) n.toNat c 0 (by omega) (by omega) (bey_no (l := 1000000000000000) a2.2)
  rw [cond_true, l15, cond_true, l9, cond_true]
  refine .bif (fun h1 => .ret' (by unfold cpRes; rw [h1]; rfl)) fun h1 => .bif (fun h2 => ?_) fun h2 => .bif (fun h3 => ?_) fun h3 => .bif (fun h4 => ?_) fun h4 => .bif (fun h5 => ?_) fun h5 => ?_
  · rw [h2]; exact .ret' (bad (by unfold cpBad; rw [h2]; rfl) h1)
  · rw [h3]; exact .ret' (bad (by unfold cpBad; rw [h2, h3]; rfl) h1)
  · rw [h4]; exact .ret' (bad (by unfold cpBad; rw [h2, h3, h4]; rfl) h1)
  · exact .ret' (bad (by unfold cpBad; rw [h2, h3, h4, h5]; rfl) h1)
  · exact fin (by unfold cpBad; rw [h2, h3, h4, h5]; rfl) h1
noncomputable def M15 : Leaf := .loop (cAt Try.f15 [1, 1, 1, 0, 1, 0, 0]) [.inBlock 0, .code (cAt Try.f15 [1, 1, 1, 1])] ⟨[], []⟩
def S15 (s0 : Int) (s1 : Int) (s2 : Int) (s3 : Int) (s10 : Int) : St := ⟨[(0, .tv (I s0)), (1, .tv (I s1)), (2, .tv (I s2)), (3, .tv (I s3)), (10, .tv (I s10))], []⟩
noncomputable def c15_5  (s0 : Int) (s1 : Int) (s2 : Int) (s3 : Int) : Leaf :=
  .loop M15.body M15.kont (S15 s0 s1 s2 s3 0)
theorem i15 (G : Tbl) (k19 : Int → Int → Int → Bool) (r19_0 : Int → Int → Int → Int) (r19_1 : Int → Int → Int → Int) (k26 : Int → Int → Bool) (r26 : Int → Int → Bool) (s0 : Int) (s1 : Int) (s2 : Int) (s3 : Int) (s10 : Int) :
    runL ((G.add 19 (FC3 (.int .i64) (.int .i64) (.int .i64) k19 (fun x0 x1 x2 => .tup [.tv (I (r19_0 x0 x1 x2)), .tv (I (r19_1 x0 x1 x2))]))).add 26 (FC2 (.int .i64) (.int .i64) k26 (fun x0 x1 => .tv (B (r26 x0 x1))))) [(2, [0, 1, 2, 3, 10])] Try.f15 1000 M15.round (S15 s0 s1 s2 s3 s10) =
  bif (decide (s10 < s2)) then
    bif (k19 s0 s1 s3) then
      bif ((r19_1 s0 s1 s3) != 0) then
        .ret (.tup [.tv (I 0), .tv (I (r19_1 s0 s1 s3))])
      else
        bif (k26 (w (s0 + (r19_0 s0 s1 s3))) 1000000000000000) then
          bif (r26 (w (s0 + (r19_0 s0 s1 s3))) 1000000000000000) then
            .ret (.tup [.tv (I 0), .tv (I 3)])
          else
            .loop M15.body M15.kont (S15 (w (s0 + (r19_0 s0 s1 s3))) s1 s2 s3 (w (s10 + 1)))
        else
          .fail
    else
      .fail
  else
    .ret (.tup [.tv (I s0), .tv (I 0)]) := by kernel_rfl
theorem e15 (G : Tbl) (k19 : Int → Int → Int → Bool) (r19_0 : Int → Int → Int → Int) (r19_1 : Int → Int → Int → Int) (k26 : Int → Int → Bool) (r26 : Int → Int → Bool) (a0 : Int) (a1 : Int) (a2 : Int) (a3 : Int) :
    runL ((G.add 19 (FC3 (.int .i64) (.int .i64) (.int .i64) k19 (fun x0 x1 x2 => .tup [.tv (I (r19_0 x0 x1 x2)), .tv (I (r19_1 x0 x1 x2))]))).add 26 (FC2 (.int .i64) (.int .i64) k26 (fun x0 x1 => .tv (B (r26 x0 x1))))) [(2, [0, 1, 2, 3, 10])] Try.f15 1000 (bod Try.f15) (entry [(I a0), (I a1), (I a2), (I a3)]) =
  bif (bif (decide (a3 < 0)) then true else (decide (a3 > 5))) then
    .ret (.tup [.tv (I 0), .tv (I 1)])
  else
    bif ((k26 a0 1000000000000000) || (!(!(bif (decide (a2 < 0)) then true else (decide (a2 > 120)))))) then
      bif ((k26 a1 1000000000) || (!(!(bif (bif (decide (a2 < 0)) then true else (decide (a2 > 120))) then true else (r26 a0 1000000000000000))))) then
        bif (bif (bif (bif (decide (a2 < 0)) then true else (decide (a2 > 120))) then true else (r26 a0 1000000000000000)) then true else (r26 a1 1000000000)) then
          .ret (.tup [.tv (I 0), .tv (I 3)])
        else
          c15_5  a0 a1 a2 a3
      else
        .fail
    else
      .fail := by kernel_rfl
abbrev G15 : Tbl := (Tbl.none.add 19 FApply).add 26 Fbey
theorem loop15 (r m n : Int) (hm : (!modeOk m) = false) (hr : r.natAbs ≤ 1000000000) (hn : n ≤ 120) : ∀ (k : Nat) (c i : Int), i + k = n → 0 ≤ i → c.natAbs ≤ 1000000000000000 →
    Goes G15 T Try.f15.ntmps Try.f15.results.toList (.loop M15.body M15.kont (S15 c r n m i)) (pr2 (cpGo r m k c))
  | 0, c, i, h, _, hc => by
    refine Goes.lp' (i15 Tbl.none (fun c r _ => i64ok c && i64ok r) (fun c r m => (mdRes c r 1000000 m).1) (fun c r m => (mdRes c r 1000000 m).2) (fun _ l => limOk l) beyondI c r n m i) ?_
    rw [decide_eq_false (show ¬ i < n by omega)]
    exact .ret _
  | k + 1, c, i, h, hi, hc => by
    refine Goes.lp' (i15 Tbl.none (fun c r _ => i64ok c && i64ok r) (fun c r m => (mdRes c r 1000000 m).1) (fun c r m => (mdRes c r 1000000 m).2) (fun _ l => limOk l) beyondI c r n m i) ?_
    have hx := mdRes_small c r 1000000 m
    rw [decide_eq_true (show i < n by omega), cond_true, i64of' hc, i64of' (n := r) (by omega), Bool.true_and, cond_true, l15, cond_true, w_sum hc hx, w_inc (by omega)]
    unfold cpGo
    refine .bif (fun h1 => .ret' ?_) fun h1 => .bif (fun h2 => .ret' (by rw [h1, h2]; rfl)) fun h2 => ?_
    · have he : (mdRes c r 1000000 m).2 = 3 := by
        rcases @mdRes_err c r 1000000 m hm rfl with e | e
        · rw [e] at h1; cases h1
        · exact e
      rw [h1, he]; rfl
    · rw [h1, h2]
      exact loop15 r m n hm hr hn k _ _ (by omega) (by omega) (bey_no (l := 1000000000000000) h2)
theorem has15 : Hs 15 FCompound := by
  refine Has.fc4 (G := G15) (fn := Try.f15) ((env0.more has19).more has26) (by kernel_rfl) (by kernel_rfl) (by kernel_rfl) (by kernel_rfl)
    fun (c r n m : Int) h => .run1 (e15 Tbl.none (fun c r _ => i64ok c && i64ok r) (fun c r m => (mdRes c r 1000000 m).1) (fun c r m => (mdRes c r 1000000 m).2) (fun _ l => limOk l) beyondI c r n m) ?_
  rw [modeBad, l15, l9, Bool.true_or, Bool.true_or, bor_bif, bor_bif, bor_bif, cond_true, cond_true]
  refine .bif (fun h1 => .ret' (by unfold cpRes; rw [h1]; rfl)) fun h1 => .bif (fun h2 => .ret' ?_) fun h2 => ?_
  · have : cpBad c r n = true := h2
    unfold cpRes; rw [h1, this]; rfl
  · have h2' : cpBad c r n = false := h2
    unfold c15_5 cpRes
    rw [h1, h2']
    have a1 := Bool.or_eq_false_iff.1 h2
    have a2 := Bool.or_eq_false_iff.1 a1.1
    have a3 := Bool.or_eq_false_iff.1 a2.1
    have b1 := of_decide_eq_false a3.1
    have b2 := of_decide_eq_false a3.2
    exact loop15 r m n h1 (bey_no (l := 1000000000) a1.2) (by omega) n.toNat c 0 (by omega) (by omega) (bey_no (l := 1000000000000000) a2.2)
end Go.Lift.L03
