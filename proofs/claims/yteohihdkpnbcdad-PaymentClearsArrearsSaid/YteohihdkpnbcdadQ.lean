/- A part of the proof that the law returns true for every input: no condition. -/
import Derived.Test.YteohihdkpnbcdadP
set_option maxRecDepth 100000
set_option linter.unusedVariables false
set_option linter.unusedSimpArgs false
namespace Go.Lift.L40
open Go.Lift Go.Proofs


theorem w_eq (n : Int) : w n = (n + 9223372036854775808) % 18446744073709551616 - 9223372036854775808 := by
  show IntKind.wrap .i64 n = _
  simp [IntKind.wrap, IntKind.bits, IntKind.signed]
  split <;> omega
theorem i64w (n : Int) : i64ok (w n) = true := by
  have h := w_eq n
  have h1 : -9223372036854775808 ≤ w n := by rw [h]; omega
  have h2 : w n ≤ 9223372036854775807 := by rw [h]; omega
  exact band (decide_eq_true h1) (decide_eq_true h2)
abbrev due (b : Q4.D) : Int := b.2.1
abbrev rec_ (b : Q4.D) : Int := b.2.2.1
abbrev wai (b : Q4.D) : Int := b.2.2.2.1
abbrev mon (b : Q4.D) : Int := b.1

/-! sizes -/
def bigB (b : Q4.D) : Bool := (bif (bif (bif (bif (bif (decide (b.2.1 > 1000000000000000)) then true else (decide (b.2.1 < (-1000000000000000)))) then true else (decide (b.2.2.1 > 1000000000000000))) then true else (decide (b.2.2.1 < (-1000000000000000)))) then true else (decide (b.2.2.2.1 > 1000000000000000))) then true else (decide (b.2.2.2.1 < (-1000000000000000))))
def notBig (b : Q4.D) : Bool := !bigB b
def modV (l : List Q4.D) (st : List Int) : Bool := !(bif decide (((List.length l : Nat) : Int) > 60) then true else decide (((List.length st : Nat) : Int) > 60)) && l.all notBig
def FMod := FC2 (.slice Q4) (.slice (.int .i64)) (fun _ _ => true) fun l st => .tv (B (modV l st))
noncomputable def M54 : Leaf := .loop (cAt Try.f8 [1, 1, 0, 1, 0, 0]) [.inBlock 0, .code (cAt Try.f8 [1, 1, 1])] ⟨[], []⟩
def S54 (s0 : (List (Ty.D Q4))) (s5 : Int) : St := ⟨[(0, .tv (TD.mk (.slice (.cons (.int .i64) (.cons (.int .i64) (.cons (.int .i64) (.cons (.int .i64) (.nil)))))) s0)), (5, .tv (I s5))], []⟩
theorem i54 (G : Tbl)  (s0 : (List (Ty.D Q4))) (s5 : Int) :
    runL G [(258, [0, 5])] Try.f8 1000 M54.round (S54 s0 s5) =
  bif (decide (s5 < ((List.length s0 : Nat) : Int))) then
    bif (inB s5 (List.length s0)) then
      bif (bif (bif (bif (bif (bif (decide (((List.getD s0 (Int.toNat s5) (0, 0, 0, 0, ()))).2.1 > 1000000000000000)) then true else (decide (((List.getD s0 (Int.toNat s5) (0, 0, 0, 0, ()))).2.1 < (-1000000000000000)))) then true else (decide (((List.getD s0 (Int.toNat s5) (0, 0, 0, 0, ()))).2.2.1 > 1000000000000000))) then true else (decide (((List.getD s0 (Int.toNat s5) (0, 0, 0, 0, ()))).2.2.1 < (-1000000000000000)))) then true else (decide (((List.getD s0 (Int.toNat s5) (0, 0, 0, 0, ()))).2.2.2.1 > 1000000000000000))) then true else (decide (((List.getD s0 (Int.toNat s5) (0, 0, 0, 0, ()))).2.2.2.1 < (-1000000000000000)))) then
        .ret (.tv (B false))
      else
        .loop M54.body M54.kont (S54 s0 (w (s5 + 1)))
    else
      .fail
  else
    .ret (.tv (B true)) := by kernel_rfl
theorem e54 (G : Tbl)  (a0 : (List (Ty.D Q4))) (a1 : (List Int)) :
    runL G [(258, [0, 5])] Try.f8 1000 (bod Try.f8) (entry [(TD.mk (.slice (.cons (.int .i64) (.cons (.int .i64) (.cons (.int .i64) (.cons (.int .i64) (.nil)))))) a0), (TD.mk (.slice (.int .i64)) a1)]) =
  bif (bif (decide (((List.length a0 : Nat) : Int) > 60)) then true else (decide (((List.length a1 : Nat) : Int) > 60))) then
    .ret (.tv (B false))
  else
    .loop M54.body M54.kont (S54 a0 0) := by kernel_rfl

theorem loop54 (l : List Q4.D) (hl : l.length ≤ lenBound) : ∀ (k : Nat) (i : Nat), i + k = l.length →
    Goes Tbl.none T Try.f8.ntmps Try.f8.results.toList (.loop M54.body M54.kont (S54 l i)) (.tv (B ((l.drop i).all notBig)))
  | 0, i, h => by
    refine Goes.lp' (i54 Tbl.none l i) ?_
    rw [decide_eq_false (show ¬ (i : Int) < ((l.length : Nat) : Int) by omega), drop_end (by omega)]
    exact .ret _
  | k + 1, i, h => by
    refine Goes.lp' (i54 Tbl.none l i) ?_
    have hi : (i : Int) < ((l.length : Nat) : Int) := by omega
    rw [decide_eq_true hi, cond_true, toNat_lt (by omega) hi, cond_true, w_step (by omega) hi hl, Int.toNat_natCast, drop_cons l (0, 0, 0, 0, ()) i (by omega), List.all_cons]
    generalize l.getD i (0, 0, 0, 0, ()) = b
    show Goes _ _ _ _ (bif bigB b then _ else _) (.tv (B (!bigB b && _)))
    refine .bif (fun g => .ret' (by rw [g]; rfl)) fun g => ?_
    rw [g, Bool.not_false, Bool.true_and]
    exact loop54 l hl k (i + 1) (by omega)
theorem has54 : Hs 8 FMod := by
  refine Has.fc2 (fn := Try.f8) env0 (by kernel_rfl) (by kernel_rfl) (by kernel_rfl) (by kernel_rfl) fun (l : List Q4.D) (st : List Int) _ => .run1 (e54 Tbl.none l st) ?_
  unfold modV
  refine .bif (fun g => .ret' (by rw [g]; rfl)) fun g => ?_
  rw [g, Bool.not_false, Bool.true_and]
  rw [bor_bif] at g
  have := of_decide_eq_false (Bool.or_eq_false_iff.1 g).1
  exact loop54 l (by unfold lenBound; omega) l.length 0 (by omega)
theorem mod_spec {l : List Q4.D} {st : List Int} (h : modV l st = true) : l.length ≤ 60 ∧ st.length ≤ 60 ∧ ∀ b ∈ l, -1000000000000000 ≤ due b ∧ due b ≤ 1000000000000000 ∧ -1000000000000000 ≤ rec_ b ∧ rec_ b ≤ 1000000000000000 ∧ -1000000000000000 ≤ wai b ∧ wai b ≤ 1000000000000000 := by
  unfold modV at h
  rw [Bool.and_eq_true, Bool.not_eq_true', bor_bif] at h
  obtain ⟨h1, h2⟩ := h
  have g := Bool.or_eq_false_iff.1 h1
  have a := of_decide_eq_false g.1
  have b := of_decide_eq_false g.2
  refine ⟨by omega, by omega, fun x hx => ?_⟩
  have := List.all_eq_true.1 h2 x hx
  unfold notBig bigB at this
  rw [Bool.not_eq_true', bor_bif, bor_bif, bor_bif, bor_bif, bor_bif] at this
  simp only [Bool.or_eq_false_iff, decide_eq_false_iff_not] at this
  obtain ⟨⟨⟨⟨⟨c1, c2⟩, c3⟩, c4⟩, c5⟩, c6⟩ := this
  have c1 : ¬ due x > 1000000000000000 := c1
  have c2 : ¬ due x < -1000000000000000 := c2
  have c3 : ¬ rec_ x > 1000000000000000 := c3
  have c4 : ¬ rec_ x < -1000000000000000 := c4
  have c5 : ¬ wai x > 1000000000000000 := c5
  have c6 : ¬ wai x < -1000000000000000 := c6
  omega
def smC (c : Conf.D) : Bool := decide (((List.length c.2.2.2.2.2.2.2.1.2.1 : Nat) : Int) ≤ 70)
def FSmC := FC1 Conf (fun _ => true) fun c => .tv (B (smC c))
theorem e55 (G : Tbl)  (a0 : (Ty.D Conf)) :
    runL G [] Try.f9 1000 (bod Try.f9) (entry [(TD.mk Conf a0)]) =
  .ret (.tv (B (decide (((List.length a0.2.2.2.2.2.2.2.1.2.1 : Nat) : Int) ≤ 70)))) := by kernel_rfl

theorem has55 : Hs 9 FSmC := Has.fc1 (fn := Try.f9) env0 (by kernel_rfl) (by kernel_rfl) (by kernel_rfl) (by kernel_rfl) fun c _ => .run1 (e55 Tbl.none c) (.ret _)

/-! clean balances -/
def negB (b : Q4.D) : Bool := (bif (bif (decide (b.2.1 < 0)) then true else (decide (b.2.2.1 < 0))) then true else (decide (b.2.2.2.1 < 0)))
def cleanG (l : List Q4.D) : Nat → List Q4.D → Bool
  | _, [] => true
  | i, b :: r => bif negB b then false else bif (l.take i).any (fun x => x.1 == b.1) then false else cleanG l (i + 1) r
def FClean := FC1 (.slice Q4) (fun l => lenOK (List.length l)) fun l => .tv (B (cleanG l 0 l))
noncomputable def M63 : Leaf := .loop (cAt Try.f19 [1, 0, 1, 0, 0]) [.inBlock 0, .code (cAt Try.f19 [1, 1])] ⟨[], []⟩
def S63 (s0 : (List (Ty.D Q4))) (s3 : Int) : St := ⟨[(0, .tv (TD.mk (.slice (.cons (.int .i64) (.cons (.int .i64) (.cons (.int .i64) (.cons (.int .i64) (.nil)))))) s0)), (3, .tv (I s3))], []⟩
noncomputable def M63a : Leaf := .loop (cAt Try.f19 [1, 0, 1, 0, 0, 1, 0, 0, 1, 1, 0, 0]) [.inBlock 2, .inBlock 1, .code (cAt Try.f19 [1, 0, 1, 0, 0, 1, 1]), .inLoop (cAt Try.f19 [1, 0, 1, 0, 0]), .inBlock 0, .code (cAt Try.f19 [1, 1])] ⟨[], []⟩
def S63a (s0 : (List (Ty.D Q4))) (s3 : Int) (s4 : Int) : St := ⟨[(0, .tv (TD.mk (.slice (.cons (.int .i64) (.cons (.int .i64) (.cons (.int .i64) (.cons (.int .i64) (.nil)))))) s0)), (3, .tv (I s3)), (4, .tv (I s4))], []⟩
theorem i63 (G : Tbl)  (s0 : (List (Ty.D Q4))) (s3 : Int) :
    runL G [(130, [0, 3]), (454, [0, 3, 4])] Try.f19 1000 M63.round (S63 s0 s3) =
  bif (decide (s3 < ((List.length s0 : Nat) : Int))) then
    bif (inB s3 (List.length s0)) then
      bif ((inB s3 (List.length s0)) || (!(!(decide (((List.getD s0 (Int.toNat s3) (0, 0, 0, 0, ()))).2.1 < 0))))) then
        bif ((inB s3 (List.length s0)) || (!(!(bif (decide (((List.getD s0 (Int.toNat s3) (0, 0, 0, 0, ()))).2.1 < 0)) then true else (decide (((List.getD s0 (Int.toNat s3) (0, 0, 0, 0, ()))).2.2.1 < 0)))))) then
          bif (bif (bif (decide (((List.getD s0 (Int.toNat s3) (0, 0, 0, 0, ()))).2.1 < 0)) then true else (decide (((List.getD s0 (Int.toNat s3) (0, 0, 0, 0, ()))).2.2.1 < 0))) then true else (decide (((List.getD s0 (Int.toNat s3) (0, 0, 0, 0, ()))).2.2.2.1 < 0))) then
            .ret (.tv (B false))
          else
            .loop M63a.body M63a.kont (S63a s0 s3 0)
        else
          .fail
      else
        .fail
    else
      .fail
  else
    .ret (.tv (B true)) := by kernel_rfl
theorem i63a (G : Tbl)  (s0 : (List (Ty.D Q4))) (s3 : Int) (s4 : Int) :
    runL G [(130, [0, 3]), (454, [0, 3, 4])] Try.f19 1000 M63a.round (S63a s0 s3 s4) =
  bif (decide (s4 < s3)) then
    bif (inB s4 (List.length s0)) then
      bif (inB s3 (List.length s0)) then
        bif ((((List.getD s0 (Int.toNat s4) (0, 0, 0, 0, ()))).1) == (((List.getD s0 (Int.toNat s3) (0, 0, 0, 0, ()))).1)) then
          .ret (.tv (B false))
        else
          .loop M63a.body M63a.kont (S63a s0 s3 (w (s4 + 1)))
      else
        .fail
    else
      .fail
  else
    .loop M63.body M63.kont (S63 s0 (w (s3 + 1))) := by kernel_rfl
theorem e63 (G : Tbl)  (a0 : (List (Ty.D Q4))) :
    runL G [(130, [0, 3]), (454, [0, 3, 4])] Try.f19 1000 (bod Try.f19) (entry [(TD.mk (.slice (.cons (.int .i64) (.cons (.int .i64) (.cons (.int .i64) (.cons (.int .i64) (.nil)))))) a0)]) =
  .loop M63.body M63.kont (S63 a0 0) := by kernel_rfl

abbrev Go63 (L : Leaf) (r : Bool) : Prop := Goes Tbl.none T Try.f19.ntmps Try.f19.results.toList L (.tv (B r))
theorem in63 (l : List Q4.D) (hl : l.length ≤ lenBound) (i : Nat) (hi : i < l.length) (b : Q4.D) (hb : l.getD i (0, 0, 0, 0, ()) = b) (r : Bool) (h : Go63 (.loop M63.body M63.kont (S63 l ((i + 1 : Nat) : Int))) r) : ∀ (n j : Nat), j + n = i →
    Go63 (.loop M63a.body M63a.kont (S63a l i j)) (bif ((l.take i).drop j).any (fun x => x.1 == b.1) then false else r)
  | 0, j, hj => by
    have hil : (i : Int) < ((l.length : Nat) : Int) := by omega
    refine Goes.lp' (i63a Tbl.none l i j) ?_
    rw [decide_eq_false (show ¬ (j : Int) < (i : Int) by omega), cond_false, w_step (by omega) hil hl, drop_end (l := l.take i) (by rw [List.length_take]; omega)]
    exact h
  | n + 1, j, hj => by
    have hil : (i : Int) < ((l.length : Nat) : Int) := by omega
    have hjl : (j : Int) < ((l.length : Nat) : Int) := by omega
    refine Goes.lp' (i63a Tbl.none l i j) ?_
    have e : (l.take i).getD j (0, 0, 0, 0, ()) = l.getD j (0, 0, 0, 0, ()) := by
      rw [List.getD, List.getD, List.getElem?_take_of_lt (by omega)]
    rw [decide_eq_true (show (j : Int) < (i : Int) by omega), cond_true, toNat_lt (by omega) hjl, cond_true, toNat_lt (by omega) hil, cond_true, Int.toNat_natCast, Int.toNat_natCast, hb, w_step (by omega) hjl hl,
      drop_cons (l.take i) (0, 0, 0, 0, ()) j (by rw [List.length_take]; omega), List.any_cons, e]
    refine .bif (fun g => .ret' (by rw [g]; rfl)) fun g => ?_
    rw [g, Bool.false_or]
    exact in63 l hl i hi b hb r h n (j + 1) (by omega)
theorem loop63 (l : List Q4.D) (hl : l.length ≤ lenBound) : ∀ (k i : Nat), i + k = l.length → Go63 (.loop M63.body M63.kont (S63 l i)) (cleanG l i (l.drop i))
  | 0, i, h => by
    refine Goes.lp' (i63 Tbl.none l i) ?_
    rw [decide_eq_false (show ¬ (i : Int) < ((l.length : Nat) : Int) by omega), drop_end (by omega)]
    exact .ret _
  | k + 1, i, h => by
    refine Goes.lp' (i63 Tbl.none l i) ?_
    have hi : (i : Int) < ((l.length : Nat) : Int) := by omega
    rw [decide_eq_true hi, cond_true, toNat_lt (by omega) hi, Int.toNat_natCast, drop_cons l (0, 0, 0, 0, ()) i (by omega)]
    simp only [Bool.true_or, cond_true]
    generalize hb : l.getD i (0, 0, 0, 0, ()) = b
    unfold cleanG
    show Go63 (bif negB b then _ else _) _
    refine .bif (fun g => .ret' (by rw [g]; rfl)) fun g => ?_
    rw [g, cond_false]
    exact in63 l hl i (by omega) b hb _ (loop63 l hl k (i + 1) (by omega)) i 0 (by omega)
theorem has63 : Hs 19 FClean := by
  refine Has.fc1 (fn := Try.f19) env0 (by kernel_rfl) (by kernel_rfl) (by kernel_rfl) (by kernel_rfl) fun (l : List Q4.D) h => .run1 (e63 Tbl.none l) ?_
  exact loop63 l (lenOK_spec h) l.length 0 (by omega)
theorem clean_spec (l : List Q4.D) : ∀ (r : List Q4.D) (i : Nat), l.drop i = r → cleanG l i r = true → (∀ b ∈ r, 0 ≤ due b ∧ 0 ≤ rec_ b ∧ 0 ≤ wai b) ∧ (r.map mon).Nodup ∧ ∀ b ∈ r, ∀ x ∈ l.take i, mon x ≠ mon b
  | [], i, _, _ => ⟨fun b h => by simp at h, List.nodup_nil, fun b h => by simp at h⟩
  | b :: r, i, hd, h => by
    have hi : i < l.length := by
      rcases Nat.lt_or_ge i l.length with h | h
      · exact h
      · rw [drop_end h] at hd; simp at hd
    have hd' := hd
    rw [drop_cons l (0, 0, 0, 0, ()) i hi] at hd'
    simp only [List.cons.injEq] at hd'
    unfold cleanG at h
    cases hn : negB b
    · rw [hn, cond_false] at h
      cases ha : (l.take i).any (fun x => x.1 == b.1)
      · rw [ha, cond_false] at h
        obtain ⟨h1, h2, h3⟩ := clean_spec l r (i + 1) hd'.2 h
        unfold negB at hn
        rw [bor_bif, bor_bif] at hn
        simp only [Bool.or_eq_false_iff, decide_eq_false_iff_not] at hn
        obtain ⟨⟨c1, c2⟩, c3⟩ := hn
        have c1 : ¬ due b < 0 := c1
        have c2 : ¬ rec_ b < 0 := c2
        have c3 : ¬ wai b < 0 := c3
        have hti : l.take (i + 1) = l.take i ++ [b] := by
          rw [List.take_add_one, List.getElem?_eq_getElem hi]
          have : l[i] = b := by rw [← hd'.1, List.getD, List.getElem?_eq_getElem hi]; rfl
          rw [this]; rfl
        rw [hti] at h3
        rw [List.any_eq_false] at ha
        refine ⟨fun x hx => ?_, ?_, fun x hx y hy => ?_⟩
        · rcases List.mem_cons.1 hx with rfl | hx
          · omega
          · exact h1 x hx
        · rw [List.map_cons, List.nodup_cons]
          refine ⟨fun hm => ?_, h2⟩
          obtain ⟨x, hx, e⟩ := List.mem_map.1 hm
          exact h3 x hx b (by simp) e.symm
        · rcases List.mem_cons.1 hx with rfl | hx
          · have := ha y hy; simpa using this
          · exact h3 x hx y (List.mem_append.2 (.inl hy))
      · rw [ha, cond_true] at h; cases h
    · rw [hn, cond_true] at h; cases h

/-! cash -/
def cashG : List Q4.D → Int → Int
  | [], n => n
  | b :: r, n => cashG r (bif b.2.2.1 == 1 then w (n + b.2.2.2.1) else bif b.2.2.1 == 2 then w (n - b.2.2.2.1) else n)
def cashV (l : List Q4.D) : Int := cashG l 0
def lnK (l : List Q4.D) : Bool := lenOK l.length
def FCash := FC1 (.slice Q4) lnK fun l => .tv (I (cashV l))
noncomputable def M59 : Leaf := .loop (cAt Try.f14 [1, 1, 0, 1, 0, 0]) [.inBlock 0, .code (cAt Try.f14 [1, 1, 1])] ⟨[], []⟩
def S59 (s3 : Int) (s6 : (List (Ty.D Q4))) (s7 : Int) (s8 : Int) : St := ⟨[(3, .tv (I s3)), (6, .tv (TD.mk (.slice (.cons (.int .i64) (.cons (.int .i64) (.cons (.int .i64) (.cons (.int .i64) (.nil)))))) s6)), (7, .tv (I s7)), (8, .tv (I s8))], []⟩
theorem i59 (G : Tbl)  (s3 : Int) (s6 : (List (Ty.D Q4))) (s7 : Int) (s8 : Int) :
    runL G [(194, [3, 6, 7, 8])] Try.f14 1000 M59.round (S59 s3 s6 s7 s8) =
  bif (decide (s8 < s7)) then
    bif (inB s8 (List.length s6)) then
      bif ((((List.getD s6 (Int.toNat s8) (0, 0, 0, 0, ()))).2.2.1) == 1) then
        .loop M59.body M59.kont (S59 (w (s3 + (((List.getD s6 (Int.toNat s8) (0, 0, 0, 0, ()))).2.2.2.1))) s6 s7 (w (s8 + 1)))
      else
        bif ((((List.getD s6 (Int.toNat s8) (0, 0, 0, 0, ()))).2.2.1) == 2) then
          .loop M59.body M59.kont (S59 (w (s3 - (((List.getD s6 (Int.toNat s8) (0, 0, 0, 0, ()))).2.2.2.1))) s6 s7 (w (s8 + 1)))
        else
          .loop M59.body M59.kont (S59 s3 s6 s7 (w (s8 + 1)))
    else
      .fail
  else
    .ret (.tv (I s3)) := by kernel_rfl
theorem e59 (G : Tbl)  (a0 : (List (Ty.D Q4))) :
    runL G [(194, [3, 6, 7, 8])] Try.f14 1000 (bod Try.f14) (entry [(TD.mk (.slice (.cons (.int .i64) (.cons (.int .i64) (.cons (.int .i64) (.cons (.int .i64) (.nil)))))) a0)]) =
  .loop M59.body M59.kont (S59 0 a0 ((List.length a0 : Nat) : Int) 0) := by kernel_rfl
noncomputable def M60 : Leaf := .loop (cAt Try.f15 [1, 1, 0, 1, 0, 0]) [.inBlock 0, .code (cAt Try.f15 [1, 1, 1])] ⟨[], []⟩
def S60 (s0 : (List (Ty.D Q4))) (s3 : Int) (s4 : Int) : St := ⟨[(0, .tv (TD.mk (.slice (.cons (.int .i64) (.cons (.int .i64) (.cons (.int .i64) (.cons (.int .i64) (.nil)))))) s0)), (3, .tv (I s3)), (4, .tv (I s4))], []⟩
theorem i60 (G : Tbl)  (s0 : (List (Ty.D Q4))) (s3 : Int) (s4 : Int) :
    runL G [(194, [0, 3, 4])] Try.f15 1000 M60.round (S60 s0 s3 s4) =
  bif (decide (s4 < ((List.length s0 : Nat) : Int))) then
    bif (inB s4 (List.length s0)) then
      bif ((((List.getD s0 (Int.toNat s4) (0, 0, 0, 0, ()))).2.2.1) == 1) then
        bif (inB s4 (List.length s0)) then
          bif (inB s4 (List.length s0)) then
            bif ((((List.getD s0 (Int.toNat s4) (0, 0, 0, 0, ()))).2.2.1) == 2) then
              bif (inB s4 (List.length s0)) then
                .loop M60.body M60.kont (S60 s0 (w ((w (s3 + (((List.getD s0 (Int.toNat s4) (0, 0, 0, 0, ()))).2.2.2.1))) - (((List.getD s0 (Int.toNat s4) (0, 0, 0, 0, ()))).2.2.2.1))) (w (s4 + 1)))
              else
                .fail
            else
              .loop M60.body M60.kont (S60 s0 (w (s3 + (((List.getD s0 (Int.toNat s4) (0, 0, 0, 0, ()))).2.2.2.1))) (w (s4 + 1)))
          else
            .fail
        else
          .fail
      else
        bif (inB s4 (List.length s0)) then
          bif ((((List.getD s0 (Int.toNat s4) (0, 0, 0, 0, ()))).2.2.1) == 2) then
            bif (inB s4 (List.length s0)) then
              .loop M60.body M60.kont (S60 s0 (w (s3 - (((List.getD s0 (Int.toNat s4) (0, 0, 0, 0, ()))).2.2.2.1))) (w (s4 + 1)))
            else
              .fail
          else
            .loop M60.body M60.kont (S60 s0 s3 (w (s4 + 1)))
        else
          .fail
    else
      .fail
  else
    .ret (.tv (I s3)) := by kernel_rfl
theorem e60 (G : Tbl)  (a0 : (List (Ty.D Q4))) :
    runL G [(194, [0, 3, 4])] Try.f15 1000 (bod Try.f15) (entry [(TD.mk (.slice (.cons (.int .i64) (.cons (.int .i64) (.cons (.int .i64) (.cons (.int .i64) (.nil)))))) a0)]) =
  .loop M60.body M60.kont (S60 a0 0 0) := by kernel_rfl

theorem loop59 (l : List Q4.D) (hl : l.length ≤ lenBound) : ∀ (k i : Nat) (n : Int), i + k = l.length →
    Goes Tbl.none T Try.f14.ntmps Try.f14.results.toList (.loop M59.body M59.kont (S59 n l ((l.length : Nat) : Int) i)) (.tv (I (cashG (l.drop i) n)))
  | 0, i, n, h => by
    refine Goes.lp' (i59 Tbl.none n l _ i) ?_
    rw [decide_eq_false (show ¬ (i : Int) < ((l.length : Nat) : Int) by omega), drop_end (by omega)]
    exact .ret _
  | k + 1, i, n, h => by
    refine Goes.lp' (i59 Tbl.none n l _ i) ?_
    have hi : (i : Int) < ((l.length : Nat) : Int) := by omega
    rw [decide_eq_true hi, cond_true, toNat_lt (by omega) hi, cond_true, w_step (by omega) hi hl, Int.toNat_natCast, drop_cons l (0, 0, 0, 0, ()) i (by omega)]
    generalize l.getD i (0, 0, 0, 0, ()) = b
    unfold cashG
    refine .bif (fun g => ?_) fun g => ?_
    · rw [g, cond_true]; exact loop59 l hl k (i + 1) _ (by omega)
    · rw [g, cond_false]
      refine .bif (fun g => ?_) fun g => ?_
      · rw [g, cond_true]; exact loop59 l hl k (i + 1) _ (by omega)
      · rw [g, cond_false]; exact loop59 l hl k (i + 1) _ (by omega)
theorem has59 : Hs 14 FCash := by
  refine Has.fc1 (fn := Try.f14) env0 (by kernel_rfl) (by kernel_rfl) (by kernel_rfl) (by kernel_rfl) fun (l : List Q4.D) h => .run1 (e59 Tbl.none l) ?_
  exact loop59 l (lenOK_spec h) l.length 0 0 (by omega)
theorem loop60 (l : List Q4.D) (hl : l.length ≤ lenBound) : ∀ (k i : Nat) (n : Int), i + k = l.length →
    Goes Tbl.none T Try.f15.ntmps Try.f15.results.toList (.loop M60.body M60.kont (S60 l n i)) (.tv (I (cashG (l.drop i) n)))
  | 0, i, n, h => by
    refine Goes.lp' (i60 Tbl.none l n i) ?_
    rw [decide_eq_false (show ¬ (i : Int) < ((l.length : Nat) : Int) by omega), drop_end (by omega)]
    exact .ret _
  | k + 1, i, n, h => by
    refine Goes.lp' (i60 Tbl.none l n i) ?_
    have hi : (i : Int) < ((l.length : Nat) : Int) := by omega
    rw [decide_eq_true hi, cond_true, toNat_lt (by omega) hi, w_step (by omega) hi hl, Int.toNat_natCast, drop_cons l (0, 0, 0, 0, ()) i (by omega)]
    generalize l.getD i (0, 0, 0, 0, ()) = b
    simp only [cond_true]
    unfold cashG
    by_cases h1 : b.2.2.1 = 1
    · rw [h1]
      show Goes _ _ _ _ (.loop M60.body M60.kont (S60 l (w (n + b.2.2.2.1)) ((i : Int) + 1))) _
      exact loop60 l hl k (i + 1) _ (by omega)
    · rw [beq_false_of_ne h1, cond_false, cond_false]
      refine .bif (fun g => ?_) fun g => ?_
      · rw [g, cond_true]; exact loop60 l hl k (i + 1) _ (by omega)
      · rw [g, cond_false]; exact loop60 l hl k (i + 1) _ (by omega)
theorem has60 : Hs 15 FCash := by
  refine Has.fc1 (fn := Try.f15) env0 (by kernel_rfl) (by kernel_rfl) (by kernel_rfl) (by kernel_rfl) fun (l : List Q4.D) h => .run1 (e60 Tbl.none l) ?_
  exact loop60 l (lenOK_spec h) l.length 0 0 (by omega)

/-! what is received -/
def rcG (m : Int) : List Q4.D → Int → Int
  | [], n => n
  | x :: r, n => rcG m r (bif (bif x.2.1 == m then x.2.2.1 == 1 else false) then w (n + x.2.2.2.1) else bif (bif x.2.1 == m then x.2.2.1 == 2 else false) then w (n - x.2.2.2.1) else n)
def rcV (b : Q4.D) (p : List Q4.D) : Int := rcG b.1 p b.2.2.1
def rcK (_b : Q4.D) (p : List Q4.D) : Bool := lenOK p.length
def FRc := FC2 Q4 (.slice Q4) rcK fun b p => .tv (I (rcV b p))
noncomputable def M64 : Leaf := .loop (cAt Try.f20 [1, 1, 0, 1, 0, 0]) [.inBlock 0, .code (cAt Try.f20 [1, 1, 1])] ⟨[], []⟩
def S64 (s1 : (List (Ty.D Q4))) (s5 : Int) (s6 : Int) (b2 : (Ty.D Q4)) : St := ⟨[(1, .tv (TD.mk (.slice (.cons (.int .i64) (.cons (.int .i64) (.cons (.int .i64) (.cons (.int .i64) (.nil)))))) s1)), (2, .ptr 2 none []), (5, .tv (I s5)), (6, .tv (I s6))], [(2, .var (TD.mk Q4 b2))]⟩
theorem i64 (G : Tbl)  (s1 : (List (Ty.D Q4))) (s5 : Int) (s6 : Int) (b2 : (Ty.D Q4)) :
    runL G [(194, [1, 2, 5, 6])] Try.f20 1000 M64.round (S64 s1 s5 s6 b2) =
  bif (decide (s6 < ((List.length s1 : Nat) : Int))) then
    bif (inB s6 (List.length s1)) then
      bif ((inB s6 (List.length s1)) || (!((((List.getD s1 (Int.toNat s6) (0, 0, 0, 0, ()))).2.1) == b2.1))) then
        bif (bif ((((List.getD s1 (Int.toNat s6) (0, 0, 0, 0, ()))).2.1) == b2.1) then ((((List.getD s1 (Int.toNat s6) (0, 0, 0, 0, ()))).2.2.1) == 1) else false) then
          bif (inB s6 (List.length s1)) then
            bif (inB s6 (List.length s1)) then
              bif ((inB s6 (List.length s1)) || (!((((List.getD s1 (Int.toNat s6) (0, 0, 0, 0, ()))).2.1) == b2.1))) then
                bif (bif ((((List.getD s1 (Int.toNat s6) (0, 0, 0, 0, ()))).2.1) == b2.1) then ((((List.getD s1 (Int.toNat s6) (0, 0, 0, 0, ()))).2.2.1) == 2) else false) then
                  bif (inB s6 (List.length s1)) then
                    .loop M64.body M64.kont (S64 s1 (w ((w (s5 + (((List.getD s1 (Int.toNat s6) (0, 0, 0, 0, ()))).2.2.2.1))) - (((List.getD s1 (Int.toNat s6) (0, 0, 0, 0, ()))).2.2.2.1))) (w (s6 + 1)) b2)
                  else
                    .fail
                else
                  .loop M64.body M64.kont (S64 s1 (w (s5 + (((List.getD s1 (Int.toNat s6) (0, 0, 0, 0, ()))).2.2.2.1))) (w (s6 + 1)) b2)
              else
                .fail
            else
              .fail
          else
            .fail
        else
          bif (inB s6 (List.length s1)) then
            bif ((inB s6 (List.length s1)) || (!((((List.getD s1 (Int.toNat s6) (0, 0, 0, 0, ()))).2.1) == b2.1))) then
              bif (bif ((((List.getD s1 (Int.toNat s6) (0, 0, 0, 0, ()))).2.1) == b2.1) then ((((List.getD s1 (Int.toNat s6) (0, 0, 0, 0, ()))).2.2.1) == 2) else false) then
                bif (inB s6 (List.length s1)) then
                  .loop M64.body M64.kont (S64 s1 (w (s5 - (((List.getD s1 (Int.toNat s6) (0, 0, 0, 0, ()))).2.2.2.1))) (w (s6 + 1)) b2)
                else
                  .fail
              else
                .loop M64.body M64.kont (S64 s1 s5 (w (s6 + 1)) b2)
            else
              .fail
          else
            .fail
      else
        .fail
    else
      .fail
  else
    .ret (.tv (I s5)) := by kernel_rfl
theorem e64 (G : Tbl)  (a0 : (Ty.D Q4)) (a1 : (List (Ty.D Q4))) :
    runL G [(194, [1, 2, 5, 6])] Try.f20 1000 (bod Try.f20) (entry [(TD.mk Q4 a0), (TD.mk (.slice (.cons (.int .i64) (.cons (.int .i64) (.cons (.int .i64) (.cons (.int .i64) (.nil)))))) a1)]) =
  .loop M64.body M64.kont (S64 a1 a0.2.2.1 0 a0) := by kernel_rfl

theorem loop64 (b : Q4.D) (l : List Q4.D) (hl : l.length ≤ lenBound) : ∀ (k i : Nat) (n : Int), i + k = l.length →
    Goes Tbl.none T Try.f20.ntmps Try.f20.results.toList (.loop M64.body M64.kont (S64 l n i b)) (.tv (I (rcG b.1 (l.drop i) n)))
  | 0, i, n, h => by
    refine Goes.lp' (i64 Tbl.none l n i b) ?_
    rw [decide_eq_false (show ¬ (i : Int) < ((l.length : Nat) : Int) by omega), drop_end (by omega)]
    exact .ret _
  | k + 1, i, n, h => by
    refine Goes.lp' (i64 Tbl.none l n i b) ?_
    have hi : (i : Int) < ((l.length : Nat) : Int) := by omega
    rw [decide_eq_true hi, cond_true, toNat_lt (by omega) hi, w_step (by omega) hi hl, Int.toNat_natCast, drop_cons l (0, 0, 0, 0, ()) i (by omega)]
    generalize l.getD i (0, 0, 0, 0, ()) = x
    simp only [Bool.true_or, cond_true]
    unfold rcG
    cases hm : x.2.1 == b.1
    · simp only [cond_false]; exact loop64 b l hl k (i + 1) _ (by omega)
    · simp only [cond_true]
      by_cases h1 : x.2.2.1 = 1
      · rw [h1]
        show Goes _ _ _ _ (.loop M64.body M64.kont (S64 l (w (n + x.2.2.2.1)) ((i : Int) + 1) b)) _
        exact loop64 b l hl k (i + 1) _ (by omega)
      · rw [beq_false_of_ne h1, cond_false, cond_false]
        refine .bif (fun g => ?_) fun g => ?_
        · rw [g, cond_true]; exact loop64 b l hl k (i + 1) _ (by omega)
        · rw [g, cond_false]; exact loop64 b l hl k (i + 1) _ (by omega)
theorem has64 : Hs 20 FRc := by
  refine Has.fc2 (fn := Try.f20) env0 (by kernel_rfl) (by kernel_rfl) (by kernel_rfl) (by kernel_rfl) fun (b : Q4.D) (l : List Q4.D) h => .run1 (e64 Tbl.none b l) ?_
  exact loop64 b l (lenOK_spec h) l.length 0 _ (by omega)
end Go.Lift.L40
set_option maxRecDepth 100000
set_option linter.unusedVariables false
set_option linter.unusedSimpArgs false
namespace Go.Lift.L40
open Go.Lift Go.Proofs


/-! payments -/
def payB (to : Int) (b : Q4.D) : Bool := bif decide (b.1 ≤ to) then decide (arrV b > 0) else false
def payP (d : Int) (b : Q4.D) : Q4.D := (d, b.1, 1, arrV b, ())
def payG (to d : Int) : List Q4.D → Int → List Q4.D → List Q4.D × Int
  | [], s, out => (out, s)
  | b :: r, s, out => bif payB to b then payG to d r (w (s + arrV b)) (out ++ [payP d b]) else payG to d r s out
def payV (l : List Q4.D) (to : Int) (c : Conf.D) (d : Int) (st : List Int) : List Q4.D := (payG to d l 0 []).1 ++ planV l (payG to d l 0 []).2 c d st
def payK (l : List Q4.D) (_to : Int) (c : Conf.D) (_d : Int) (st : List Int) : Bool := decide (l.length ≤ 1000) && lenOK st.length && confOk c
def FPay := FC5 (.slice Q4) (.int .i64) Conf (.int .i64) (.slice (.int .i64)) payK fun l to c d st => .own Q4 (payV l to c d st)
theorem payG_len (to d : Int) : ∀ (l : List Q4.D) (s : Int) (out : List Q4.D), (payG to d l s out).1.length ≤ out.length + l.length
  | [], s, out => Nat.le_refl _
  | b :: r, s, out => by
    unfold payG
    cases payB to b
    · rw [cond_false]
      have := payG_len to d r s out
      rw [List.length_cons]; omega
    · rw [cond_true]
      have := payG_len to d r (w (s + arrV b)) (out ++ [payP d b])
      rw [List.length_append] at this
      simp only [List.length_cons, List.length_nil] at *
      omega
theorem payG_ok (to d : Int) : ∀ (l : List Q4.D) (s : Int) (out : List Q4.D), i64ok s = true → i64ok (payG to d l s out).2 = true
  | [], s, out, h => h
  | b :: r, s, out, h => by
    unfold payG
    cases payB to b
    · exact payG_ok to d r s out h
    · exact payG_ok to d r _ _ (i64w _)
theorem pay_end {l : List Q4.D} {c : Conf.D} {st : List Int} (h1 : l.length ≤ 1000) (h2 : lenOK st.length = true) (h3 : confOk c = true) (s d : Int) (hs : i64ok s = true) (out : List Q4.D) (ho : out.length ≤ 1000) :
    planK l s c d st = true ∧ lenOK (out.length + (planV l s c d st).length) = true := by
  unfold confOk at h3
  rw [Bool.and_eq_true] at h3
  have l1 : lenOK l.length = true := lenOK_le (by unfold lenBound; omega)
  refine ⟨by unfold planK; rw [l1, h2, cK hs h3]; rfl, lenOK_le ?_⟩
  have := d0_len d 2 st l (limC s c) []
  simp only [List.length_nil] at this
  show out.length + (d0 l (limC s c) d 2 st).length ≤ lenBound
  unfold d0 lenBound
  omega
def kA (_b : Q4.D) : Bool := true
noncomputable def M57 : Leaf := .loop (cAt Try.f12 [1, 1, 1, 0, 1, 0, 0]) [.inBlock 0, .code (cAt Try.f12 [1, 1, 1, 1])] ⟨[], []⟩
def S57 (s0 : (List (Ty.D Q4))) (s1 : Int) (s3 : Int) (s4 : (List Int)) (s12 : Int) (s16 : (List (Ty.D Q4))) (s17 : Int) (s18 : Int) (b7 : (Ty.D Conf)) (b11 : (List (Ty.D Q4))) : St := ⟨[(0, .tv (TD.mk (.slice (.cons (.int .i64) (.cons (.int .i64) (.cons (.int .i64) (.cons (.int .i64) (.nil)))))) s0)), (1, .tv (I s1)), (3, .tv (I s3)), (4, .tv (TD.mk (.slice (.int .i64)) s4)), (7, .ptr 7 none []), (11, .ref 11), (12, .tv (I s12)), (16, .tv (TD.mk (.slice (.cons (.int .i64) (.cons (.int .i64) (.cons (.int .i64) (.cons (.int .i64) (.nil)))))) s16)), (17, .tv (I s17)), (18, .tv (I s18))], [(7, .var (TD.mk Conf b7)), (11, .vec Q4 b11)]⟩
theorem i57 (G : Tbl) (k39 : (Ty.D Q4) → Bool) (r39 : (Ty.D Q4) → Int) (k50 : (List (Ty.D Q4)) → Int → (Ty.D Conf) → Int → (List Int) → Bool) (r50 : (List (Ty.D Q4)) → Int → (Ty.D Conf) → Int → (List Int) → (List (Ty.D Q4))) (s0 : (List (Ty.D Q4))) (s1 : Int) (s3 : Int) (s4 : (List Int)) (s12 : Int) (s16 : (List (Ty.D Q4))) (s17 : Int) (s18 : Int) (b7 : (Ty.D Conf)) (b11 : (List (Ty.D Q4))) :
    runL ((G.add 21 (FC1 Q4 k39 (fun x0 => .tv (I (r39 x0))))).add 25 (FC5 (.slice (.cons (.int .i64) (.cons (.int .i64) (.cons (.int .i64) (.cons (.int .i64) (.nil)))))) (.int .i64) Conf (.int .i64) (.slice (.int .i64)) k50 (fun x0 x1 x2 x3 x4 => .own Q4 (r50 x0 x1 x2 x3 x4)))) [(258, [0, 1, 3, 4, 7, 11, 12, 16, 17, 18])] Try.f12 1000 M57.round (S57 s0 s1 s3 s4 s12 s16 s17 s18 b7 b11) =
  bif (decide (s18 < s17)) then
    bif (inB s18 (List.length s16)) then
      bif (k39 (List.getD s16 (Int.toNat s18) (0, 0, 0, 0, ()))) then
        bif (bif (decide (((List.getD s16 (Int.toNat s18) (0, 0, 0, 0, ()))).1 ≤ s1)) then (decide ((r39 (List.getD s16 (Int.toNat s18) (0, 0, 0, 0, ()))) > 0)) else false) then
          bif (lenOK ((List.length b11) + (List.length [(s3, ((List.getD s16 (Int.toNat s18) (0, 0, 0, 0, ()))).1, 1, (r39 (List.getD s16 (Int.toNat s18) (0, 0, 0, 0, ()))), ())]))) then
            .loop M57.body M57.kont (S57 s0 s1 s3 s4 (w (s12 + (r39 (List.getD s16 (Int.toNat s18) (0, 0, 0, 0, ()))))) s16 s17 (w (s18 + 1)) b7 (b11 ++ [(s3, ((List.getD s16 (Int.toNat s18) (0, 0, 0, 0, ()))).1, 1, (r39 (List.getD s16 (Int.toNat s18) (0, 0, 0, 0, ()))), ())]))
          else
            .fail
        else
          .loop M57.body M57.kont (S57 s0 s1 s3 s4 s12 s16 s17 (w (s18 + 1)) b7 b11)
      else
        .fail
    else
      .fail
  else
    bif (k50 s0 s12 b7 s3 s4) then
      bif (lenOK ((List.length b11) + (List.length (r50 s0 s12 b7 s3 s4)))) then
        .ret (.own Q4 (b11 ++ (r50 s0 s12 b7 s3 s4)))
      else
        .fail
    else
      .fail := by kernel_rfl
theorem e57 (G : Tbl) (k39 : (Ty.D Q4) → Bool) (r39 : (Ty.D Q4) → Int) (k50 : (List (Ty.D Q4)) → Int → (Ty.D Conf) → Int → (List Int) → Bool) (r50 : (List (Ty.D Q4)) → Int → (Ty.D Conf) → Int → (List Int) → (List (Ty.D Q4))) (a0 : (List (Ty.D Q4))) (a1 : Int) (a2 : (Ty.D Conf)) (a3 : Int) (a4 : (List Int)) :
    runL ((G.add 21 (FC1 Q4 k39 (fun x0 => .tv (I (r39 x0))))).add 25 (FC5 (.slice (.cons (.int .i64) (.cons (.int .i64) (.cons (.int .i64) (.cons (.int .i64) (.nil)))))) (.int .i64) Conf (.int .i64) (.slice (.int .i64)) k50 (fun x0 x1 x2 x3 x4 => .own Q4 (r50 x0 x1 x2 x3 x4)))) [(258, [0, 1, 3, 4, 7, 11, 12, 16, 17, 18])] Try.f12 1000 (bod Try.f12) (entry [(TD.mk (.slice (.cons (.int .i64) (.cons (.int .i64) (.cons (.int .i64) (.cons (.int .i64) (.nil)))))) a0), (I a1), (TD.mk Conf a2), (I a3), (TD.mk (.slice (.int .i64)) a4)]) =
  .loop M57.body M57.kont (S57 a0 a1 a3 a4 0 a0 ((List.length a0 : Nat) : Int) 0 a2 []) := by kernel_rfl
noncomputable def M58 : Leaf := .loop (cAt Try.f13 [1, 1, 1, 0, 1, 0, 0]) [.inBlock 0, .code (cAt Try.f13 [1, 1, 1, 1])] ⟨[], []⟩
def S58 (s0 : (List (Ty.D Q4))) (s1 : Int) (s3 : Int) (s4 : (List Int)) (s12 : Int) (s13 : Int) (b7 : (Ty.D Conf)) (b11 : (List (Ty.D Q4))) : St := ⟨[(0, .tv (TD.mk (.slice (.cons (.int .i64) (.cons (.int .i64) (.cons (.int .i64) (.cons (.int .i64) (.nil)))))) s0)), (1, .tv (I s1)), (3, .tv (I s3)), (4, .tv (TD.mk (.slice (.int .i64)) s4)), (7, .ptr 7 none []), (11, .ref 11), (12, .tv (I s12)), (13, .tv (I s13))], [(7, .var (TD.mk Conf b7)), (11, .vec Q4 b11)]⟩
theorem i58 (G : Tbl) (k40 : (Ty.D Q4) → Bool) (r40 : (Ty.D Q4) → Int) (k51 : (List (Ty.D Q4)) → Int → (Ty.D Conf) → Int → (List Int) → Bool) (r51 : (List (Ty.D Q4)) → Int → (Ty.D Conf) → Int → (List Int) → (List (Ty.D Q4))) (s0 : (List (Ty.D Q4))) (s1 : Int) (s3 : Int) (s4 : (List Int)) (s12 : Int) (s13 : Int) (b7 : (Ty.D Conf)) (b11 : (List (Ty.D Q4))) :
    runL ((G.add 26 (FC1 Q4 k40 (fun x0 => .tv (I (r40 x0))))).add 27 (FC5 (.slice (.cons (.int .i64) (.cons (.int .i64) (.cons (.int .i64) (.cons (.int .i64) (.nil)))))) (.int .i64) Conf (.int .i64) (.slice (.int .i64)) k51 (fun x0 x1 x2 x3 x4 => .own Q4 (r51 x0 x1 x2 x3 x4)))) [(258, [0, 1, 3, 4, 7, 11, 12, 13])] Try.f13 1000 M58.round (S58 s0 s1 s3 s4 s12 s13 b7 b11) =
  bif (decide (s13 < ((List.length s0 : Nat) : Int))) then
    bif (inB s13 (List.length s0)) then
      bif (k40 (List.getD s0 (Int.toNat s13) (0, 0, 0, 0, ()))) then
        bif (inB s13 (List.length s0)) then
          bif (bif (decide (((List.getD s0 (Int.toNat s13) (0, 0, 0, 0, ()))).1 ≤ s1)) then (decide ((r40 (List.getD s0 (Int.toNat s13) (0, 0, 0, 0, ()))) > 0)) else false) then
            bif (inB s13 (List.length s0)) then
              bif (lenOK ((List.length b11) + (List.length [(s3, ((List.getD s0 (Int.toNat s13) (0, 0, 0, 0, ()))).1, 1, (r40 (List.getD s0 (Int.toNat s13) (0, 0, 0, 0, ()))), ())]))) then
                .loop M58.body M58.kont (S58 s0 s1 s3 s4 (w (s12 + (r40 (List.getD s0 (Int.toNat s13) (0, 0, 0, 0, ()))))) (w (s13 + 1)) b7 (b11 ++ [(s3, ((List.getD s0 (Int.toNat s13) (0, 0, 0, 0, ()))).1, 1, (r40 (List.getD s0 (Int.toNat s13) (0, 0, 0, 0, ()))), ())]))
              else
                .fail
            else
              .fail
          else
            .loop M58.body M58.kont (S58 s0 s1 s3 s4 s12 (w (s13 + 1)) b7 b11)
        else
          .fail
      else
        .fail
    else
      .fail
  else
    bif (k51 s0 s12 b7 s3 s4) then
      bif (lenOK ((List.length b11) + (List.length (r51 s0 s12 b7 s3 s4)))) then
        .ret (.own Q4 (b11 ++ (r51 s0 s12 b7 s3 s4)))
      else
        .fail
    else
      .fail := by kernel_rfl
theorem e58 (G : Tbl) (k40 : (Ty.D Q4) → Bool) (r40 : (Ty.D Q4) → Int) (k51 : (List (Ty.D Q4)) → Int → (Ty.D Conf) → Int → (List Int) → Bool) (r51 : (List (Ty.D Q4)) → Int → (Ty.D Conf) → Int → (List Int) → (List (Ty.D Q4))) (a0 : (List (Ty.D Q4))) (a1 : Int) (a2 : (Ty.D Conf)) (a3 : Int) (a4 : (List Int)) :
    runL ((G.add 26 (FC1 Q4 k40 (fun x0 => .tv (I (r40 x0))))).add 27 (FC5 (.slice (.cons (.int .i64) (.cons (.int .i64) (.cons (.int .i64) (.cons (.int .i64) (.nil)))))) (.int .i64) Conf (.int .i64) (.slice (.int .i64)) k51 (fun x0 x1 x2 x3 x4 => .own Q4 (r51 x0 x1 x2 x3 x4)))) [(258, [0, 1, 3, 4, 7, 11, 12, 13])] Try.f13 1000 (bod Try.f13) (entry [(TD.mk (.slice (.cons (.int .i64) (.cons (.int .i64) (.cons (.int .i64) (.cons (.int .i64) (.nil)))))) a0), (I a1), (TD.mk Conf a2), (I a3), (TD.mk (.slice (.int .i64)) a4)]) =
  .loop M58.body M58.kont (S58 a0 a1 a3 a4 0 0 a2 []) := by kernel_rfl

noncomputable def G57 : Tbl := (Tbl.none.add 21 FArr).add 25 FPlan
theorem loop57 (to d : Int) (c : Conf.D) (st : List Int) (l : List Q4.D) (h1 : l.length ≤ 1000) (h2 : lenOK st.length = true) (h3 : confOk c = true) : ∀ (k i : Nat) (s : Int) (out : List Q4.D), i + k = l.length → i64ok s = true → out.length + k ≤ 1000 →
    Goes G57 T Try.f12.ntmps Try.f12.results.toList (.loop M57.body M57.kont (S57 l to d st s l ((l.length : Nat) : Int) i c out)) (.own Q4 ((payG to d (l.drop i) s out).1 ++ planV l (payG to d (l.drop i) s out).2 c d st))
  | 0, i, s, out, h, hs, ho => by
    refine Goes.lp' (i57 Tbl.none kA arrV planK planV l to d st s l _ i c out) ?_
    obtain ⟨p1, p2⟩ := pay_end h1 h2 h3 s d hs out ho
    rw [decide_eq_false (show ¬ (i : Int) < ((l.length : Nat) : Int) by omega), drop_end (by omega), cond_false, p1, cond_true, p2, cond_true]
    exact .ret _
  | k + 1, i, s, out, h, hs, ho => by
    refine Goes.lp' (i57 Tbl.none kA arrV planK planV l to d st s l _ i c out) ?_
    have hi : (i : Int) < ((l.length : Nat) : Int) := by omega
    rw [decide_eq_true hi, cond_true, toNat_lt (by omega) hi, cond_true, w_step (by omega) hi (by unfold lenBound; omega), Int.toNat_natCast, drop_cons l (0, 0, 0, 0, ()) i (by omega)]
    generalize l.getD i (0, 0, 0, 0, ()) = b
    rw [show kA b = true from rfl, cond_true]
    unfold payG
    show Goes _ _ _ _ (bif payB to b then (bif lenOK (out.length + [payP d b].length) then _ else _) else _) _
    rw [lenA (show out.length + 1 ≤ lenBound by unfold lenBound; omega), cond_true]
    refine .bif (fun g => ?_) fun g => ?_
    · rw [g, cond_true]
      exact loop57 to d c st l h1 h2 h3 k (i + 1) _ _ (by omega) (i64w _) (by rw [List.length_append]; simp only [List.length_cons, List.length_nil]; omega)
    · rw [g, cond_false]
      exact loop57 to d c st l h1 h2 h3 k (i + 1) _ _ (by omega) hs (by omega)
theorem has57 : Hs 12 FPay := by
  refine Has.fc5 (fn := Try.f12) ((env0.more has27b).more has38b) (by kernel_rfl) (by kernel_rfl) (by kernel_rfl) (by kernel_rfl)
    fun (l : List Q4.D) (to : Int) (c : Conf.D) (d : Int) (st : List Int) h => .run1 (e57 Tbl.none kA arrV planK planV l to c d st) ?_
  unfold payK at h
  rw [Bool.and_eq_true, Bool.and_eq_true] at h
  obtain ⟨⟨h1, h2⟩, h3⟩ := h
  have h1 := of_decide_eq_true h1
  exact loop57 to d c st l h1 h2 h3 l.length 0 0 [] (by omega) rfl (by rw [List.length_nil]; omega)
noncomputable def G58 : Tbl := (Tbl.none.add 26 FArr).add 27 FPlan
theorem loop58 (to d : Int) (c : Conf.D) (st : List Int) (l : List Q4.D) (h1 : l.length ≤ 1000) (h2 : lenOK st.length = true) (h3 : confOk c = true) : ∀ (k i : Nat) (s : Int) (out : List Q4.D), i + k = l.length → i64ok s = true → out.length + k ≤ 1000 →
    Goes G58 T Try.f13.ntmps Try.f13.results.toList (.loop M58.body M58.kont (S58 l to d st s i c out)) (.own Q4 ((payG to d (l.drop i) s out).1 ++ planV l (payG to d (l.drop i) s out).2 c d st))
  | 0, i, s, out, h, hs, ho => by
    refine Goes.lp' (i58 Tbl.none kA arrV planK planV l to d st s i c out) ?_
    obtain ⟨p1, p2⟩ := pay_end h1 h2 h3 s d hs out ho
    rw [decide_eq_false (show ¬ (i : Int) < ((l.length : Nat) : Int) by omega), drop_end (by omega), cond_false, p1, cond_true, p2, cond_true]
    exact .ret _
  | k + 1, i, s, out, h, hs, ho => by
    refine Goes.lp' (i58 Tbl.none kA arrV planK planV l to d st s i c out) ?_
    have hi : (i : Int) < ((l.length : Nat) : Int) := by omega
    rw [decide_eq_true hi, cond_true, toNat_lt (by omega) hi, cond_true, w_step (by omega) hi (by unfold lenBound; omega), Int.toNat_natCast, drop_cons l (0, 0, 0, 0, ()) i (by omega)]
    generalize l.getD i (0, 0, 0, 0, ()) = b
    rw [show kA b = true from rfl, cond_true, cond_true, cond_true]
    unfold payG
    show Goes _ _ _ _ (bif payB to b then (bif lenOK (out.length + [payP d b].length) then _ else _) else _) _
    rw [lenA (show out.length + 1 ≤ lenBound by unfold lenBound; omega), cond_true]
    refine .bif (fun g => ?_) fun g => ?_
    · rw [g, cond_true]
      exact loop58 to d c st l h1 h2 h3 k (i + 1) _ _ (by omega) (i64w _) (by rw [List.length_append]; simp only [List.length_cons, List.length_nil]; omega)
    · rw [g, cond_false]
      exact loop58 to d c st l h1 h2 h3 k (i + 1) _ _ (by omega) hs (by omega)
theorem has58 : Hs 13 FPay := by
  refine Has.fc5 (fn := Try.f13) ((env0.more has28b).more has39b) (by kernel_rfl) (by kernel_rfl) (by kernel_rfl) (by kernel_rfl)
    fun (l : List Q4.D) (to : Int) (c : Conf.D) (d : Int) (st : List Int) h => .run1 (e58 Tbl.none kA arrV planK planV l to c d st) ?_
  unfold payK at h
  rw [Bool.and_eq_true, Bool.and_eq_true] at h
  obtain ⟨⟨h1, h2⟩, h3⟩ := h
  have h1 := of_decide_eq_true h1
  exact loop58 to d c st l h1 h2 h3 l.length 0 0 [] (by omega) rfl (by rw [List.length_nil]; omega)

/-! the number of payments -/
def ptQ (o lim : Int) : Int × Bool :=
  bif decide (o < 1) then (0, true) else bif decide (lim < 1) then (0, false) else bif decide (Int.tmod o lim > 0) then (w (w (Int.tdiv o lim) + 1), true) else (w (Int.tdiv o lim), true)
def pt0 (o p : Int) (c : Conf.D) : Int := (ptQ o (limC p c)).1
def pt1 (o p : Int) (c : Conf.D) : Bool := (ptQ o (limC p c)).2
def ptK (_o p : Int) (c : Conf.D) : Bool := limK p c
def FPt := FC3 (.int .i64) (.int .i64) Conf ptK fun o p c => .tup [.tv (I (pt0 o p c)), .tv (B (pt1 o p c))]
theorem e61 (G : Tbl) (k45 : Int → (Ty.D Conf) → Bool) (r45 : Int → (Ty.D Conf) → Int) (a0 : Int) (a1 : Int) (a2 : (Ty.D Conf)) :
    runL (G.add 18 (FC2 (.int .i64) Conf k45 (fun x0 x1 => .tv (I (r45 x0 x1))))) [] Try.f16 1000 (bod Try.f16) (entry [(I a0), (I a1), (TD.mk Conf a2)]) =
  bif (decide (a0 < 1)) then
    .ret (.tup [.tv (I 0), .tv (B true)])
  else
    bif (k45 a1 a2) then
      bif (decide ((r45 a1 a2) < 1)) then
        .ret (.tup [.tv (I 0), .tv (B false)])
      else
        bif (!((r45 a1 a2) == 0)) then
          bif (!((r45 a1 a2) == 0)) then
            bif (decide ((Int.tmod a0 (r45 a1 a2)) > 0)) then
              .ret (.tup [.tv (I (w ((w (Int.tdiv a0 (r45 a1 a2))) + 1))), .tv (B true)])
            else
              .ret (.tup [.tv (I (w (Int.tdiv a0 (r45 a1 a2)))), .tv (B true)])
          else
            .fail
        else
          .fail
    else
      .fail := by kernel_rfl
theorem e62 (G : Tbl) (k46 : Int → (Ty.D Conf) → Bool) (r46 : Int → (Ty.D Conf) → Int) (a0 : Int) (a1 : Int) (a2 : (Ty.D Conf)) :
    runL (G.add 28 (FC2 (.int .i64) Conf k46 (fun x0 x1 => .tv (I (r46 x0 x1))))) [] Try.f17 1000 (bod Try.f17) (entry [(I a0), (I a1), (TD.mk Conf a2)]) =
  bif (decide (a0 < 1)) then
    .ret (.tup [.tv (I 0), .tv (B true)])
  else
    bif (k46 a1 a2) then
      bif ((r46 a1 a2) == 0) then
        .ret (.tup [.tv (I 0), .tv (B false)])
      else
        bif (!((r46 a1 a2) == 0)) then
          bif (!((r46 a1 a2) == 0)) then
            bif ((Int.tmod a0 (r46 a1 a2)) != 0) then
              .ret (.tup [.tv (I (w ((w (Int.tdiv a0 (r46 a1 a2))) + 1))), .tv (B true)])
            else
              .ret (.tup [.tv (I (w (Int.tdiv a0 (r46 a1 a2)))), .tv (B true)])
          else
            .fail
        else
          .fail
    else
      .fail := by kernel_rfl

theorem has61 : Hs 16 FPt := by
  refine Has.fc3 (fn := Try.f16) (env0.more has33b) (by kernel_rfl) (by kernel_rfl) (by kernel_rfl) (by kernel_rfl)
    fun (o p : Int) (c : Conf.D) h => .run1 (e61 Tbl.none limK limC o p c) ?_
  have h : limK p c = true := h
  unfold pt0 pt1 ptQ
  rw [h, cond_true]
  generalize limC p c = a
  refine .bif (fun g => .ret' (by rw [g]; rfl)) fun g => ?_
  rw [g, cond_false]
  refine .bif (fun g => .ret' (by rw [g]; rfl)) fun g => ?_
  have a0 : a ≠ 0 := by have := of_decide_eq_false g; omega
  rw [g, cond_false, beq_false_of_ne a0, Bool.not_false, cond_true, cond_true]
  refine .bif (fun g => .ret' (by rw [g]; rfl)) fun g => .ret' (by rw [g]; rfl)
theorem has62 : Hs 17 FPt := by
  refine Has.fc3 (fn := Try.f17) (env0.more has34b) (by kernel_rfl) (by kernel_rfl) (by kernel_rfl) (by kernel_rfl)
    fun (o p : Int) (c : Conf.D) h => .run1 (e62 Tbl.none limK limC o p c) ?_
  have h : limK p c = true := h
  have hn : 0 ≤ limC p c := (limV_le p _ _).1
  unfold pt0 pt1 ptQ
  rw [h, cond_true]
  generalize limC p c = a at *
  refine .bif (fun g => .ret' (by rw [g]; rfl)) fun g => ?_
  have o1 := of_decide_eq_false g
  rw [g, cond_false]
  have e1 : (a == 0) = decide (a < 1) := by
    by_cases h : a = 0
    · rw [h]; rfl
    · rw [beq_false_of_ne h, decide_eq_false (by omega)]
  rw [e1]
  refine .bif (fun g => .ret' (by rw [g]; rfl)) fun g => ?_
  rw [g, Bool.not_false, cond_true, cond_true, cond_false]
  have t0 : 0 ≤ Int.tmod o a := Int.tmod_nonneg _ (by omega)
  have e2 : (Int.tmod o a != 0) = decide (Int.tmod o a > 0) := by
    by_cases h : Int.tmod o a = 0
    · rw [h]; rfl
    · rw [bne_iff_ne.2 h, decide_eq_true (by omega)]
  rw [e2]
  refine .bif (fun g => .ret' (by rw [g]; rfl)) fun g => .ret' (by rw [g]; rfl)

/-! awake -/
theorem e56c : runL (((((Tbl.none.add 11 FSameQ).add 12 FPay).add 14 FCash)).add 16 FPt) [] Try.f10 1000 (bod Try.f10) (entry []) = .ret (.tv (B true)) := by kernel_rfl
theorem has56 : Hs 10 FAwake :=
  Has.fc0 (fn := Try.f10) ((((env0.more has37b).more has57).more has59).more has61) (by kernel_rfl) (by kernel_rfl) (by kernel_rfl) (by kernel_rfl)
    fun _ => .run1 e56c (.ret _)

/-! the laws -/
def mK (_l : List Q4.D) (_st : List Int) : Bool := true
def cT (_c : Conf.D) : Bool := true
def F18 := FC4 (.slice Q4) (.int .i64) Conf (.slice (.int .i64)) (fun _ _ c _ => confOk c) fun _ _ _ _ => .tv (B true)
theorem e18q (G : Tbl) (k49 : (List (Ty.D Q4)) → (List (Ty.D Q4)) → Bool) (r49 : (List (Ty.D Q4)) → (List (Ty.D Q4)) → Bool) (k54 : (List (Ty.D Q4)) → (List Int) → Bool) (r54 : (List (Ty.D Q4)) → (List Int) → Bool) (k55 : (Ty.D Conf) → Bool) (r55 : (Ty.D Conf) → Bool) (k56 : Bool) (r56 : Bool) (k57 : (List (Ty.D Q4)) → Int → (Ty.D Conf) → Int → (List Int) → Bool) (r57 : (List (Ty.D Q4)) → Int → (Ty.D Conf) → Int → (List Int) → (List (Ty.D Q4))) (k58 : (List (Ty.D Q4)) → Int → (Ty.D Conf) → Int → (List Int) → Bool) (r58 : (List (Ty.D Q4)) → Int → (Ty.D Conf) → Int → (List Int) → (List (Ty.D Q4))) (a0 : (List (Ty.D Q4))) (a1 : Int) (a2 : (Ty.D Conf)) (a3 : (List Int)) :
    runL ((((((G.add 11 (FC2 (.slice (.cons (.int .i64) (.cons (.int .i64) (.cons (.int .i64) (.cons (.int .i64) (.nil)))))) (.slice (.cons (.int .i64) (.cons (.int .i64) (.cons (.int .i64) (.cons (.int .i64) (.nil)))))) k49 (fun x0 x1 => .tv (B (r49 x0 x1))))).add 8 (FC2 (.slice (.cons (.int .i64) (.cons (.int .i64) (.cons (.int .i64) (.cons (.int .i64) (.nil)))))) (.slice (.int .i64)) k54 (fun x0 x1 => .tv (B (r54 x0 x1))))).add 9 (FC1 Conf k55 (fun x0 => .tv (B (r55 x0))))).add 10 (FC0  k56 (.tv (B r56)))).add 12 (FC5 (.slice (.cons (.int .i64) (.cons (.int .i64) (.cons (.int .i64) (.cons (.int .i64) (.nil)))))) (.int .i64) Conf (.int .i64) (.slice (.int .i64)) k57 (fun x0 x1 x2 x3 x4 => .tv (TD.mk (.slice (.cons (.int .i64) (.cons (.int .i64) (.cons (.int .i64) (.cons (.int .i64) (.nil)))))) (r57 x0 x1 x2 x3 x4))))).add 13 (FC5 (.slice (.cons (.int .i64) (.cons (.int .i64) (.cons (.int .i64) (.cons (.int .i64) (.nil)))))) (.int .i64) Conf (.int .i64) (.slice (.int .i64)) k58 (fun x0 x1 x2 x3 x4 => .tv (TD.mk (.slice (.cons (.int .i64) (.cons (.int .i64) (.cons (.int .i64) (.cons (.int .i64) (.nil)))))) (r58 x0 x1 x2 x3 x4))))) [] Try.f3 1000 (bod Try.f3) (entry [(TD.mk (.slice (.cons (.int .i64) (.cons (.int .i64) (.cons (.int .i64) (.cons (.int .i64) (.nil)))))) a0), (I a1), (TD.mk Conf a2), (TD.mk (.slice (.int .i64)) a3)]) =
  bif (k54 a0 a3) then
    bif ((k55 a2) || (!(!(!(r54 a0 a3))))) then
      bif (bif (!(r54 a0 a3)) then true else (!(r55 a2))) then
        bif k56 then
          .ret (.tv (B r56))
        else
          .fail
      else
        bif (k57 a0 a1 a2 a2.2.2.2.2.2.1 a3) then
          bif (k58 a0 a1 a2 a2.2.2.2.2.2.1 a3) then
            bif (k49 (r57 a0 a1 a2 a2.2.2.2.2.2.1 a3) (r58 a0 a1 a2 a2.2.2.2.2.2.1 a3)) then
              bif (k56 || (!(r49 (r57 a0 a1 a2 a2.2.2.2.2.2.1 a3) (r58 a0 a1 a2 a2.2.2.2.2.2.1 a3)))) then
                .ret (.tv (B (bif (r49 (r57 a0 a1 a2 a2.2.2.2.2.2.1 a3) (r58 a0 a1 a2 a2.2.2.2.2.2.1 a3)) then r56 else false)))
              else
                .fail
            else
              .fail
          else
            .fail
        else
          .fail
    else
      .fail
  else
    .fail := by kernel_rfl

theorem payV_len {l : List Q4.D} (h : l.length ≤ 1000) (to : Int) (c : Conf.D) (d : Int) (st : List Int) : (payV l to c d st).length ≤ 2000 := by
  unfold payV
  rw [List.length_append]
  have a := payG_len to d l 0 []
  have b := d0_len d 2 st l (limC (payG to d l 0 []).2 c) []
  simp only [List.length_nil] at a b
  have e : (planV l (payG to d l 0 []).2 c d st).length = (distG d 2 st l (limC (payG to d l 0 []).2 c) []).1.length := rfl
  omega
theorem has18q : Hs 3 F18 := by
  refine Has.fc4 (fn := Try.f3) ((((((env0.more has37b).more has54).more has55).more has56).more has57.cool5).more has58.cool5) (by kernel_rfl) (by kernel_rfl) (by kernel_rfl) (by kernel_rfl)
    fun (l : List Q4.D) (to : Int) (c : Conf.D) (st : List Int) h => .run1 (e18q Tbl.none sqK sameQ mK modV cT smC true true payK payV payK payV l to c st) ?_
  have h : confOk c = true := h
  rw [show mK l st = true from rfl, cond_true, show cT c = true from rfl, or_true, cond_true]
  refine .bif (fun g => .ret _) fun g => ?_
  rw [bor_bif] at g
  have g' := (Bool.or_eq_false_iff.1 g).1
  rw [Bool.not_eq_false'] at g'
  obtain ⟨l1, l2, _⟩ := mod_spec g'
  have hk : payK l to c c.2.2.2.2.2.1 st = true := by
    unfold payK; rw [decide_eq_true (show l.length ≤ 1000 by omega), lenOK_le (show st.length ≤ lenBound by unfold lenBound; omega), h]; rfl
  have hv := payV_len (l := l) (by omega) to c c.2.2.2.2.2.1 st
  rw [hk, cond_true, cond_true, show sqK (payV l to c c.2.2.2.2.2.1 st) (payV l to c c.2.2.2.2.2.1 st) = true from lenOK_le (by unfold lenBound; omega), cond_true, or_true, cond_true, sameQ_self]
  exact .ret _
def F19 := FC1 (.slice Q4) (fun _ => true) fun _ => .tv (B true)
theorem e19q (G : Tbl) (k56 : Bool) (r56 : Bool) (k59 : (List (Ty.D Q4)) → Bool) (r59 : (List (Ty.D Q4)) → Int) (k60 : (List (Ty.D Q4)) → Bool) (r60 : (List (Ty.D Q4)) → Int) (a0 : (List (Ty.D Q4))) :
    runL (((G.add 10 (FC0  k56 (.tv (B r56)))).add 14 (FC1 (.slice (.cons (.int .i64) (.cons (.int .i64) (.cons (.int .i64) (.cons (.int .i64) (.nil)))))) k59 (fun x0 => .tv (I (r59 x0))))).add 15 (FC1 (.slice (.cons (.int .i64) (.cons (.int .i64) (.cons (.int .i64) (.cons (.int .i64) (.nil)))))) k60 (fun x0 => .tv (I (r60 x0))))) [] Try.f4 1000 (bod Try.f4) (entry [(TD.mk (.slice (.cons (.int .i64) (.cons (.int .i64) (.cons (.int .i64) (.cons (.int .i64) (.nil)))))) a0)]) =
  bif (decide (((List.length a0 : Nat) : Int) > 200)) then
    bif k56 then
      .ret (.tv (B r56))
    else
      .fail
  else
    bif (k59 a0) then
      bif (k60 a0) then
        bif (k56 || (!((r59 a0) == (r60 a0)))) then
          .ret (.tv (B (bif ((r59 a0) == (r60 a0)) then r56 else false)))
        else
          .fail
      else
        .fail
    else
      .fail := by kernel_rfl

theorem has19q : Hs 4 F19 := by
  refine Has.fc1 (fn := Try.f4) (((env0.more has56).more has59).more has60) (by kernel_rfl) (by kernel_rfl) (by kernel_rfl) (by kernel_rfl)
    fun (l : List Q4.D) _ => .run1 (e19q Tbl.none true true lnK cashV lnK cashV l) ?_
  refine .bif (fun g => .ret _) fun g => ?_
  have := of_decide_eq_false g
  rw [show lnK l = true from lenOK_le (by unfold lenBound; omega), cond_true, cond_true, or_true, cond_true, beq_self_eq_true]
  exact .ret _
def F20 := FC3 (.int .i64) (.int .i64) Conf (fun o p c => i64ok o && i64ok p && confOk c) fun _ _ _ => .tv (B true)
theorem e20q (G : Tbl) (k45 : Int → (Ty.D Conf) → Bool) (r45 : Int → (Ty.D Conf) → Int) (k55 : (Ty.D Conf) → Bool) (r55 : (Ty.D Conf) → Bool) (k56 : Bool) (r56 : Bool) (k61 : Int → Int → (Ty.D Conf) → Bool) (r61_0 : Int → Int → (Ty.D Conf) → Int) (r61_1 : Int → Int → (Ty.D Conf) → Bool) (k62 : Int → Int → (Ty.D Conf) → Bool) (r62_0 : Int → Int → (Ty.D Conf) → Int) (r62_1 : Int → Int → (Ty.D Conf) → Bool) (a0 : Int) (a1 : Int) (a2 : (Ty.D Conf)) :
    runL (((((G.add 18 (FC2 (.int .i64) Conf k45 (fun x0 x1 => .tv (I (r45 x0 x1))))).add 9 (FC1 Conf k55 (fun x0 => .tv (B (r55 x0))))).add 10 (FC0  k56 (.tv (B r56)))).add 16 (FC3 (.int .i64) (.int .i64) Conf k61 (fun x0 x1 x2 => .tup [.tv (I (r61_0 x0 x1 x2)), .tv (B (r61_1 x0 x1 x2))]))).add 17 (FC3 (.int .i64) (.int .i64) Conf k62 (fun x0 x1 x2 => .tup [.tv (I (r62_0 x0 x1 x2)), .tv (B (r62_1 x0 x1 x2))]))) [] Try.f5 1000 (bod Try.f5) (entry [(I a0), (I a1), (TD.mk Conf a2)]) =
  bif (k55 a2) then
    bif (!(r55 a2)) then
      bif k56 then
        .ret (.tv (B r56))
      else
        .fail
    else
      bif (k61 a0 a1 a2) then
        bif (k62 a0 a1 a2) then
          bif (bif ((r61_0 a0 a1 a2) != (r62_0 a0 a1 a2)) then true else (!((r61_1 a0 a1 a2) == (r62_1 a0 a1 a2)))) then
            .ret (.tv (B false))
          else
            bif (bif (decide ((r61_0 a0 a1 a2) < 1)) then true else (decide (a0 > 1099511627776))) then
              bif k56 then
                .ret (.tv (B r56))
              else
                .fail
            else
              bif (k45 a1 a2) then
                bif (k56 || (!(bif (bif (decide ((r45 a1 a2) > 0)) then (decide (a0 > (w ((w ((r61_0 a0 a1 a2) - 1)) * (r45 a1 a2))))) else false) then (decide ((w (a0 - (w ((w ((r61_0 a0 a1 a2) - 1)) * (r45 a1 a2))))) ≤ (r45 a1 a2))) else false))) then
                  .ret (.tv (B (bif (bif (bif (decide ((r45 a1 a2) > 0)) then (decide (a0 > (w ((w ((r61_0 a0 a1 a2) - 1)) * (r45 a1 a2))))) else false) then (decide ((w (a0 - (w ((w ((r61_0 a0 a1 a2) - 1)) * (r45 a1 a2))))) ≤ (r45 a1 a2))) else false) then r56 else false)))
                else
                  .fail
              else
                .fail
        else
          .fail
      else
        .fail
  else
    .fail := by kernel_rfl

theorem sched {o a : Int} (h1 : ¬ o < 1) (h2 : ¬ a < 1) (h3 : ¬ o > 1099511627776) (hn : ¬ (ptQ o a).1 < 1) : o > w (w ((ptQ o a).1 - 1) * a) ∧ w (o - w (w ((ptQ o a).1 - 1) * a)) ≤ a := by
  have hd := Int.mul_tdiv_add_tmod o a
  rw [Int.mul_comm] at hd
  have m0 : 0 ≤ Int.tmod o a := Int.tmod_nonneg _ (by omega)
  have m1 : Int.tmod o a < a := Int.tmod_lt_of_pos _ (by omega)
  have q0 : 0 ≤ Int.tdiv o a := Int.tdiv_nonneg (by omega) (by omega)
  have q1 : Int.tdiv o a ≤ o := by
    have : Int.tdiv o a * 1 ≤ Int.tdiv o a * a := Int.mul_le_mul_of_nonneg_left (by omega) q0
    omega
  unfold ptQ at *
  rw [decide_eq_false h1, decide_eq_false h2, cond_false, cond_false] at *
  generalize Int.tdiv o a = q at *
  generalize Int.tmod o a = m at *
  have wq : w q = q := wrap_id (by omega) (by omega)
  have wq1 : w (q + 1) = q + 1 := wrap_id (by omega) (by omega)
  cases hm : decide (m > 0)
  · rw [hm, cond_false] at hn
    rw [cond_false]
    rw [wq] at hn ⊢
    have hm := of_decide_eq_false hm
    have e : (q - 1) * a = q * a - a := by rw [Int.sub_mul, Int.one_mul]
    have w1 : w (q - 1) = q - 1 := wrap_id (by omega) (by omega)
    have hqa : a ≤ q * a := by
      have : 1 * a ≤ q * a := Int.mul_le_mul_of_nonneg_right (by omega) (by omega)
      omega
    rw [w1, e]
    generalize q * a = z at *
    have w2 : w (z - a) = z - a := wrap_id (by omega) (by omega)
    have w3 : w (o - (z - a)) = o - (z - a) := wrap_id (by omega) (by omega)
    rw [w2, w3]; omega
  · rw [hm, cond_true] at hn
    rw [cond_true]
    rw [wq, wq1] at hn ⊢
    have hm := of_decide_eq_true hm
    have w1 : w (q + 1 - 1) = q := by rw [show q + 1 - 1 = q by omega]; exact wq
    rw [w1]
    have hqa : 0 ≤ q * a := Int.mul_nonneg q0 (by omega)
    generalize q * a = z at *
    have w2 : w z = z := wrap_id (by omega) (by omega)
    have w3 : w (o - z) = o - z := wrap_id (by omega) (by omega)
    rw [w2, w3]; omega
theorem has20q : Hs 5 F20 := by
  refine Has.fc3 (fn := Try.f5) (((((env0.more has33b).more has55).more has56).more has61).more has62) (by kernel_rfl) (by kernel_rfl) (by kernel_rfl) (by kernel_rfl)
    fun (o p : Int) (c : Conf.D) h => .run1 (e20q Tbl.none limK limC cT smC true true ptK pt0 pt1 ptK pt0 pt1 o p c) ?_
  rw [Bool.and_eq_true, Bool.and_eq_true] at h
  obtain ⟨⟨h1, h2⟩, h3⟩ := h
  unfold confOk at h3
  rw [Bool.and_eq_true] at h3
  have hl : limK p c = true := cK h2 h3
  rw [show cT c = true from rfl, cond_true]
  refine .bif (fun g => .ret _) fun _ => ?_
  rw [show ptK o p c = true from hl, cond_true, cond_true, show (pt0 o p c != pt0 o p c) = false by simp, cond_false, show (pt1 o p c == pt1 o p c) = true by simp, Bool.not_true, cond_false]
  refine .bif (fun g => .ret _) fun g => ?_
  rw [bor_bif] at g
  have g' := Bool.or_eq_false_iff.1 g
  have g1 := of_decide_eq_false g'.1
  have g2 := of_decide_eq_false g'.2
  rw [hl, cond_true, or_true, cond_true]
  unfold pt0 at *
  generalize limC p c = a at *
  have o1 : ¬ o < 1 := by
    intro ho; unfold ptQ at g1; rw [decide_eq_true ho, cond_true] at g1; exact g1 (by decide)
  have a1 : ¬ a < 1 := by
    intro ha; unfold ptQ at g1; rw [decide_eq_false o1, decide_eq_true ha, cond_false, cond_true] at g1; exact g1 (by decide)
  obtain ⟨s1, s2⟩ := sched o1 a1 g2 g1
  refine .ret' ?_
  rw [decide_eq_true (show a > 0 by omega), decide_eq_true s1, decide_eq_true s2]
  rfl
end Go.Lift.L40
set_option maxRecDepth 100000
set_option linter.unusedVariables false
set_option linter.unusedSimpArgs false
namespace Go.Lift.L40
open Go.Lift Go.Proofs


/-! sums -/
abbrev mo (x : Q4.D) : Int := x.2.1
def tsum : List Q4.D → Int
  | [] => 0
  | x :: r => cen x + tsum r
def aG : List Q4.D → Int → Int
  | [], n => n
  | x :: r, n => aG r (bif x.2.2.1 == 1 then w (n + x.2.2.2.1) else n)
def tG : List Q4.D → Int → Int
  | [], n => n
  | x :: r, n => tG r (bif x.2.2.1 == 1 then n else w (n + x.2.2.2.1))
abbrev kin (x : Q4.D) : Int := x.2.2.1
abbrev dat (x : Q4.D) : Int := x.1
def Posted (p : List Q4.D) : Prop := ∀ x ∈ p, dat x = 9 ∧ 1 ≤ cen x ∧ (kin x = 1 ∨ kin x = 2)
theorem aG_app : ∀ (p q : List Q4.D) (n : Int), aG (p ++ q) n = aG q (aG p n)
  | [], q, n => rfl
  | x :: p, q, n => aG_app p q _
theorem tG_app : ∀ (p q : List Q4.D) (n : Int), tG (p ++ q) n = tG q (tG p n)
  | [], q, n => rfl
  | x :: p, q, n => tG_app p q _
theorem cashG_app : ∀ (p q : List Q4.D) (n : Int), cashG (p ++ q) n = cashG q (cashG p n)
  | [], q, n => rfl
  | x :: p, q, n => cashG_app p q _
theorem rcG_app (m : Int) : ∀ (p q : List Q4.D) (n : Int), rcG m (p ++ q) n = rcG m q (rcG m p n)
  | [], q, n => rfl
  | x :: p, q, n => rcG_app m p q _
def pays (to d : Int) (l : List Q4.D) : List Q4.D := (l.filter (payB to)).map (payP d)
theorem payG_acc (to d : Int) : ∀ (l : List Q4.D) (s : Int) (out : List Q4.D), payG to d l s out = (out ++ pays to d l, aG (pays to d l) s)
  | [], s, out => by unfold payG pays; rw [List.filter_nil, List.map_nil, List.append_nil]; rfl
  | b :: r, s, out => by
    unfold payG
    cases h : payB to b
    · have e : pays to d (b :: r) = pays to d r := by unfold pays; rw [List.filter_cons_of_neg (by rw [h]; simp)]
      rw [cond_false, payG_acc to d r s out, e]
    · have e : pays to d (b :: r) = payP d b :: pays to d r := by unfold pays; rw [List.filter_cons_of_pos h, List.map_cons]
      rw [cond_true, payG_acc to d r _ _, e, List.append_assoc]
      rfl
theorem distG_cons (d k : Int) (st : List Int) (b : Q4.D) (r : List Q4.D) (left : Int) (out : List Q4.D) : distG d k st (b :: r) left out = bif decide (left > 0) then
      bif decide (ovN b left ≤ 0) || hasI st b.1 then distG d k st r left out
      else distG d k st r (left - ovN b left) (out ++ [(d, b.1, k, ovN b left, ())])
    else (out, left) := rfl
theorem dist_app (d k : Int) (st : List Int) (r : List Q4.D) : ∀ (pre : List Q4.D) (left : Int), (distG d k st (pre ++ r) left []).1 = (distG d k st pre left []).1 ++ (distG d k st r (distG d k st pre left []).2 []).1
  | [], left => rfl
  | b :: pre, left => by
    rw [List.cons_append, distG_cons d k st b (pre ++ r), distG_cons d k st b pre]
    cases h : decide (left > 0)
    · have := of_decide_eq_false h
      rw [cond_false, cond_false, dist_zero d k st r (by show left ≤ 0; omega)]; rfl
    · rw [cond_true, cond_true]
      cases decide (ovN b left ≤ 0) || hasI st b.1
      · rw [cond_false, cond_false, distG_acc d k st (pre ++ r), distG_acc d k st pre, dist_app d k st r pre]
        simp only [List.append_assoc]
      · rw [cond_true, cond_true]; exact dist_app d k st r pre left
theorem dist_mon (d k : Int) (st : List Int) : ∀ (l : List Q4.D) (left : Int) (x : Q4.D), x ∈ (distG d k st l left []).1 → x.2.1 ∈ l.map mon ∧ dat x = d ∧ kin x = k ∧ 1 ≤ cen x
  | [], left, x, h => by unfold distG at h; simp at h
  | b :: r, left, x, h => by
    unfold distG at h
    cases g : decide (left > 0)
    · rw [g, cond_false] at h; simp at h
    · rw [g, cond_true] at h
      cases hs : decide (ovN b left ≤ 0) || hasI st b.1
      · rw [hs, cond_false, distG_acc] at h
        have o := of_decide_eq_false (Bool.or_eq_false_iff.1 hs).1
        rcases List.mem_append.1 h with h | h
        · simp only [List.nil_append, List.mem_singleton] at h
          subst h
          exact ⟨List.mem_cons.2 (.inl rfl), rfl, rfl, by show 1 ≤ ovN b left; omega⟩
        · obtain ⟨h1, h2⟩ := dist_mon d k st r _ x h
          exact ⟨List.mem_cons.2 (.inr h1), h2⟩
      · rw [hs, cond_true] at h
        obtain ⟨h1, h2⟩ := dist_mon d k st r _ x h
        exact ⟨List.mem_cons.2 (.inr h1), h2⟩
theorem tsum_app : ∀ (p q : List Q4.D), tsum (p ++ q) = tsum p + tsum q
  | [], q => by show tsum q = 0 + tsum q; omega
  | x :: p, q => by show cen x + tsum (p ++ q) = cen x + tsum p + tsum q; rw [tsum_app p q]; omega
theorem dist_sum (d k : Int) (st : List Int) : ∀ (l : List Q4.D) (left : Int), tsum (distG d k st l left []).1 + (distG d k st l left []).2 = left
  | [], left => by show (0 : Int) + left = left; omega
  | b :: r, left => by
    unfold distG
    cases g : decide (left > 0)
    · show (0 : Int) + left = left; omega
    · rw [cond_true]
      cases hs : decide (ovN b left ≤ 0) || hasI st b.1
      · rw [cond_false, distG_acc]
        have := dist_sum d k st r (left - ovN b left)
        show tsum ([(d, b.1, k, ovN b left, ())] ++ (distG d k st r (left - ovN b left) []).1) + _ = left
        rw [tsum_app]
        show (ovN b left + 0) + tsum (distG d k st r (left - ovN b left) []).1 + (distG d k st r (left - ovN b left) []).2 = left
        omega
      · rw [cond_true]; exact dist_sum d k st r left
theorem plan_folds : ∀ (q : List Q4.D), (∀ x ∈ q, kin x = 2 ∧ 1 ≤ cen x) → 0 ≤ tsum q ∧ ∀ n : Int, aG q n = n ∧ (0 ≤ n → n + tsum q ≤ 9223372036854775807 → tG q n = n + tsum q) ∧ (0 ≤ n - tsum q → n ≤ 9223372036854775807 → cashG q n = n - tsum q)
  | [], _ => ⟨Int.le_refl _, fun n => ⟨rfl, fun _ _ => by show n = n + 0; omega, fun _ _ => by show n = n - 0; omega⟩⟩
  | x :: q, h => by
    obtain ⟨h1, h2⟩ := h x (.head _)
    obtain ⟨i0, i1⟩ := plan_folds q (fun y hy => h y (.tail _ hy))
    have e1 : (x.2.2.1 == (1 : Int)) = false := beq_false_of_ne (by show kin x ≠ 1; omega)
    have e2 : (x.2.2.1 == (2 : Int)) = true := by show (kin x == 2) = true; rw [h1]; rfl
    have es : tsum (x :: q) = cen x + tsum q := rfl
    refine ⟨by omega, fun n => ⟨?_, fun a b => ?_, fun a b => ?_⟩⟩
    · show aG q (bif x.2.2.1 == 1 then _ else n) = n
      rw [e1]; exact (i1 n).1
    · show tG q (bif x.2.2.1 == 1 then n else w (n + cen x)) = _
      rw [e1, cond_false, show w (n + cen x) = n + cen x from wrap_id (by omega) (by omega), (i1 _).2.1 (by omega) (by omega)]; omega
    · show cashG q (bif x.2.2.1 == 1 then _ else bif x.2.2.1 == 2 then w (n - cen x) else n) = _
      rw [e1, cond_false, e2, cond_true, show w (n - cen x) = n - cen x from wrap_id (by omega) (by omega), (i1 _).2.2 (by omega) (by omega)]; omega
theorem pay_folds (to d : Int) : ∀ (l : List Q4.D) (n : Int), tG (pays to d l) n = n ∧ cashG (pays to d l) n = aG (pays to d l) n
  | [], n => ⟨rfl, rfl⟩
  | b :: r, n => by
    cases h : payB to b
    · have e : pays to d (b :: r) = pays to d r := by unfold pays; rw [List.filter_cons_of_neg (by rw [h]; simp)]
      rw [e]; exact pay_folds to d r n
    · have e : pays to d (b :: r) = payP d b :: pays to d r := by unfold pays; rw [List.filter_cons_of_pos h, List.map_cons]
      rw [e]
      exact ⟨(pay_folds to d r n).1, (pay_folds to d r (w (n + arrV b))).2⟩
theorem pays_mem {to d : Int} {l : List Q4.D} {x : Q4.D} (h : x ∈ pays to d l) : ∃ b ∈ l, payB to b = true ∧ x = payP d b := by
  unfold pays at h
  obtain ⟨b, hb, e⟩ := List.mem_map.1 h
  exact ⟨b, (List.mem_filter.1 hb).1, (List.mem_filter.1 hb).2, e.symm⟩
/-- balances of moderate size -/
def Mod (b : Q4.D) : Prop := 0 ≤ due b ∧ due b ≤ 1000000000000000 ∧ 0 ≤ rec_ b ∧ rec_ b ≤ 1000000000000000 ∧ 0 ≤ wai b ∧ wai b ≤ 1000000000000000
theorem arr_eq {b : Q4.D} (h1 : -10000000000000000 ≤ due b ∧ due b ≤ 10000000000000000) (h2 : -10000000000000000 ≤ rec_ b ∧ rec_ b ≤ 10000000000000000) : arrV b = max (due b - rec_ b) 0 := by
  have e : arrV b = max (w (due b - rec_ b)) 0 := by
    show maxI [0] (w (due b - rec_ b)) = _
    rw [maxI1]
  rw [e, show w (due b - rec_ b) = due b - rec_ b from wrap_id (by omega) (by omega)]
theorem over_eq {b : Q4.D} (h : Mod b) : overV b = max (rec_ b - due b - wai b) 0 := by
  unfold Mod at h
  have e : overV b = max (w (w (rec_ b - due b) - wai b)) 0 := by
    show maxI [0] (w (w (rec_ b - due b) - wai b)) = _
    rw [maxI1]
  rw [e, show w (rec_ b - due b) = rec_ b - due b from wrap_id (by omega) (by omega), show w (rec_ b - due b - wai b) = rec_ b - due b - wai b from wrap_id (by omega) (by omega)]
theorem aG_pays (to d : Int) : ∀ (l : List Q4.D) (n : Int), (∀ b ∈ l, Mod b) → 0 ≤ n → n + 1000000000000000 * (l.length : Int) ≤ 9000000000000000000 → 0 ≤ aG (pays to d l) n ∧ aG (pays to d l) n ≤ n + 1000000000000000 * (l.length : Int)
  | [], n, _, h0, _ => ⟨h0, by show n ≤ n + 1000000000000000 * 0; omega⟩
  | b :: r, n, hm, h0, hb => by
    have hl : ((b :: r).length : Int) = (r.length : Int) + 1 := by simp
    rw [hl] at hb ⊢
    have hB := hm b (.head _)
    have hM := hB
    unfold Mod at hM
    have ha := arr_eq (b := b) (by omega) (by omega)
    cases h : payB to b
    · have e : pays to d (b :: r) = pays to d r := by unfold pays; rw [List.filter_cons_of_neg (by rw [h]; simp)]
      rw [e]
      have := aG_pays to d r n (fun x hx => hm x (.tail _ hx)) h0 (by omega)
      omega
    · have e : pays to d (b :: r) = payP d b :: pays to d r := by unfold pays; rw [List.filter_cons_of_pos h, List.map_cons]
      rw [e]
      have e2 : aG (payP d b :: pays to d r) n = aG (pays to d r) (w (n + arrV b)) := rfl
      rw [e2, show w (n + arrV b) = n + arrV b from wrap_id (by omega) (by omega)]
      have := aG_pays to d r (n + arrV b) (fun x hx => hm x (.tail _ hx)) (by omega) (by omega)
      omega

/-! one month -/
theorem rcG_other (m : Int) : ∀ (p : List Q4.D) (n : Int), (∀ x ∈ p, mo x ≠ m) → rcG m p n = n
  | [], n, _ => rfl
  | x :: p, n, h => by
    have e : (x.2.1 == m) = false := beq_false_of_ne (h x (.head _))
    show rcG m p (bif (bif x.2.1 == m then _ else false) then _ else bif (bif x.2.1 == m then _ else false) then _ else n) = n
    rw [e]; exact rcG_other m p n fun y hy => h y (.tail _ hy)
theorem pays_split (to d : Int) (pre : List Q4.D) (b : Q4.D) (post : List Q4.D) : pays to d (pre ++ b :: post) = pays to d pre ++ ((bif payB to b then [payP d b] else []) ++ pays to d post) := by
  unfold pays
  rw [List.filter_append, List.map_append]
  congr 1
  cases h : payB to b
  · rw [List.filter_cons_of_neg (by rw [h]; simp)]; rfl
  · rw [List.filter_cons_of_pos h]; rfl
theorem month (to : Int) (st : List Int) (pre : List Q4.D) (b : Q4.D) (post : List Q4.D) (lim : Int) (hb : Mod b) (h1 : ∀ x ∈ pre, mon x ≠ mon b) (h2 : ∀ x ∈ post, mon x ≠ mon b) :
    0 ≤ rcG b.1 (pays to 9 (pre ++ b :: post) ++ (distG 9 2 st (pre ++ b :: post) lim []).1) b.2.2.1 ∧
    ∀ n : Int, n = rcG b.1 (pays to 9 (pre ++ b :: post) ++ (distG 9 2 st (pre ++ b :: post) lim []).1) b.2.2.1 →
      arrV (b.1, b.2.1, n, b.2.2.2.1, ()) ≤ arrV b ∧ (b.1 ≤ to → arrV (b.1, b.2.1, n, b.2.2.2.1, ()) = 0) := by
  have hM := hb
  unfold Mod at hM
  have ha := arr_eq (b := b) (by omega) (by omega)
  have ho := over_eq hb
  have other : ∀ (l : List Q4.D), (∀ x ∈ l, mon x ≠ mon b) → (∀ n : Int, rcG b.1 (pays to 9 l) n = n) ∧ ∀ left n : Int, rcG b.1 (distG 9 2 st l left []).1 n = n := by
    intro l hl
    refine ⟨fun n => rcG_other _ _ n fun x hx => ?_, fun left n => rcG_other _ _ n fun x hx => ?_⟩
    · obtain ⟨c, hc, _, rfl⟩ := pays_mem hx
      exact hl c hc
    · obtain ⟨c, hc, e⟩ := List.mem_map.1 (dist_mon 9 2 st l left x hx).1
      rw [show mo x = mon c from e.symm]
      exact hl c hc
  obtain ⟨p1, p2⟩ := other pre h1
  obtain ⟨q1, q2⟩ := other post h2
  rw [rcG_app, pays_split, rcG_app, rcG_app, p1, q1, dist_app, rcG_app, p2]
  generalize (distG 9 2 st pre lim []).2 = left
  have arrB : ∀ n : Int, -10000000000000000 ≤ n → n ≤ 10000000000000000 → arrV (b.1, b.2.1, n, b.2.2.2.1, ()) = max (due b - n) 0 := fun n a c =>
    arr_eq (b := (b.1, b.2.1, n, b.2.2.2.1, ())) ⟨by show _ ≤ due b; omega, by show due b ≤ _; omega⟩ ⟨a, c⟩
  cases hp : payB to b
  · -- nothing is paid
    have hz : b.1 ≤ to → arrV b = 0 := by
      intro hle
      unfold payB at hp
      rw [decide_eq_true hle, cond_true] at hp
      have := of_decide_eq_false hp
      omega
    show 0 ≤ rcG b.1 (distG 9 2 st (b :: post) left []).1 (rec_ b) ∧ ∀ n : Int, n = rcG b.1 (distG 9 2 st (b :: post) left []).1 (rec_ b) → _
    have same : ∀ n : Int, n = rec_ b → arrV (b.1, b.2.1, n, b.2.2.2.1, ()) ≤ arrV b ∧ (b.1 ≤ to → arrV (b.1, b.2.1, n, b.2.2.2.1, ()) = 0) := by
      intro n hn
      subst hn
      have e : arrV (b.1, b.2.1, rec_ b, b.2.2.2.1, ()) = arrV b := rfl
      rw [e]
      exact ⟨Int.le_refl _, hz⟩
    unfold distG
    cases g : decide (left > 0)
    · exact ⟨by show 0 ≤ rec_ b; omega, fun n hn => same n hn⟩
    · rw [cond_true]
      cases hs : decide (ovN b left ≤ 0) || hasI st b.1
      · rw [cond_false, distG_acc, rcG_app, q2]
        have o := of_decide_eq_false (Bool.or_eq_false_iff.1 hs).1
        have ol := ov_le b left
        have e : rcG b.1 ([] ++ [(9, b.1, 2, ovN b left, ())]) (rec_ b) = w (rec_ b - ovN b left) := by
          show (bif (bif b.1 == b.1 then (2 : Int) == 1 else false) then _ else bif (bif b.1 == b.1 then (2 : Int) == 2 else false) then w (rec_ b - ovN b left) else rec_ b) = _
          rw [beq_self_eq_true]; rfl
        rw [e, show w (rec_ b - ovN b left) = rec_ b - ovN b left from wrap_id (by omega) (by omega)]
        refine ⟨by omega, fun n hn => ?_⟩
        rw [arrB n (by omega) (by omega)]
        exact ⟨by omega, fun _ => by omega⟩
      · rw [cond_true, q2]
        exact ⟨by show 0 ≤ rec_ b; omega, fun n hn => same n hn⟩
  · -- the arrears are paid
    have hpos : 0 < arrV b := by
      unfold payB at hp
      cases hle : decide (b.1 ≤ to)
      · rw [hle, cond_false] at hp; cases hp
      · rw [hle, cond_true] at hp; exact of_decide_eq_true hp
    have e : rcG b.1 (bif true then [payP 9 b] else []) b.2.2.1 = w (rec_ b + arrV b) := by
      show (bif (bif b.1 == b.1 then (1 : Int) == 1 else false) then w (rec_ b + arrV b) else bif (bif b.1 == b.1 then (1 : Int) == 2 else false) then _ else rec_ b) = _
      rw [beq_self_eq_true]; rfl
    rw [e, show w (rec_ b + arrV b) = due b from by rw [show w (rec_ b + arrV b) = rec_ b + arrV b from wrap_id (by omega) (by omega)]; omega]
    have nodist : ∀ n : Int, rcG b.1 (distG 9 2 st (b :: post) left []).1 n = n := by
      intro n
      unfold distG
      cases g : decide (left > 0)
      · rfl
      · rw [cond_true]
        have : ovN b left ≤ 0 := by have := (ov_le b left).2; omega
        rw [decide_eq_true this, Bool.true_or, cond_true, q2]
    rw [nodist]
    refine ⟨by omega, fun n hn => ?_⟩
    rw [arrB n (by omega) (by omega)]
    exact ⟨by omega, fun _ => by omega⟩

/-! the law -/
def F21 := FC4 (.slice Q4) (.int .i64) Conf (.slice (.int .i64)) (fun _ _ c _ => confOk c) fun _ _ _ _ => .tv (B true)
noncomputable def M21q : Leaf := .loop (cAt Try.f6 [1, 1, 1, 1, 0, 1, 0, 0]) [.inBlock 0, .code (cAt Try.f6 [1, 1, 1, 1, 1])] ⟨[], []⟩
def S21q (s0 : (List (Ty.D Q4))) (s1 : Int) (s10 : Int) (s11 : Int) (s12 : Int) (b6 : (Ty.D Conf)) (b9 : (List (Ty.D Q4))) : St := ⟨[(0, .tv (TD.mk (.slice (.cons (.int .i64) (.cons (.int .i64) (.cons (.int .i64) (.cons (.int .i64) (.nil)))))) s0)), (1, .tv (I s1)), (6, .ptr 6 none []), (9, .ref 9), (10, .tv (I s10)), (11, .tv (I s11)), (12, .tv (I s12))], [(6, .var (TD.mk Conf b6)), (9, .vec Q4 b9)]⟩
noncomputable def M21qa : Leaf := .loop (cAt Try.f6 [1, 1, 1, 1, 1, 1, 0, 1, 0, 0]) [.inBlock 2, .code (cAt Try.f6 [1, 1, 1, 1, 1, 1, 1])] ⟨[], []⟩
def S21qa (s0 : (List (Ty.D Q4))) (s1 : Int) (s13 : Int) (b9 : (List (Ty.D Q4))) : St := ⟨[(0, .tv (TD.mk (.slice (.cons (.int .i64) (.cons (.int .i64) (.cons (.int .i64) (.cons (.int .i64) (.nil)))))) s0)), (1, .tv (I s1)), (9, .ref 9), (13, .tv (I s13))], [(9, .vec Q4 b9)]⟩
theorem i21q (G : Tbl) (k39 : (Ty.D Q4) → Bool) (r39 : (Ty.D Q4) → Int) (k45 : Int → (Ty.D Conf) → Bool) (r45 : Int → (Ty.D Conf) → Int) (k54 : (List (Ty.D Q4)) → (List Int) → Bool) (r54 : (List (Ty.D Q4)) → (List Int) → Bool) (k55 : (Ty.D Conf) → Bool) (r55 : (Ty.D Conf) → Bool) (k56 : Bool) (r56 : Bool) (k57 : (List (Ty.D Q4)) → Int → (Ty.D Conf) → Int → (List Int) → Bool) (r57 : (List (Ty.D Q4)) → Int → (Ty.D Conf) → Int → (List Int) → (List (Ty.D Q4))) (k59 : (List (Ty.D Q4)) → Bool) (r59 : (List (Ty.D Q4)) → Int) (k63 : (List (Ty.D Q4)) → Bool) (r63 : (List (Ty.D Q4)) → Bool) (k64 : (Ty.D Q4) → (List (Ty.D Q4)) → Bool) (r64 : (Ty.D Q4) → (List (Ty.D Q4)) → Int) (s0 : (List (Ty.D Q4))) (s1 : Int) (s10 : Int) (s11 : Int) (s12 : Int) (b6 : (Ty.D Conf)) (b9 : (List (Ty.D Q4))) :
    runL (((((((((G.add 21 (FC1 Q4 k39 (fun x0 => .tv (I (r39 x0))))).add 18 (FC2 (.int .i64) Conf k45 (fun x0 x1 => .tv (I (r45 x0 x1))))).add 8 (FC2 (.slice (.cons (.int .i64) (.cons (.int .i64) (.cons (.int .i64) (.cons (.int .i64) (.nil)))))) (.slice (.int .i64)) k54 (fun x0 x1 => .tv (B (r54 x0 x1))))).add 9 (FC1 Conf k55 (fun x0 => .tv (B (r55 x0))))).add 10 (FC0  k56 (.tv (B r56)))).add 12 (FC5 (.slice (.cons (.int .i64) (.cons (.int .i64) (.cons (.int .i64) (.cons (.int .i64) (.nil)))))) (.int .i64) Conf (.int .i64) (.slice (.int .i64)) k57 (fun x0 x1 x2 x3 x4 => .own Q4 (r57 x0 x1 x2 x3 x4)))).add 14 (FC1 (.slice (.cons (.int .i64) (.cons (.int .i64) (.cons (.int .i64) (.cons (.int .i64) (.nil)))))) k59 (fun x0 => .tv (I (r59 x0))))).add 19 (FC1 (.slice (.cons (.int .i64) (.cons (.int .i64) (.cons (.int .i64) (.cons (.int .i64) (.nil)))))) k63 (fun x0 => .tv (B (r63 x0))))).add 20 (FC2 Q4 (.slice (.cons (.int .i64) (.cons (.int .i64) (.cons (.int .i64) (.cons (.int .i64) (.nil)))))) k64 (fun x0 x1 => .tv (I (r64 x0 x1))))) [(386, [0, 1, 6, 9, 10, 11, 12]), (1026, [0, 1, 9, 13])] Try.f6 1000 M21q.round (S21q s0 s1 s10 s11 s12 b6 b9) =
  bif (decide (s12 < ((List.length b9 : Nat) : Int))) then
    bif (inB s12 (List.length b9)) then
      bif ((inB s12 (List.length b9)) || (!(!((((List.getD b9 (Int.toNat s12) (0, 0, 0, 0, ()))).1) != 9)))) then
        bif ((inB s12 (List.length b9)) || (!(!(bif ((((List.getD b9 (Int.toNat s12) (0, 0, 0, 0, ()))).1) != 9) then true else (decide (((List.getD b9 (Int.toNat s12) (0, 0, 0, 0, ()))).2.2.2.1 < 1)))))) then
          bif ((inB s12 (List.length b9)) || (!((!(bif ((((List.getD b9 (Int.toNat s12) (0, 0, 0, 0, ()))).1) != 9) then true else (decide (((List.getD b9 (Int.toNat s12) (0, 0, 0, 0, ()))).2.2.2.1 < 1)))) && ((((List.getD b9 (Int.toNat s12) (0, 0, 0, 0, ()))).2.2.1) != 1)))) then
            bif (bif (bif ((((List.getD b9 (Int.toNat s12) (0, 0, 0, 0, ()))).1) != 9) then true else (decide (((List.getD b9 (Int.toNat s12) (0, 0, 0, 0, ()))).2.2.2.1 < 1))) then true else (bif ((((List.getD b9 (Int.toNat s12) (0, 0, 0, 0, ()))).2.2.1) != 1) then ((((List.getD b9 (Int.toNat s12) (0, 0, 0, 0, ()))).2.2.1) != 2) else false)) then
              .ret (.tv (B false))
            else
              bif (inB s12 (List.length b9)) then
                bif ((((List.getD b9 (Int.toNat s12) (0, 0, 0, 0, ()))).2.2.1) == 1) then
                  bif (inB s12 (List.length b9)) then
                    .loop M21q.body M21q.kont (S21q s0 s1 (w (s10 + (((List.getD b9 (Int.toNat s12) (0, 0, 0, 0, ()))).2.2.2.1))) s11 (w (s12 + 1)) b6 b9)
                  else
                    .fail
                else
                  bif (inB s12 (List.length b9)) then
                    .loop M21q.body M21q.kont (S21q s0 s1 s10 (w (s11 + (((List.getD b9 (Int.toNat s12) (0, 0, 0, 0, ()))).2.2.2.1))) (w (s12 + 1)) b6 b9)
                  else
                    .fail
              else
                .fail
          else
            .fail
        else
          .fail
      else
        .fail
    else
      .fail
  else
    bif ((k45 s10 b6) || (!(decide (s10 ≤ 1000000000000000)))) then
      bif ((k59 b9) || (!(((decide (s10 ≤ 1000000000000000)) && (!(decide (s11 > (r45 s10 b6))))) && (decide (b6.2.2.2.2.1 ≥ 0))))) then
        bif ((k59 b9) || (!(!(bif (decide (s10 ≤ 1000000000000000)) then (bif (decide (s11 > (r45 s10 b6))) then true else (bif (decide (b6.2.2.2.2.1 ≥ 0)) then (decide ((r59 b9) < 0)) else false)) else false)))) then
          bif (bif (bif (decide (s10 ≤ 1000000000000000)) then (bif (decide (s11 > (r45 s10 b6))) then true else (bif (decide (b6.2.2.2.2.1 ≥ 0)) then (decide ((r59 b9) < 0)) else false)) else false) then true else ((r59 b9) != (w (s10 - s11)))) then
            .ret (.tv (B false))
          else
            .loop M21qa.body M21qa.kont (S21qa s0 s1 0 b9)
        else
          .fail
      else
        .fail
    else
      .fail := by kernel_rfl
theorem i21qa (G : Tbl) (k39 : (Ty.D Q4) → Bool) (r39 : (Ty.D Q4) → Int) (k45 : Int → (Ty.D Conf) → Bool) (r45 : Int → (Ty.D Conf) → Int) (k54 : (List (Ty.D Q4)) → (List Int) → Bool) (r54 : (List (Ty.D Q4)) → (List Int) → Bool) (k55 : (Ty.D Conf) → Bool) (r55 : (Ty.D Conf) → Bool) (k56 : Bool) (r56 : Bool) (k57 : (List (Ty.D Q4)) → Int → (Ty.D Conf) → Int → (List Int) → Bool) (r57 : (List (Ty.D Q4)) → Int → (Ty.D Conf) → Int → (List Int) → (List (Ty.D Q4))) (k59 : (List (Ty.D Q4)) → Bool) (r59 : (List (Ty.D Q4)) → Int) (k63 : (List (Ty.D Q4)) → Bool) (r63 : (List (Ty.D Q4)) → Bool) (k64 : (Ty.D Q4) → (List (Ty.D Q4)) → Bool) (r64 : (Ty.D Q4) → (List (Ty.D Q4)) → Int) (s0 : (List (Ty.D Q4))) (s1 : Int) (s13 : Int) (b9 : (List (Ty.D Q4))) :
    runL (((((((((G.add 21 (FC1 Q4 k39 (fun x0 => .tv (I (r39 x0))))).add 18 (FC2 (.int .i64) Conf k45 (fun x0 x1 => .tv (I (r45 x0 x1))))).add 8 (FC2 (.slice (.cons (.int .i64) (.cons (.int .i64) (.cons (.int .i64) (.cons (.int .i64) (.nil)))))) (.slice (.int .i64)) k54 (fun x0 x1 => .tv (B (r54 x0 x1))))).add 9 (FC1 Conf k55 (fun x0 => .tv (B (r55 x0))))).add 10 (FC0  k56 (.tv (B r56)))).add 12 (FC5 (.slice (.cons (.int .i64) (.cons (.int .i64) (.cons (.int .i64) (.cons (.int .i64) (.nil)))))) (.int .i64) Conf (.int .i64) (.slice (.int .i64)) k57 (fun x0 x1 x2 x3 x4 => .own Q4 (r57 x0 x1 x2 x3 x4)))).add 14 (FC1 (.slice (.cons (.int .i64) (.cons (.int .i64) (.cons (.int .i64) (.cons (.int .i64) (.nil)))))) k59 (fun x0 => .tv (I (r59 x0))))).add 19 (FC1 (.slice (.cons (.int .i64) (.cons (.int .i64) (.cons (.int .i64) (.cons (.int .i64) (.nil)))))) k63 (fun x0 => .tv (B (r63 x0))))).add 20 (FC2 Q4 (.slice (.cons (.int .i64) (.cons (.int .i64) (.cons (.int .i64) (.cons (.int .i64) (.nil)))))) k64 (fun x0 x1 => .tv (I (r64 x0 x1))))) [(386, [0, 1, 6, 9, 10, 11, 12]), (1026, [0, 1, 9, 13])] Try.f6 1000 M21qa.round (S21qa s0 s1 s13 b9) =
  bif (decide (s13 < ((List.length s0 : Nat) : Int))) then
    bif (inB s13 (List.length s0)) then
      bif (inB s13 (List.length s0)) then
        bif (k64 (List.getD s0 (Int.toNat s13) (0, 0, 0, 0, ())) b9) then
          bif ((k39 (((List.getD s0 (Int.toNat s13) (0, 0, 0, 0, ()))).1, ((List.getD s0 (Int.toNat s13) (0, 0, 0, 0, ()))).2.1, (r64 (List.getD s0 (Int.toNat s13) (0, 0, 0, 0, ())) b9), ((List.getD s0 (Int.toNat s13) (0, 0, 0, 0, ()))).2.2.2.1, ())) || (!(!(decide ((r64 (List.getD s0 (Int.toNat s13) (0, 0, 0, 0, ())) b9) < 0))))) then
            bif ((inB s13 (List.length s0)) || (!(!(decide ((r64 (List.getD s0 (Int.toNat s13) (0, 0, 0, 0, ())) b9) < 0))))) then
              bif ((k39 (List.getD s0 (Int.toNat s13) (0, 0, 0, 0, ()))) || (!(!(decide ((r64 (List.getD s0 (Int.toNat s13) (0, 0, 0, 0, ())) b9) < 0))))) then
                bif ((k39 (((List.getD s0 (Int.toNat s13) (0, 0, 0, 0, ()))).1, ((List.getD s0 (Int.toNat s13) (0, 0, 0, 0, ()))).2.1, (r64 (List.getD s0 (Int.toNat s13) (0, 0, 0, 0, ())) b9), ((List.getD s0 (Int.toNat s13) (0, 0, 0, 0, ()))).2.2.2.1, ())) || (!((!(bif (decide ((r64 (List.getD s0 (Int.toNat s13) (0, 0, 0, 0, ())) b9) < 0)) then true else (decide ((r39 (((List.getD s0 (Int.toNat s13) (0, 0, 0, 0, ()))).1, ((List.getD s0 (Int.toNat s13) (0, 0, 0, 0, ()))).2.1, (r64 (List.getD s0 (Int.toNat s13) (0, 0, 0, 0, ())) b9), ((List.getD s0 (Int.toNat s13) (0, 0, 0, 0, ()))).2.2.2.1, ())) > (r39 (List.getD s0 (Int.toNat s13) (0, 0, 0, 0, ()))))))) && (decide (((List.getD s0 (Int.toNat s13) (0, 0, 0, 0, ()))).1 ≤ s1))))) then
                  bif (bif (bif (decide ((r64 (List.getD s0 (Int.toNat s13) (0, 0, 0, 0, ())) b9) < 0)) then true else (decide ((r39 (((List.getD s0 (Int.toNat s13) (0, 0, 0, 0, ()))).1, ((List.getD s0 (Int.toNat s13) (0, 0, 0, 0, ()))).2.1, (r64 (List.getD s0 (Int.toNat s13) (0, 0, 0, 0, ())) b9), ((List.getD s0 (Int.toNat s13) (0, 0, 0, 0, ()))).2.2.2.1, ())) > (r39 (List.getD s0 (Int.toNat s13) (0, 0, 0, 0, ())))))) then true else (bif (decide (((List.getD s0 (Int.toNat s13) (0, 0, 0, 0, ()))).1 ≤ s1)) then ((r39 (((List.getD s0 (Int.toNat s13) (0, 0, 0, 0, ()))).1, ((List.getD s0 (Int.toNat s13) (0, 0, 0, 0, ()))).2.1, (r64 (List.getD s0 (Int.toNat s13) (0, 0, 0, 0, ())) b9), ((List.getD s0 (Int.toNat s13) (0, 0, 0, 0, ()))).2.2.2.1, ())) != 0) else false)) then
                    .ret (.tv (B false))
                  else
                    .loop M21qa.body M21qa.kont (S21qa s0 s1 (w (s13 + 1)) b9)
                else
                  .fail
              else
                .fail
            else
              .fail
          else
            .fail
        else
          .fail
      else
        .fail
    else
      .fail
  else
    bif k56 then
      .ret (.tv (B r56))
    else
      .fail := by kernel_rfl
theorem e21q (G : Tbl) (k39 : (Ty.D Q4) → Bool) (r39 : (Ty.D Q4) → Int) (k45 : Int → (Ty.D Conf) → Bool) (r45 : Int → (Ty.D Conf) → Int) (k54 : (List (Ty.D Q4)) → (List Int) → Bool) (r54 : (List (Ty.D Q4)) → (List Int) → Bool) (k55 : (Ty.D Conf) → Bool) (r55 : (Ty.D Conf) → Bool) (k56 : Bool) (r56 : Bool) (k57 : (List (Ty.D Q4)) → Int → (Ty.D Conf) → Int → (List Int) → Bool) (r57 : (List (Ty.D Q4)) → Int → (Ty.D Conf) → Int → (List Int) → (List (Ty.D Q4))) (k59 : (List (Ty.D Q4)) → Bool) (r59 : (List (Ty.D Q4)) → Int) (k63 : (List (Ty.D Q4)) → Bool) (r63 : (List (Ty.D Q4)) → Bool) (k64 : (Ty.D Q4) → (List (Ty.D Q4)) → Bool) (r64 : (Ty.D Q4) → (List (Ty.D Q4)) → Int) (a0 : (List (Ty.D Q4))) (a1 : Int) (a2 : (Ty.D Conf)) (a3 : (List Int)) :
    runL (((((((((G.add 21 (FC1 Q4 k39 (fun x0 => .tv (I (r39 x0))))).add 18 (FC2 (.int .i64) Conf k45 (fun x0 x1 => .tv (I (r45 x0 x1))))).add 8 (FC2 (.slice (.cons (.int .i64) (.cons (.int .i64) (.cons (.int .i64) (.cons (.int .i64) (.nil)))))) (.slice (.int .i64)) k54 (fun x0 x1 => .tv (B (r54 x0 x1))))).add 9 (FC1 Conf k55 (fun x0 => .tv (B (r55 x0))))).add 10 (FC0  k56 (.tv (B r56)))).add 12 (FC5 (.slice (.cons (.int .i64) (.cons (.int .i64) (.cons (.int .i64) (.cons (.int .i64) (.nil)))))) (.int .i64) Conf (.int .i64) (.slice (.int .i64)) k57 (fun x0 x1 x2 x3 x4 => .own Q4 (r57 x0 x1 x2 x3 x4)))).add 14 (FC1 (.slice (.cons (.int .i64) (.cons (.int .i64) (.cons (.int .i64) (.cons (.int .i64) (.nil)))))) k59 (fun x0 => .tv (I (r59 x0))))).add 19 (FC1 (.slice (.cons (.int .i64) (.cons (.int .i64) (.cons (.int .i64) (.cons (.int .i64) (.nil)))))) k63 (fun x0 => .tv (B (r63 x0))))).add 20 (FC2 Q4 (.slice (.cons (.int .i64) (.cons (.int .i64) (.cons (.int .i64) (.cons (.int .i64) (.nil)))))) k64 (fun x0 x1 => .tv (I (r64 x0 x1))))) [(386, [0, 1, 6, 9, 10, 11, 12]), (1026, [0, 1, 9, 13])] Try.f6 1000 (bod Try.f6) (entry [(TD.mk (.slice (.cons (.int .i64) (.cons (.int .i64) (.cons (.int .i64) (.cons (.int .i64) (.nil)))))) a0), (I a1), (TD.mk Conf a2), (TD.mk (.slice (.int .i64)) a3)]) =
  bif (k54 a0 a3) then
    bif ((k63 a0) || (!(!(!(r54 a0 a3))))) then
      bif ((k55 a2) || (!(!(bif (!(r54 a0 a3)) then true else (!(r63 a0)))))) then
        bif (bif (bif (!(r54 a0 a3)) then true else (!(r63 a0))) then true else (!(r55 a2))) then
          bif k56 then
            .ret (.tv (B r56))
          else
            .fail
        else
          bif (k57 a0 a1 a2 9 a3) then
            .loop M21q.body M21q.kont (S21q a0 a1 0 0 0 a2 (r57 a0 a1 a2 9 a3))
          else
            .fail
      else
        .fail
    else
      .fail
  else
    .fail := by kernel_rfl

noncomputable def G21 : Tbl := ((((((((Tbl.none.add 21 FArr).add 18 FLimit).add 8 FMod).add 9 FSmC).add 10 FAwake).add 12 FPay).add 14 FCash).add 19 FClean).add 20 FRc
abbrev Go21 (L : Leaf) : Prop := Goes G21 T Try.f6.ntmps Try.f6.results.toList L (.tv (B true))
theorem second21 (l : List Q4.D) (hl : l.length ≤ lenBound) (to : Int) (p : List Q4.D) (hp : lenOK p.length = true)
    (h : ∀ b ∈ l, 0 ≤ rcV b p ∧ arrV (b.1, b.2.1, rcV b p, b.2.2.2.1, ()) ≤ arrV b ∧ (b.1 ≤ to → arrV (b.1, b.2.1, rcV b p, b.2.2.2.1, ()) = 0)) : ∀ (n i : Nat), i + n = l.length → Go21 (.loop M21qa.body M21qa.kont (S21qa l to i p))
  | 0, i, hi => by
    refine Goes.lp' (i21qa Tbl.none kA arrV limK limC mK modV cT smC true true payK payV lnK cashV lnK (fun l => cleanG l 0 l) rcK rcV l to i p) ?_
    rw [decide_eq_false (show ¬ (i : Int) < ((l.length : Nat) : Int) by omega)]
    exact .ret _
  | n + 1, i, hi => by
    refine Goes.lp' (i21qa Tbl.none kA arrV limK limC mK modV cT smC true true payK payV lnK cashV lnK (fun l => cleanG l 0 l) rcK rcV l to i p) ?_
    have hil : (i : Int) < ((l.length : Nat) : Int) := by omega
    rw [decide_eq_true hil, toNat_lt (by omega) hil, Int.toNat_natCast, w_step (by omega) hil hl]
    have hb := h (l.getD i (0, 0, 0, 0, ())) (by rw [List.getD, List.getElem?_eq_getElem (by omega)]; exact List.getElem_mem _)
    generalize l.getD i (0, 0, 0, 0, ()) = b at *
    obtain ⟨h1, h2, h3⟩ := hb
    rw [show rcK b p = true from hp, show kA b = true from rfl]
    simp only [cond_true, Bool.true_or]
    generalize rcV b p = n' at *
    rw [show kA (b.1, b.2.1, n', b.2.2.2.1, ()) = true from rfl]
    simp only [cond_true, Bool.true_or]
    generalize arrV (b.1, b.2.1, n', b.2.2.2.1, ()) = a' at *
    rw [decide_eq_false (show ¬ n' < 0 by omega), cond_false, decide_eq_false (show ¬ a' > arrV b by omega), cond_false]
    have e : (bif decide (b.1 ≤ to) then a' != 0 else false) = false := by
      cases hd : decide (b.1 ≤ to)
      · rfl
      · rw [cond_true, h3 (of_decide_eq_true hd)]; rfl
    rw [e, cond_false]
    exact second21 l hl to p hp h n (i + 1) (by omega)
theorem first21 (l : List Q4.D) (hl : l.length ≤ lenBound) (to : Int) (c : Conf.D) (p : List Q4.D) (hp : lenOK p.length = true) (hP : Posted p) (S Tk : Int) (hK : limK S c = true) (hT : Tk ≤ limC S c) (hC : 0 ≤ cashV p) (hE : cashV p = w (S - Tk))
    (h : Go21 (.loop M21qa.body M21qa.kont (S21qa l to 0 p))) : ∀ (n i : Nat) (s t : Int), i + n = p.length → aG (p.drop i) s = S → tG (p.drop i) t = Tk → Go21 (.loop M21q.body M21q.kont (S21q l to s t i c p))
  | 0, i, s, t, hi, hS, hTk => by
    refine Goes.lp' (i21q Tbl.none kA arrV limK limC mK modV cT smC true true payK payV lnK cashV lnK (fun l => cleanG l 0 l) rcK rcV l to s t i c p) ?_
    rw [drop_end (by omega)] at hS hTk
    have hS : s = S := hS
    have hTk : t = Tk := hTk
    subst hS; subst hTk
    rw [decide_eq_false (show ¬ (i : Int) < ((p.length : Nat) : Int) by omega), cond_false, hK, show lnK p = true from hp]
    simp only [cond_true, Bool.true_or]
    rw [decide_eq_false (show ¬ t > limC s c by omega), decide_eq_false (show ¬ cashV p < 0 by omega), cond_false, hE, show (w (s - t) != w (s - t)) = false by simp]
    have e : (bif (bif decide (s ≤ 1000000000000000) then (bif decide (c.2.2.2.2.1 ≥ 0) then false else false) else false) then true else false) = false := by
      cases decide (s ≤ 1000000000000000) <;> cases decide (c.2.2.2.2.1 ≥ 0) <;> rfl
    rw [e]
    exact h
  | n + 1, i, s, t, hi, hS, hTk => by
    refine Goes.lp' (i21q Tbl.none kA arrV limK limC mK modV cT smC true true payK payV lnK cashV lnK (fun l => cleanG l 0 l) rcK rcV l to s t i c p) ?_
    have hil : (i : Int) < ((p.length : Nat) : Int) := by omega
    rw [drop_cons p (0, 0, 0, 0, ()) i (by omega)] at hS hTk
    have hx := hP (p.getD i (0, 0, 0, 0, ())) (by rw [List.getD, List.getElem?_eq_getElem (by omega)]; exact List.getElem_mem _)
    rw [decide_eq_true hil, toNat_lt (by omega) hil, Int.toNat_natCast, w_step (by omega) hil (lenOK_spec hp)]
    generalize p.getD i (0, 0, 0, 0, ()) = x at *
    obtain ⟨x1, x2, x3⟩ := hx
    simp only [cond_true, Bool.true_or]
    rw [show (x.1 != (9 : Int)) = false by show (dat x != 9) = false; rw [x1]; rfl, decide_eq_false (show ¬ x.2.2.2.1 < 1 from (by omega : ¬ cen x < 1)), cond_false, cond_false]
    have hS : aG (p.drop (i + 1)) (bif x.2.2.1 == 1 then w (s + x.2.2.2.1) else s) = S := hS
    have hTk : tG (p.drop (i + 1)) (bif x.2.2.1 == 1 then t else w (t + x.2.2.2.1)) = Tk := hTk
    rcases x3 with x3 | x3
    · have x3 : x.2.2.1 = 1 := x3
      rw [x3] at hS hTk ⊢
      show Go21 (.loop M21q.body M21q.kont (S21q l to (w (s + x.2.2.2.1)) t ((i : Int) + 1) c p))
      exact first21 l hl to c p hp hP S Tk hK hT hC hE h n (i + 1) _ _ (by omega) hS hTk
    · have x3 : x.2.2.1 = 2 := x3
      rw [x3] at hS hTk ⊢
      show Go21 (.loop M21q.body M21q.kont (S21q l to s (w (t + x.2.2.2.1)) ((i : Int) + 1) c p))
      exact first21 l hl to c p hp hP S Tk hK hT hC hE h n (i + 1) _ _ (by omega) hS hTk
theorem nodup_split {l : List Q4.D} (h : (l.map mon).Nodup) {b : Q4.D} (hb : b ∈ l) : ∃ pre post, l = pre ++ b :: post ∧ (∀ x ∈ pre, mon x ≠ mon b) ∧ ∀ x ∈ post, mon x ≠ mon b := by
  obtain ⟨pre, post, rfl⟩ := List.append_of_mem hb
  refine ⟨pre, post, rfl, fun x hx e => ?_, fun x hx e => ?_⟩
  · rw [List.map_append, List.map_cons, List.nodup_append] at h
    exact h.2.2 (mon x) (List.mem_map.2 ⟨x, hx, rfl⟩) (mon b) (.head _) e
  · rw [List.map_append, List.map_cons, List.nodup_append] at h
    exact (List.nodup_cons.1 h.2.1).1 (e ▸ List.mem_map.2 ⟨x, hx, rfl⟩)
theorem has21q : Hs 6 F21 := by
  refine Has.fc4 (fn := Try.f6) (((((((((env0.more has27b).more has33b).more has54).more has55).more has56).more has57).more has59).more has63).more has64) (by kernel_rfl) (by kernel_rfl) (by kernel_rfl) (by kernel_rfl)
    fun (l : List Q4.D) (to : Int) (c : Conf.D) (st : List Int) h => .run1 (e21q Tbl.none kA arrV limK limC mK modV cT smC true true payK payV lnK cashV lnK (fun l => cleanG l 0 l) rcK rcV l to c st) ?_
  have hc : confOk c = true := h
  rw [show mK l st = true from rfl, show cT c = true from rfl, cond_true]
  cases m1 : modV l st
  · simp only [Bool.not_false, Bool.not_true, Bool.or_true, cond_true]
    exact .ret _
  have hL : lnK l = true := lenOK_le (by have := (mod_spec m1).1; unfold lenBound; omega)
  rw [hL]
  simp only [cond_true, Bool.true_or, Bool.not_true, cond_false]
  refine .bif (fun g => .ret _) fun g => ?_
  rw [bor_bif] at g
  have m2 := (Bool.or_eq_false_iff.1 g).1
  rw [Bool.not_eq_false'] at m2
  obtain ⟨l1, l2, l3⟩ := mod_spec m1
  obtain ⟨c1, c2, _⟩ := clean_spec l l 0 rfl m2
  have hM : ∀ b ∈ l, Mod b := fun b hb => by
    have a := l3 b hb
    have d := c1 b hb
    unfold Mod
    omega
  have hk : payK l to c 9 st = true := by
    unfold payK; rw [decide_eq_true (show l.length ≤ 1000 by omega), lenOK_le (show st.length ≤ lenBound by unfold lenBound; omega), hc]; rfl
  rw [hk, cond_true]
  have hv := payV_len (l := l) (by omega) to c 9 st
  have hpl : lenOK (payV l to c 9 st).length = true := lenOK_le (by unfold lenBound; omega)
  have eP : payV l to c 9 st = pays to 9 l ++ (distG 9 2 st l (limC (aG (pays to 9 l) 0) c) []).1 := by
    unfold payV
    rw [payG_acc]
    rfl
  obtain ⟨s0, s1⟩ := aG_pays to 9 l 0 hM (Int.le_refl _) (by omega)
  have hcf := hc
  unfold confOk at hcf
  rw [Bool.and_eq_true] at hcf
  generalize hSe : aG (pays to 9 l) 0 = S at *
  have hS64 : i64ok S = true := i64of (by omega)
  have lim : 0 ≤ limC S c := (limV_le S _ _).1
  have limS : limC S c ≤ max S 0 := limV_max S _ _
  have rest := dist_rest 9 2 st l (limC S c) lim
  have tot := dist_sum 9 2 st l (limC S c)
  obtain ⟨t0, folds⟩ := plan_folds (distG 9 2 st l (limC S c) []).1 fun x hx => ⟨(dist_mon 9 2 st l _ x hx).2.2.1, (dist_mon 9 2 st l _ x hx).2.2.2⟩
  have hcash : cashV (payV l to c 9 st) = S - tsum (distG 9 2 st l (limC S c) []).1 := by
    unfold cashV
    rw [eP, cashG_app, (pay_folds to 9 l 0).2, hSe]
    exact (folds S).2.2 (by omega) (by omega)
  have hsec := second21 l (lenOK_spec hL) to (payV l to c 9 st) hpl (fun b hb => by
    obtain ⟨pre, post, e, h1, h2⟩ := nodup_split c2 hb
    have := month to st pre b post (limC S c) (hM b hb) h1 h2
    rw [← e] at this
    unfold rcV
    rw [eP]
    exact ⟨this.1, this.2 _ rfl⟩) l.length 0 (by omega)
  refine first21 l (lenOK_spec hL) to c (payV l to c 9 st) hpl (fun x hx => ?_) S (tsum (distG 9 2 st l (limC S c) []).1) (cK hS64 hcf) (by omega) (by omega) (by rw [hcash]; exact (wrap_id (by omega) (by omega)).symm) hsec (payV l to c 9 st).length 0 0 0 (by omega) ?_ ?_
  · rw [eP] at hx
    rcases List.mem_append.1 hx with hx | hx
    · obtain ⟨b, hb, hpb, rfl⟩ := pays_mem hx
      refine ⟨rfl, ?_, .inl rfl⟩
      show 1 ≤ arrV b
      unfold payB at hpb
      cases hle : decide (b.1 ≤ to)
      · rw [hle, cond_false] at hpb; cases hpb
      · rw [hle, cond_true] at hpb; have := of_decide_eq_true hpb; omega
    · obtain ⟨_, d1, d2, d3⟩ := dist_mon 9 2 st l _ x hx
      exact ⟨d1, d3, .inr d2⟩
  · rw [List.drop_zero, eP, aG_app, hSe]
    exact (folds S).1
  · rw [List.drop_zero, eP, tG_app, (pay_folds to 9 l 0).1, (folds 0).2.1 (Int.le_refl _) (by omega)]
    omega
end Go.Lift.L40
