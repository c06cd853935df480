/- A part of the proof that the law returns true for every input: no condition. -/
import Derived.Test.YteohihdkpnbcdadR
import Derived.Test.YteohihdkpnbcdadE2
set_option maxRecDepth 100000
set_option linter.unusedVariables false
set_option linter.unusedSimpArgs false
namespace Go.Lift.L40
open Go.Lift Go.Proofs

/-! types -/
abbrev Q4 : Ty := .cons (.int .i64) (.cons (.int .i64) (.cons (.int .i64) (.cons (.int .i64) .nil)))
abbrev Conf : Ty := .cons (.int .i64) (.cons (.int .i64) (.cons (.int .i64) (.cons (.int .i64) (.cons (.int .i64) (.cons (.int .i64) (.cons (.int .i64) (.cons (.cons (.int .i64) (.cons (.slice (.int .i64)) .nil)) .nil)))))))
theorem toNat_lt {i : Int} {n : Nat} (h0 : 0 ≤ i) (h : i < (n : Int)) : inB i n = true := by
  unfold inB; rw [decide_eq_true h0, decide_eq_true h]; rfl
theorem w_step {i : Int} {n : Nat} (h0 : 0 ≤ i) (h : i < (n : Int)) (hn : n ≤ lenBound) : w (i + 1) = i + 1 := by
  have : n ≤ 68719476736 := hn
  exact wrap_id (by omega) (by omega)
theorem lenOK_spec {n : Nat} (h : lenOK n = true) : n ≤ lenBound := of_decide_eq_true h
theorem drop_cons {α : Type} (l : List α) (z : α) (i : Nat) (h : i < l.length) : l.drop i = l.getD i z :: l.drop (i + 1) := by
  rw [List.drop_eq_getElem_cons h]
  simp [List.getD, List.getElem?_eq_getElem h]
theorem drop_end {α : Type} {l : List α} {i : Nat} (h : l.length ≤ i) : l.drop i = [] := List.drop_eq_nil_of_le h

/-! balances -/
def arrV (b : Q4.D) : Int := maxI [0] (w (b.2.1 - b.2.2.1))
def overV (b : Q4.D) : Int := maxI [0] (w ((w (b.2.2.1 - b.2.1)) - b.2.2.2.1))
def FArr := FC1 Q4 (fun _ => true) fun b => .tv (I (arrV b))
def FOver := FC1 Q4 (fun _ => true) fun b => .tv (I (overV b))
theorem e27b (G : Tbl)  (a0 : Ty.D Q4) :
    runL G [] Try.f21 1000 (bod Try.f21) (entry [(TD.mk Q4 a0)]) =
  .ret (.tv (I (maxI [0] (w (a0.2.1 - a0.2.2.1))))) := by kernel_rfl
theorem e28b (G : Tbl)  (a0 : Ty.D Q4) :
    runL G [] Try.f26 1000 (bod Try.f26) (entry [(TD.mk Q4 a0)]) =
  .ret (.tv (I (maxI [0] (w (a0.2.1 - a0.2.2.1))))) := by kernel_rfl
theorem e29b (G : Tbl)  (a0 : Ty.D Q4) :
    runL G [] Try.f37 1000 (bod Try.f37) (entry [(TD.mk Q4 a0)]) =
  .ret (.tv (I (maxI [0] (w ((w (a0.2.2.1 - a0.2.1)) - a0.2.2.2.1))))) := by kernel_rfl
theorem e30b (G : Tbl)  (a0 : Ty.D Q4) :
    runL G [] Try.f39 1000 (bod Try.f39) (entry [(TD.mk Q4 a0)]) =
  .ret (.tv (I (maxI [0] (w ((w (a0.2.2.1 - a0.2.1)) - a0.2.2.2.1))))) := by kernel_rfl
theorem has27b : Hs 21 FArr := Has.fc1 (fn := Try.f21) env0 (by kernel_rfl) (by kernel_rfl) (by kernel_rfl) (by kernel_rfl) fun b _ => .run1 (e27b Tbl.none b) (.ret _)
theorem has28b : Hs 26 FArr := Has.fc1 (fn := Try.f26) env0 (by kernel_rfl) (by kernel_rfl) (by kernel_rfl) (by kernel_rfl) fun b _ => .run1 (e28b Tbl.none b) (.ret _)
theorem has29b : Hs 37 FOver := Has.fc1 (fn := Try.f37) env0 (by kernel_rfl) (by kernel_rfl) (by kernel_rfl) (by kernel_rfl) fun b _ => .run1 (e29b Tbl.none b) (.ret _)
theorem has30b : Hs 39 FOver := Has.fc1 (fn := Try.f39) env0 (by kernel_rfl) (by kernel_rfl) (by kernel_rfl) (by kernel_rfl) fun b _ => .run1 (e30b Tbl.none b) (.ret _)
def withinV (b : Q4.D) (m : Int) : Bool := ((((decide (b.2.1 ≥ -m) && decide (b.2.1 ≤ m)) && decide (b.2.2.1 ≥ -m)) && decide (b.2.2.1 ≤ m)) && decide (b.2.2.2.1 ≥ -m)) && decide (b.2.2.2.1 ≤ m)
def FWithin := FC2 Q4 (.int .i64) (fun _ m => limOk m) fun b m => .tv (B (withinV b m))
/-! the limit -/
theorem maxI1 (a b : Int) : maxI [b] a = max a b := by show (if b > a then b else a) = _; omega
theorem minI1 (a b : Int) : minI [b] a = min a b := by show (if b < a then b else a) = _; omega
def limV (p cap floor : Int) : Int :=
  bif decide (p < 1) then 0 else bif (mdRes p cap 1000000 0).2 != 0 then 0 else max 0 (min (mdRes p cap 1000000 0).1 (p - max floor 0))
def ap0 (p cap m : Int) : Int := (mdRes p cap 1000000 m).1
def ap1 (p cap m : Int) : Int := (mdRes p cap 1000000 m).2
def apk (p cap _m : Int) : Bool := i64ok p && i64ok cap
def FLimit := FC2 (.int .i64) Conf (fun p c => i64ok p && i64ok c.2.2.2.1 && i64ok c.2.2.2.2.1) fun p c => .tv (I (limV p c.2.2.2.1 c.2.2.2.2.1))
theorem e33 (G : Tbl) (k65 : Int → Int → Int → Bool) (r65_0 : Int → Int → Int → Int) (r65_1 : Int → Int → Int → Int) (a0 : Int) (a1 : Ty.D Conf) :
    runL (G.add 29 (FC3 (.int .i64) (.int .i64) (.int .i64) k65 (fun x0 x1 x2 => .tup [.tv (I (r65_0 x0 x1 x2)), .tv (I (r65_1 x0 x1 x2))]))) [] Try.f18 1000 (bod Try.f18) (entry [(I a0), (TD.mk Conf a1)]) =
  bif (decide (a0 < 1)) then
    .ret (.tv (I 0))
  else
    bif (k65 a0 a1.2.2.2.1 0) then
      bif ((r65_1 a0 a1.2.2.2.1 0) != 0) then
        .ret (.tv (I 0))
      else
        .ret (.tv (I (maxI [(minI [(r65_0 a0 a1.2.2.2.1 0)] (w (a0 - (maxI [0] a1.2.2.2.2.1))))] 0)))
    else
      .fail := by kernel_rfl
theorem lim_w {p f : Int} (hp : i64ok p = true) (h1 : ¬ p < 1) (hf : i64ok f = true) : w (p - max f 0) = p - max f 0 := by
  have a := i64ok_spec hp
  have b := i64ok_spec hf
  exact wrap_id (by omega) (by omega)
theorem has33b : Hs 18 FLimit := by
  refine Has.fc2 (fn := Try.f18) (env0.more has18) (by kernel_rfl) (by kernel_rfl) (by kernel_rfl) (by kernel_rfl) fun (p : Int) c h => .run1 (e33 Tbl.none apk ap0 ap1 p c) ?_
  simp only [Bool.and_eq_true] at h
  obtain ⟨⟨h1, h2⟩, h3⟩ := h
  generalize c.2.2.2.1 = cap at *
  generalize c.2.2.2.2.1 = fl at *
  unfold limV
  refine .bif (fun h => .ret' (by rw [h]; rfl)) fun h => ?_
  have hk : apk p cap 0 = true := by unfold apk; rw [h1, h2]; rfl
  rw [h, hk, cond_true, cond_false, maxI1, maxI1, minI1, lim_w h1 (of_decide_eq_false h) h3]
  show Goes _ _ _ _ (bif ap1 p cap 0 != 0 then _ else _) (.tv (I (bif ap1 p cap 0 != 0 then 0 else max 0 (min (ap0 p cap 0) _))))
  refine .bif (fun g => .ret' (by rw [g]; rfl)) fun g => .ret' ?_
  rw [g, cond_false]
  congr 2
  generalize ap0 p cap 0 = a
  congr 1
  omega
theorem e34 (G : Tbl) (k66 : Int → Int → Int → Bool) (r66_0 : Int → Int → Int → Int) (r66_1 : Int → Int → Int → Int) (a0 : Int) (a1 : Ty.D Conf) :
    runL (G.add 34 (FC3 (.int .i64) (.int .i64) (.int .i64) k66 (fun x0 x1 x2 => .tup [.tv (I (r66_0 x0 x1 x2)), .tv (I (r66_1 x0 x1 x2))]))) [] Try.f28 1000 (bod Try.f28) (entry [(I a0), (TD.mk Conf a1)]) =
  bif (k66 a0 a1.2.2.2.1 0) then
    bif (bif ((r66_1 a0 a1.2.2.2.1 0) != 0) then true else (decide (a0 < 1))) then
      .ret (.tv (I 0))
    else
      .ret (.tv (I (maxI [(minI [(w (a0 - (maxI [a1.2.2.2.2.1] 0)))] (r66_0 a0 a1.2.2.2.1 0))] 0)))
  else
    .fail := by kernel_rfl
theorem has34b : Hs 28 FLimit := by
  refine Has.fc2 (fn := Try.f28) (env0.more has19) (by kernel_rfl) (by kernel_rfl) (by kernel_rfl) (by kernel_rfl) fun (p : Int) c h => .run1 (e34 Tbl.none apk ap0 ap1 p c) ?_
  simp only [Bool.and_eq_true] at h
  obtain ⟨⟨h1, h2⟩, h3⟩ := h
  generalize c.2.2.2.1 = cap at *
  generalize c.2.2.2.2.1 = fl at *
  unfold limV
  have hk : apk p cap 0 = true := by unfold apk; rw [h1, h2]; rfl
  rw [hk, cond_true, bor_bif, maxI1, maxI1, minI1, show max (0 : Int) fl = max fl 0 by omega]
  show Goes _ _ _ _ (bif (ap1 p cap 0 != 0) || decide (p < 1) then _ else _) (.tv (I (bif decide (p < 1) then 0 else bif ap1 p cap 0 != 0 then 0 else max 0 (min (ap0 p cap 0) _))))
  refine .bif (fun g => .ret' ?_) fun g => .ret' ?_
  · cases hp : decide (p < 1)
    · rw [hp, Bool.or_false] at g
      rw [g]; rfl
    · rfl
  · have g' := Bool.or_eq_false_iff.1 g
    rw [g'.1, g'.2, cond_false, cond_false, lim_w h1 (of_decide_eq_false g'.2) h3]

/-! membership -/
def hasI (l : List Int) (m : Int) : Bool := l.any fun x => x == m
def Fcont := FC2 (.slice (.int .i64)) (.int .i64) (fun l _ => lenOK (List.length l)) fun l m => .tv (B (hasI l m))
noncomputable def M81 : Leaf := .loop (cAt Try.f40 [1, 0, 1, 0, 0]) [.inBlock 0, .code (cAt Try.f40 [1, 1])] ⟨[], []⟩
def S81 (s0 : (List Int)) (s1 : Int) (s5 : Int) : St := ⟨[(0, .tv (TD.mk (.slice (.int .i64)) s0)), (1, .tv (I s1)), (5, .tv (I s5))], []⟩
theorem i81 (G : Tbl)  (s0 : (List Int)) (s1 : Int) (s5 : Int) :
    runL G [(2, [0, 1, 5])] Try.f40 1000 M81.round (S81 s0 s1 s5) =
  bif (decide (s5 < ((List.length s0 : Nat) : Int))) then
    bif (inB s5 (List.length s0)) then
      bif ((List.getD s0 (Int.toNat s5) 0) == s1) then
        .ret (.tv (B true))
      else
        .loop M81.body M81.kont (S81 s0 s1 (w (s5 + 1)))
    else
      .fail
  else
    .ret (.tv (B false)) := by kernel_rfl
theorem e81 (G : Tbl)  (a0 : (List Int)) (a1 : Int) :
    runL G [(2, [0, 1, 5])] Try.f40 1000 (bod Try.f40) (entry [(TD.mk (.slice (.int .i64)) a0), (I a1)]) =
  .loop M81.body M81.kont (S81 a0 a1 0) := by kernel_rfl
theorem loop81 (l : List Int) (m : Int) (hl : l.length ≤ lenBound) : ∀ (k : Nat) (i : Nat), i + k = l.length →
    Goes Tbl.none T Try.f40.ntmps Try.f40.results.toList (.loop M81.body M81.kont (S81 l m i)) (.tv (B (hasI (l.drop i) m)))
  | 0, i, h => by
    refine Goes.lp' (i81 Tbl.none l m i) ?_
    rw [decide_eq_false (show ¬ (i : Int) < ((l.length : Nat) : Int) by omega), drop_end (by omega)]
    exact .ret _
  | k + 1, i, h => by
    refine Goes.lp' (i81 Tbl.none l m i) ?_
    have hi : (i : Int) < ((l.length : Nat) : Int) := by omega
    rw [decide_eq_true hi, cond_true, toNat_lt (by omega) hi, cond_true, w_step (by omega) hi hl, Int.toNat_natCast, drop_cons l 0 i (by omega)]
    unfold hasI
    rw [List.any_cons]
    refine .bif (fun g => .ret' (by rw [g]; rfl)) fun g => ?_
    rw [g, Bool.false_or]
    exact loop81 l m hl k (i + 1) (by omega)
theorem has81 : Hs 40 Fcont := by
  refine Has.fc2 (fn := Try.f40) env0 (by kernel_rfl) (by kernel_rfl) (by kernel_rfl) (by kernel_rfl) fun (l : List Int) (m : Int) h => .run1 (e81 Tbl.none l m) ?_
  exact loop81 l m (lenOK_spec h) l.length 0 (by omega)
def idxF (m : Int) : List Int → Int → Int
  | [], _ => -1
  | x :: r, i => bif m == x then i else idxF m r (i + 1)
theorem idxF_any (m : Int) : ∀ (l : List Int) (i : Int), 0 ≤ i → decide (idxF m l i ≥ 0) = hasI l m
  | [], i, _ => rfl
  | x :: r, i, h => by
    unfold idxF hasI
    rw [List.any_cons]
    by_cases e : m = x
    · rw [show (m == x) = true by simp [e], show (x == m) = true by simp [e], cond_true, decide_eq_true h]; rfl
    · rw [beq_false_of_ne e, beq_false_of_ne (Ne.symm e), cond_false, Bool.false_or]
      exact idxF_any m r (i + 1) (by omega)
def Fidx := FC2 (.slice (.int .i64)) (.int .i64) (fun l _ => lenOK (List.length l)) fun l m => .tv (I (idxF m l 0))
noncomputable def M97 : Leaf := .loop (cAt Try.f48 [1, 0, 1, 0, 0]) [.inBlock 0, .code (cAt Try.f48 [1, 1])] ⟨[], []⟩
def S97 (s0 : (List Int)) (s1 : Int) (s7 : Int) (s8 : Int) : St := ⟨[(0, .tv (TD.mk (.slice (.int .i64)) s0)), (1, .tv (I s1)), (7, .tv (I s7)), (8, .tv (I s8))], []⟩
theorem i97 (G : Tbl)  (s0 : (List Int)) (s1 : Int) (s7 : Int) (s8 : Int) :
    runL G [(2, [0, 1, 7, 8])] Try.f48 1000 M97.round (S97 s0 s1 s7 s8) =
  bif (decide (s8 < s7)) then
    bif (inB s8 (List.length s0)) then
      bif (s1 == (List.getD s0 (Int.toNat s8) 0)) then
        .ret (.tv (I s8))
      else
        .loop M97.body M97.kont (S97 s0 s1 s7 (w (s8 + 1)))
    else
      .fail
  else
    .ret (.tv (I (-1))) := by kernel_rfl
theorem e97 (G : Tbl)  (a0 : (List Int)) (a1 : Int) :
    runL G [(2, [0, 1, 7, 8])] Try.f48 1000 (bod Try.f48) (entry [(TD.mk (.slice (.int .i64)) a0), (I a1)]) =
  .loop M97.body M97.kont (S97 a0 a1 ((List.length a0 : Nat) : Int) 0) := by kernel_rfl
theorem loop97 (l : List Int) (m : Int) (hl : l.length ≤ lenBound) : ∀ (k : Nat) (i : Nat), i + k = l.length →
    Goes Tbl.none T Try.f48.ntmps Try.f48.results.toList (.loop M97.body M97.kont (S97 l m ((l.length : Nat) : Int) i)) (.tv (I (idxF m (l.drop i) i)))
  | 0, i, h => by
    refine Goes.lp' (i97 Tbl.none l m _ i) ?_
    rw [decide_eq_false (show ¬ (i : Int) < ((l.length : Nat) : Int) by omega), drop_end (by omega)]
    exact .ret _
  | k + 1, i, h => by
    refine Goes.lp' (i97 Tbl.none l m _ i) ?_
    have hi : (i : Int) < ((l.length : Nat) : Int) := by omega
    rw [decide_eq_true hi, cond_true, toNat_lt (by omega) hi, cond_true, w_step (by omega) hi hl, Int.toNat_natCast, drop_cons l 0 i (by omega)]
    unfold idxF
    refine .bif (fun g => .ret' (by rw [g]; rfl)) fun g => ?_
    rw [g]
    exact loop97 l m hl k (i + 1) (by omega)
theorem has97 : Hs 48 Fidx := by
  refine Has.fc2 (fn := Try.f48) env0 (by kernel_rfl) (by kernel_rfl) (by kernel_rfl) (by kernel_rfl) fun (l : List Int) (m : Int) h => .run1 (e97 Tbl.none l m) ?_
  exact loop97 l m (lenOK_spec h) l.length 0 (by omega)
theorem e80 (G : Tbl) (k97 : (List Int) → Int → Bool) (r97 : (List Int) → Int → Int) (a0 : (List Int)) (a1 : Int) :
    runL (G.add 48 (FC2 (.slice (.int .i64)) (.int .i64) k97 (fun x0 x1 => .tv (I (r97 x0 x1))))) [] Try.f38 1000 (bod Try.f38) (entry [(TD.mk (.slice (.int .i64)) a0), (I a1)]) =
  bif (k97 a0 a1) then
    .ret (.tv (B (decide ((r97 a0 a1) ≥ 0))))
  else
    .fail := by kernel_rfl
theorem has80 : Hs 38 Fcont := by
  refine Has.fc2 (fn := Try.f38) (env0.more has97) (by kernel_rfl) (by kernel_rfl) (by kernel_rfl) (by kernel_rfl) fun (l : List Int) (m : Int) h => .run1 (e80 Tbl.none (fun l _ => lenOK (List.length l)) (fun l m => idxF m l 0) l m) ?_
  rw [h, cond_true, idxF_any m l 0 (by omega)]
  exact .ret _
end Go.Lift.L40
set_option maxRecDepth 100000
set_option linter.unusedVariables false
set_option linter.unusedSimpArgs false
namespace Go.Lift.L40
open Go.Lift Go.Proofs

/-! distribute -/
def ovN (b : Q4.D) (left : Int) : Int := min (overV b) left
def distG (d k : Int) (st : List Int) : List Q4.D → Int → List Q4.D → List Q4.D × Int
  | [], left, out => (out, left)
  | b :: r, left, out =>
    bif decide (left > 0) then
      bif decide (ovN b left ≤ 0) || hasI st b.1 then distG d k st r left out
      else distG d k st r (left - ovN b left) (out ++ [(d, b.1, k, ovN b left, ())])
    else (out, left)
def d0 (l : List Q4.D) (left d k : Int) (st : List Int) : List Q4.D := (distG d k st l left []).1
def d1 (l : List Q4.D) (left d k : Int) (st : List Int) : Int := (distG d k st l left []).2
def dk (l : List Q4.D) (left d k : Int) (st : List Int) : Bool := lenOK l.length && lenOK st.length && i64ok left
def kc (l : List Int) (_m : Int) : Bool := lenOK l.length
def kT (_b : Q4.D) : Bool := true
theorem tail_one {α : Type} (b : α) (r : List α) : tail (b :: r) 1 (Int.toNat (((b :: r).length : Nat) : Int)) = r := by
  rw [Int.toNat_natCast]; unfold tail; rw [List.take_length]; rfl
theorem four {b : Q4.D} {r : List Q4.D} : (decide (0 ≤ 1) && decide ((1 : Int) ≤ (((b :: r).length : Nat) : Int)) && decide ((((b :: r).length : Nat) : Int) ≤ (((b :: r).length : Nat) : Int)) && decide ((((b :: r).length : Nat) : Int) ≤ (((b :: r).length : Nat) : Int))) = true := by
  rw [decide_eq_true (show (1 : Int) ≤ (((b :: r).length : Nat) : Int) by rw [List.length_cons]; omega), decide_eq_true (Int.le_refl _)]; rfl
theorem lenA {α : Type} {out : List α} {x : α} (h : out.length + 1 ≤ lenBound) : lenOK (out.length + [x].length) = true := lenOK_le h
theorem mnO (b : Q4.D) (left : Int) : minI [left] (overV b) = ovN b left := minI1 _ _
def Fdist4 := FC4 (.slice Q4) (.int .i64) Q4 (.slice (.int .i64)) (fun l left p st => dk l left p.1 p.2.2.1 st) fun l left p st => .tup [.own Q4 (d0 l left p.1 p.2.2.1 st), .tv (I (d1 l left p.1 p.2.2.1 st))]
def Fdist5 := FC5 (.slice Q4) (.int .i64) (.int .i64) (.int .i64) (.slice (.int .i64)) dk fun l left d k st => .tup [.own Q4 (d0 l left d k st), .tv (I (d1 l left d k st))]
noncomputable def M67 : Leaf := .loop (cAt Try.f32 [1, 1, 0, 1, 0, 0]) [.inBlock 0, .code (cAt Try.f32 [1, 1, 1])] ⟨[], []⟩
def S67 (s1 : Int) (s3 : (List Int)) (s11 : (List (Ty.D Q4))) (b6 : (Ty.D Q4)) (b10 : (List (Ty.D Q4))) : St := ⟨[(1, .tv (I s1)), (3, .tv (TD.mk (.slice (.int .i64)) s3)), (6, .ptr 6 none []), (10, .ref 10), (11, .tv (TD.mk (.slice (.cons (.int .i64) (.cons (.int .i64) (.cons (.int .i64) (.cons (.int .i64) (.nil)))))) s11))], [(6, .var (TD.mk Q4 b6)), (10, .vec Q4 b10)]⟩
theorem i67 (G : Tbl) (k29 : (Ty.D Q4) → Bool) (r29 : (Ty.D Q4) → Int) (k80 : (List Int) → Int → Bool) (r80 : (List Int) → Int → Bool) (s1 : Int) (s3 : (List Int)) (s11 : (List (Ty.D Q4))) (b6 : (Ty.D Q4)) (b10 : (List (Ty.D Q4))) :
    runL ((G.add 37 (FC1 Q4 k29 (fun x0 => .tv (I (r29 x0))))).add 38 (FC2 (.slice (.int .i64)) (.int .i64) k80 (fun x0 x1 => .tv (B (r80 x0 x1))))) [(2, [1, 3, 6, 10, 11])] Try.f32 1000 M67.round (S67 s1 s3 s11 b6 b10) =
  bif (bif (decide (((List.length s11 : Nat) : Int) > 0)) then (decide (s1 > 0)) else false) then
    bif (inB 0 (List.length s11)) then
      bif (k29 (List.getD s11 0 (0, 0, 0, 0, ()))) then
        bif ((k80 s3 (((List.getD s11 0 (0, 0, 0, 0, ()))).1)) || (!(!(decide ((minI [s1] (r29 (List.getD s11 0 (0, 0, 0, 0, ())))) ≤ 0))))) then
          bif (bif (decide ((minI [s1] (r29 (List.getD s11 0 (0, 0, 0, 0, ())))) ≤ 0)) then true else (r80 s3 (((List.getD s11 0 (0, 0, 0, 0, ()))).1))) then
            bif (decide (0 ≤ 1) && decide (1 ≤ ((List.length s11 : Nat) : Int)) && decide (((List.length s11 : Nat) : Int) ≤ ((List.length s11 : Nat) : Int)) && decide (((List.length s11 : Nat) : Int) ≤ ((List.length s11 : Nat) : Int))) then
              .loop M67.body M67.kont (S67 s1 s3 (tail s11 1 (Int.toNat ((List.length s11 : Nat) : Int))) b6 b10)
            else
              .fail
          else
            bif (lenOK ((List.length b10) + (List.length [(b6.1, ((List.getD s11 0 (0, 0, 0, 0, ()))).1, b6.2.2.1, (minI [s1] (r29 (List.getD s11 0 (0, 0, 0, 0, ())))), ())]))) then
              bif (decide (0 ≤ 1) && decide (1 ≤ ((List.length s11 : Nat) : Int)) && decide (((List.length s11 : Nat) : Int) ≤ ((List.length s11 : Nat) : Int)) && decide (((List.length s11 : Nat) : Int) ≤ ((List.length s11 : Nat) : Int))) then
                .loop M67.body M67.kont (S67 (w (s1 - (minI [s1] (r29 (List.getD s11 0 (0, 0, 0, 0, ())))))) s3 (tail s11 1 (Int.toNat ((List.length s11 : Nat) : Int))) (b6.1, ((List.getD s11 0 (0, 0, 0, 0, ()))).1, b6.2.2.1, (minI [s1] (r29 (List.getD s11 0 (0, 0, 0, 0, ())))), ()) (b10 ++ [(b6.1, ((List.getD s11 0 (0, 0, 0, 0, ()))).1, b6.2.2.1, (minI [s1] (r29 (List.getD s11 0 (0, 0, 0, 0, ())))), ())]))
              else
                .fail
            else
              .fail
        else
          .fail
      else
        .fail
    else
      .fail
  else
    .ret (.tup [.own Q4 b10, .tv (I s1)]) := by kernel_rfl
theorem e67 (G : Tbl) (k29 : (Ty.D Q4) → Bool) (r29 : (Ty.D Q4) → Int) (k80 : (List Int) → Int → Bool) (r80 : (List Int) → Int → Bool) (a0 : (List (Ty.D Q4))) (a1 : Int) (a2 : (Ty.D Q4)) (a3 : (List Int)) :
    runL ((G.add 37 (FC1 Q4 k29 (fun x0 => .tv (I (r29 x0))))).add 38 (FC2 (.slice (.int .i64)) (.int .i64) k80 (fun x0 x1 => .tv (B (r80 x0 x1))))) [(2, [1, 3, 6, 10, 11])] Try.f32 1000 (bod Try.f32) (entry [(TD.mk (.slice (.cons (.int .i64) (.cons (.int .i64) (.cons (.int .i64) (.cons (.int .i64) (.nil)))))) a0), (I a1), (TD.mk Q4 a2), (TD.mk (.slice (.int .i64)) a3)]) =
  .loop M67.body M67.kont (S67 a1 a3 a0 a2 []) := by kernel_rfl
abbrev G67 : Tbl := (Tbl.none.add 37 FOver).add 38 Fcont
theorem loop67 (d k : Int) (st : List Int) (hst : lenOK st.length = true) : ∀ (r : List Q4.D) (left m c : Int) (out : List Q4.D), i64ok left = true → out.length + r.length ≤ lenBound →
    Goes G67 T Try.f32.ntmps Try.f32.results.toList (.loop M67.body M67.kont (S67 left st r (d, m, k, c, ()) out)) (.tup [.own Q4 (distG d k st r left out).1, .tv (I (distG d k st r left out).2)])
  | [], left, m, c, out, hl, ho => by
    refine Goes.lp' (i67 Tbl.none kT overV kc hasI left st [] (d, m, k, c, ()) out) ?_
    rw [decide_eq_false (show ¬ ((([] : List Q4.D).length : Nat) : Int) > 0 by simp)]
    exact .ret _
  | b :: r, left, m, c, out, hl, ho => by
    refine Goes.lp' (i67 Tbl.none kT overV kc hasI left st (b :: r) (d, m, k, c, ()) out) ?_
    have hlen : (((b :: r).length : Nat) : Int) > 0 := by rw [List.length_cons]; omega
    rw [decide_eq_true hlen, cond_true, toNat_lt (i := 0) (by omega) (by omega), cond_true, four, tail_one, List.getD_cons_zero, mnO]
    unfold distG
    refine .bif (fun h => ?_) fun h => .ret' (by rw [h]; rfl)
    rw [h, cond_true, cond_true, show kT b = true from rfl, cond_true, show kc st b.1 = true from hst, Bool.true_or, cond_true, bor_bif]
    refine .bif (fun g => ?_) fun g => ?_
    · rw [g, cond_true]
      exact loop67 d k st hst r left m c out hl (by rw [List.length_cons] at ho; omega)
    · have g' := Bool.or_eq_false_iff.1 g
      have n0 := of_decide_eq_false g'.1
      have lp := of_decide_eq_true h
      have ll := i64ok_spec hl
      have nle : ovN b left ≤ left := by unfold ovN; omega
      have e1 : w (left - ovN b left) = left - ovN b left := wrap_id (by omega) (by omega)
      rw [g, cond_false, lenA (show out.length + 1 ≤ lenBound by rw [List.length_cons] at ho; omega), cond_true, e1]
      exact loop67 d k st hst r _ _ _ _ (by unfold i64ok; rw [decide_eq_true (show _ ≤ left - ovN b left by omega), decide_eq_true (show left - ovN b left ≤ _ by omega)]; rfl)
        (by rw [List.length_append, List.length_cons, List.length_nil]; rw [List.length_cons] at ho; omega)
theorem has67 : Hs 32 Fdist4 := by
  refine Has.fc4 (G := G67) (fn := Try.f32) ((env0.more has29b).more has80) (by kernel_rfl) (by kernel_rfl) (by kernel_rfl) (by kernel_rfl)
    fun (l : List Q4.D) (left : Int) (p : Q4.D) (st : List Int) h => .run1 (e67 Tbl.none kT overV kc hasI l left p st) ?_
  unfold dk at h
  rw [Bool.and_eq_true, Bool.and_eq_true] at h
  have := lenOK_spec h.1.1
  exact loop67 p.1 p.2.2.1 st h.1.2 l left p.2.1 p.2.2.2.1 [] h.2 (by rw [List.length_nil]; omega)
noncomputable def M68 : Leaf := .loop (cAt Try.f33 [1, 1, 0, 1, 0, 0]) [.inBlock 0, .code (cAt Try.f33 [1, 1, 1])] ⟨[], []⟩
def S68 (s0 : (List (Ty.D Q4))) (s1 : Int) (s2 : Int) (s3 : Int) (s4 : (List Int)) (s13 : Int) (b12 : (List (Ty.D Q4))) : St := ⟨[(0, .tv (TD.mk (.slice (.cons (.int .i64) (.cons (.int .i64) (.cons (.int .i64) (.cons (.int .i64) (.nil)))))) s0)), (1, .tv (I s1)), (2, .tv (I s2)), (3, .tv (I s3)), (4, .tv (TD.mk (.slice (.int .i64)) s4)), (12, .ref 12), (13, .tv (I s13))], [(12, .vec Q4 b12)]⟩
theorem i68 (G : Tbl) (k30 : (Ty.D Q4) → Bool) (r30 : (Ty.D Q4) → Int) (k81 : (List Int) → Int → Bool) (r81 : (List Int) → Int → Bool) (s0 : (List (Ty.D Q4))) (s1 : Int) (s2 : Int) (s3 : Int) (s4 : (List Int)) (s13 : Int) (b12 : (List (Ty.D Q4))) :
    runL ((G.add 39 (FC1 Q4 k30 (fun x0 => .tv (I (r30 x0))))).add 40 (FC2 (.slice (.int .i64)) (.int .i64) k81 (fun x0 x1 => .tv (B (r81 x0 x1))))) [(2, [0, 1, 2, 3, 4, 12, 13])] Try.f33 1000 M68.round (S68 s0 s1 s2 s3 s4 s13 b12) =
  bif (bif (decide (s13 < ((List.length s0 : Nat) : Int))) then (decide (s1 > 0)) else false) then
    bif (inB s13 (List.length s0)) then
      bif (k30 (List.getD s0 (Int.toNat s13) (0, 0, 0, 0, ()))) then
        bif ((inB s13 (List.length s0)) || (!(!(decide ((minI [s1] (r30 (List.getD s0 (Int.toNat s13) (0, 0, 0, 0, ())))) < 1))))) then
          bif ((k81 s4 (((List.getD s0 (Int.toNat s13) (0, 0, 0, 0, ()))).1)) || (!(!(decide ((minI [s1] (r30 (List.getD s0 (Int.toNat s13) (0, 0, 0, 0, ())))) < 1))))) then
            bif (bif (decide ((minI [s1] (r30 (List.getD s0 (Int.toNat s13) (0, 0, 0, 0, ())))) < 1)) then true else (r81 s4 (((List.getD s0 (Int.toNat s13) (0, 0, 0, 0, ()))).1))) then
              .loop M68.body M68.kont (S68 s0 s1 s2 s3 s4 (w (s13 + 1)) b12)
            else
              bif (inB s13 (List.length s0)) then
                bif (lenOK ((List.length b12) + (List.length [(s2, ((List.getD s0 (Int.toNat s13) (0, 0, 0, 0, ()))).1, s3, (minI [s1] (r30 (List.getD s0 (Int.toNat s13) (0, 0, 0, 0, ())))), ())]))) then
                  .loop M68.body M68.kont (S68 s0 (w (s1 - (minI [s1] (r30 (List.getD s0 (Int.toNat s13) (0, 0, 0, 0, ())))))) s2 s3 s4 (w (s13 + 1)) (b12 ++ [(s2, ((List.getD s0 (Int.toNat s13) (0, 0, 0, 0, ()))).1, s3, (minI [s1] (r30 (List.getD s0 (Int.toNat s13) (0, 0, 0, 0, ())))), ())]))
                else
                  .fail
              else
                .fail
          else
            .fail
        else
          .fail
      else
        .fail
    else
      .fail
  else
    .ret (.tup [.own Q4 b12, .tv (I s1)]) := by kernel_rfl
theorem e68 (G : Tbl) (k30 : (Ty.D Q4) → Bool) (r30 : (Ty.D Q4) → Int) (k81 : (List Int) → Int → Bool) (r81 : (List Int) → Int → Bool) (a0 : (List (Ty.D Q4))) (a1 : Int) (a2 : Int) (a3 : Int) (a4 : (List Int)) :
    runL ((G.add 39 (FC1 Q4 k30 (fun x0 => .tv (I (r30 x0))))).add 40 (FC2 (.slice (.int .i64)) (.int .i64) k81 (fun x0 x1 => .tv (B (r81 x0 x1))))) [(2, [0, 1, 2, 3, 4, 12, 13])] Try.f33 1000 (bod Try.f33) (entry [(TD.mk (.slice (.cons (.int .i64) (.cons (.int .i64) (.cons (.int .i64) (.cons (.int .i64) (.nil)))))) a0), (I a1), (I a2), (I a3), (TD.mk (.slice (.int .i64)) a4)]) =
  .loop M68.body M68.kont (S68 a0 a1 a2 a3 a4 0 []) := by kernel_rfl
abbrev G68 : Tbl := (Tbl.none.add 39 FOver).add 40 Fcont
theorem lt1 (n : Int) : decide (n < 1) = decide (n ≤ 0) := by rw [decide_eq_decide]; omega
theorem loop68 (d k : Int) (st : List Int) (hst : lenOK st.length = true) (l : List Q4.D) (hL : l.length ≤ lenBound) : ∀ (n : Nat) (i : Nat) (left : Int) (out : List Q4.D), i + n = l.length → i64ok left = true → out.length + n ≤ lenBound →
    Goes G68 T Try.f33.ntmps Try.f33.results.toList (.loop M68.body M68.kont (S68 l left d k st i out)) (.tup [.own Q4 (distG d k st (l.drop i) left out).1, .tv (I (distG d k st (l.drop i) left out).2)])
  | 0, i, left, out, h, hl, ho => by
    refine Goes.lp' (i68 Tbl.none kT overV kc hasI l left d k st i out) ?_
    rw [decide_eq_false (show ¬ (i : Int) < ((l.length : Nat) : Int) by omega), drop_end (by omega)]
    exact .ret _
  | n + 1, i, left, out, h, hl, ho => by
    refine Goes.lp' (i68 Tbl.none kT overV kc hasI l left d k st i out) ?_
    have hi : (i : Int) < ((l.length : Nat) : Int) := by omega
    rw [decide_eq_true hi, cond_true, toNat_lt (by omega) hi, w_step (by omega) hi hL, Int.toNat_natCast, drop_cons l (0, 0, 0, 0, ()) i (by omega), mnO, lt1, show kc st (l.getD i (0, 0, 0, 0, ())).1 = true from hst]
    generalize l.getD i (0, 0, 0, 0, ()) = b at *
    unfold distG
    refine .bif (fun h => ?_) fun h => .ret' (by rw [h]; rfl)
    rw [h, show kT b = true from rfl, Bool.true_or]
    rw [cond_true, cond_true, cond_true, cond_true, cond_true, bor_bif]
    refine .bif (fun g => ?_) fun g => ?_
    · rw [g, cond_true]
      exact loop68 d k st hst l hL n (i + 1) left out (by omega) hl (by omega)
    · have g' := Bool.or_eq_false_iff.1 g
      have n0 := of_decide_eq_false g'.1
      have lp := of_decide_eq_true h
      have ll := i64ok_spec hl
      have nle : ovN b left ≤ left := by unfold ovN; omega
      have e1 : w (left - ovN b left) = left - ovN b left := wrap_id (by omega) (by omega)
      rw [g, cond_false, cond_true, lenA (show out.length + 1 ≤ lenBound by omega), cond_true, e1]
      exact loop68 d k st hst l hL n (i + 1) _ _ (by omega) (by unfold i64ok; rw [decide_eq_true (show _ ≤ left - ovN b left by omega), decide_eq_true (show left - ovN b left ≤ _ by omega)]; rfl)
        (by rw [List.length_append, List.length_cons, List.length_nil]; omega)
theorem has68 : Hs 33 Fdist5 := by
  refine Has.fc5 (G := G68) (fn := Try.f33) ((env0.more has30b).more has81) (by kernel_rfl) (by kernel_rfl) (by kernel_rfl) (by kernel_rfl)
    fun (l : List Q4.D) (left : Int) (d : Int) (k : Int) (st : List Int) h => .run1 (e68 Tbl.none kT overV kc hasI l left d k st) ?_
  unfold dk at h
  rw [Bool.and_eq_true, Bool.and_eq_true] at h
  have := lenOK_spec h.1.1
  exact loop68 d k st h.1.2 l this l.length 0 left [] (by omega) h.2 (by rw [List.length_nil]; omega)
end Go.Lift.L40
set_option maxRecDepth 100000
set_option linter.unusedVariables false
set_option linter.unusedSimpArgs false
namespace Go.Lift.L40
open Go.Lift Go.Proofs

/-! Plan, Repay -/
theorem limV_le (p cap f : Int) : 0 ≤ limV p cap f ∧ limV p cap f ≤ 1000000000000000 := by
  unfold limV
  have h := mdRes_small p cap 1000000 0
  cases decide (p < 1)
  · cases (mdRes p cap 1000000 0).2 != 0
    · show 0 ≤ max 0 (min (mdRes p cap 1000000 0).1 (p - max f 0)) ∧ max 0 (min (mdRes p cap 1000000 0).1 (p - max f 0)) ≤ _
      generalize (mdRes p cap 1000000 0).1 = a at *
      omega
    · exact ⟨by show (0 : Int) ≤ 0; omega, by show (0 : Int) ≤ _; omega⟩
  · exact ⟨by show (0 : Int) ≤ 0; omega, by show (0 : Int) ≤ _; omega⟩
def limC (p : Int) (c : Conf.D) : Int := limV p c.2.2.2.1 c.2.2.2.2.1
def limK (p : Int) (c : Conf.D) : Bool := i64ok p && i64ok c.2.2.2.1 && i64ok c.2.2.2.2.1
theorem limC_ok (p : Int) (c : Conf.D) : i64ok (limC p c) = true := by
  have := limV_le p c.2.2.2.1 c.2.2.2.2.1
  unfold limC i64ok
  rw [decide_eq_true (show _ ≤ limV p c.2.2.2.1 c.2.2.2.2.1 by omega), decide_eq_true (show limV p c.2.2.2.1 c.2.2.2.2.1 ≤ _ by omega)]; rfl
def planV (l : List Q4.D) (p : Int) (c : Conf.D) (d : Int) (st : List Int) : List Q4.D := d0 l (limC p c) d 2 st
def planK (l : List Q4.D) (p : Int) (c : Conf.D) (_d : Int) (st : List Int) : Bool := lenOK l.length && lenOK st.length && limK p c
def FPlan := FC5 (.slice Q4) (.int .i64) Conf (.int .i64) (.slice (.int .i64)) planK fun l p c d st => .own Q4 (planV l p c d st)
def p4k (l : List Q4.D) (left : Int) (p : Q4.D) (st : List Int) : Bool := dk l left p.1 p.2.2.1 st
def p40 (l : List Q4.D) (left : Int) (p : Q4.D) (st : List Int) : List Q4.D := d0 l left p.1 p.2.2.1 st
def p41 (l : List Q4.D) (left : Int) (p : Q4.D) (st : List Int) : Int := d1 l left p.1 p.2.2.1 st
theorem plan_dk {l : List Q4.D} {p : Int} {c : Conf.D} {d : Int} {st : List Int} (k : Int) (h : planK l p c d st = true) : limK p c = true ∧ dk l (limC p c) d k st = true := by
  unfold planK at h
  rw [Bool.and_eq_true] at h
  refine ⟨h.2, ?_⟩
  unfold dk
  rw [h.1, limC_ok]; rfl
theorem e38b (G : Tbl) (k33 : Int → (Ty.D Conf) → Bool) (r33 : Int → (Ty.D Conf) → Int) (k67 : (List (Ty.D Q4)) → Int → (Ty.D Q4) → (List Int) → Bool) (r67_0 : (List (Ty.D Q4)) → Int → (Ty.D Q4) → (List Int) → (List (Ty.D Q4))) (r67_1 : (List (Ty.D Q4)) → Int → (Ty.D Q4) → (List Int) → Int) (a0 : (List (Ty.D Q4))) (a1 : Int) (a2 : (Ty.D Conf)) (a3 : Int) (a4 : (List Int)) :
    runL ((G.add 18 (FC2 (.int .i64) Conf k33 (fun x0 x1 => .tv (I (r33 x0 x1))))).add 32 (FC4 (.slice (.cons (.int .i64) (.cons (.int .i64) (.cons (.int .i64) (.cons (.int .i64) (.nil)))))) (.int .i64) Q4 (.slice (.int .i64)) k67 (fun x0 x1 x2 x3 => .tup [.own Q4 (r67_0 x0 x1 x2 x3), .tv (I (r67_1 x0 x1 x2 x3))]))) [] Try.f25 1000 (bod Try.f25) (entry [(TD.mk (.slice (.cons (.int .i64) (.cons (.int .i64) (.cons (.int .i64) (.cons (.int .i64) (.nil)))))) a0), (I a1), (TD.mk Conf a2), (I a3), (TD.mk (.slice (.int .i64)) a4)]) =
  bif (k33 a1 a2) then
    bif (k67 a0 (r33 a1 a2) (a3, 0, 2, 0, ()) a4) then
      .ret (.own Q4 (r67_0 a0 (r33 a1 a2) (a3, 0, 2, 0, ()) a4))
    else
      .fail
  else
    .fail := by kernel_rfl
theorem has38b : Hs 25 FPlan := by
  refine Has.fc5 (fn := Try.f25) ((env0.more has33b).more has67) (by kernel_rfl) (by kernel_rfl) (by kernel_rfl) (by kernel_rfl)
    fun (l : List Q4.D) (p : Int) (c : Conf.D) (d : Int) (st : List Int) h => .run1 (e38b Tbl.none limK limC p4k p40 p41 l p c d st) ?_
  obtain ⟨h1, h2⟩ := plan_dk 2 h
  rw [h1, cond_true, show p4k l (limC p c) (d, 0, 2, 0, ()) st = true from h2, cond_true]
  exact .ret _
theorem e39b (G : Tbl) (k34 : Int → (Ty.D Conf) → Bool) (r34 : Int → (Ty.D Conf) → Int) (k68 : (List (Ty.D Q4)) → Int → Int → Int → (List Int) → Bool) (r68_0 : (List (Ty.D Q4)) → Int → Int → Int → (List Int) → (List (Ty.D Q4))) (r68_1 : (List (Ty.D Q4)) → Int → Int → Int → (List Int) → Int) (a0 : (List (Ty.D Q4))) (a1 : Int) (a2 : (Ty.D Conf)) (a3 : Int) (a4 : (List Int)) :
    runL ((G.add 28 (FC2 (.int .i64) Conf k34 (fun x0 x1 => .tv (I (r34 x0 x1))))).add 33 (FC5 (.slice (.cons (.int .i64) (.cons (.int .i64) (.cons (.int .i64) (.cons (.int .i64) (.nil)))))) (.int .i64) (.int .i64) (.int .i64) (.slice (.int .i64)) k68 (fun x0 x1 x2 x3 x4 => .tup [.own Q4 (r68_0 x0 x1 x2 x3 x4), .tv (I (r68_1 x0 x1 x2 x3 x4))]))) [] Try.f27 1000 (bod Try.f27) (entry [(TD.mk (.slice (.cons (.int .i64) (.cons (.int .i64) (.cons (.int .i64) (.cons (.int .i64) (.nil)))))) a0), (I a1), (TD.mk Conf a2), (I a3), (TD.mk (.slice (.int .i64)) a4)]) =
  bif (k34 a1 a2) then
    bif (k68 a0 (r34 a1 a2) a3 2 a4) then
      .ret (.own Q4 (r68_0 a0 (r34 a1 a2) a3 2 a4))
    else
      .fail
  else
    .fail := by kernel_rfl
theorem has39b : Hs 27 FPlan := by
  refine Has.fc5 (fn := Try.f27) ((env0.more has34b).more has68) (by kernel_rfl) (by kernel_rfl) (by kernel_rfl) (by kernel_rfl)
    fun (l : List Q4.D) (p : Int) (c : Conf.D) (d : Int) (st : List Int) h => .run1 (e39b Tbl.none limK limC dk d0 d1 l p c d st) ?_
  obtain ⟨h1, h2⟩ := plan_dk 2 h
  rw [h1, cond_true, h2, cond_true]
  exact .ret _
def rp0 (l : List Q4.D) (c d : Int) : List Q4.D := d0 l (max c 0) d 3 []
def rp1 (l : List Q4.D) (c d : Int) : Int := d1 l (max c 0) d 3 []
def rpK (l : List Q4.D) (c _d : Int) : Bool := lenOK l.length && i64ok c
def FRepay := FC3 (.slice Q4) (.int .i64) (.int .i64) rpK fun l c d => .tup [.own Q4 (rp0 l c d), .tv (I (rp1 l c d))]
theorem dist_zero (d k : Int) (st : List Int) (l : List Q4.D) {left : Int} (h : left ≤ 0) : distG d k st l left [] = ([], left) := by
  cases l with
  | nil => rfl
  | cons b r => unfold distG; rw [decide_eq_false (show ¬ left > 0 by omega), cond_false]
theorem rp_dk {l : List Q4.D} {c d : Int} (h : rpK l c d = true) : dk l (max c 0) d 3 [] = true := by
  unfold rpK at h
  rw [Bool.and_eq_true] at h
  have hc := i64ok_spec h.2
  unfold dk i64ok
  rw [h.1, decide_eq_true (show _ ≤ max c 0 by omega), decide_eq_true (show max c 0 ≤ _ by omega)]; rfl
/-! equal lists -/
def sameQ : List Q4.D → List Q4.D → Bool
  | [], [] => true
  | x :: r, y :: s => eqD Q4 x y && sameQ r s
  | _, _ => false
theorem eqQ_self (x : Q4.D) : eqD Q4 x x = true := by
  show ((x.1 == x.1) && ((x.2.1 == x.2.1) && ((x.2.2.1 == x.2.2.1) && ((x.2.2.2.1 == x.2.2.2.1) && true)))) = true
  simp
theorem sameQ_self : ∀ l : List Q4.D, sameQ l l = true
  | [] => rfl
  | x :: r => by unfold sameQ; rw [eqQ_self, sameQ_self r]; rfl
theorem sameQ_len : ∀ (a b : List Q4.D), a.length ≠ b.length → sameQ a b = false
  | [], [], h => (h rfl).elim
  | [], _ :: _, _ => rfl
  | _ :: _, [], _ => rfl
  | x :: r, y :: s, h => by
    unfold sameQ; rw [sameQ_len r s (fun e => h (by simp [e])), Bool.and_false]
def FSameQ := FC2 (.slice Q4) (.slice Q4) (fun a _ => lenOK (List.length a)) fun a b => .tv (B (sameQ a b))
noncomputable def M37 : Leaf := .loop (cAt Try.f11 [1, 1, 0, 1, 0, 0]) [.inBlock 0, .code (cAt Try.f11 [1, 1, 1])] ⟨[], []⟩
def S37 (s0 : (List (Ty.D Q4))) (s1 : (List (Ty.D Q4))) (s5 : Int) : St := ⟨[(0, .tv (TD.mk (.slice (.cons (.int .i64) (.cons (.int .i64) (.cons (.int .i64) (.cons (.int .i64) (.nil)))))) s0)), (1, .tv (TD.mk (.slice (.cons (.int .i64) (.cons (.int .i64) (.cons (.int .i64) (.cons (.int .i64) (.nil)))))) s1)), (5, .tv (I s5))], []⟩
theorem i37b (G : Tbl)  (s0 : (List (Ty.D Q4))) (s1 : (List (Ty.D Q4))) (s5 : Int) :
    runL G [(2, [0, 1, 5])] Try.f11 1000 M37.round (S37 s0 s1 s5) =
  bif (bif (decide (s5 < ((List.length s0 : Nat) : Int))) then (decide (s5 < ((List.length s1 : Nat) : Int))) else false) then
    bif (inB s5 (List.length s0)) then
      bif (inB s5 (List.length s1)) then
        bif (!(eqD Q4 (List.getD s0 (Int.toNat s5) (0, 0, 0, 0, ())) (List.getD s1 (Int.toNat s5) (0, 0, 0, 0, ())))) then
          .ret (.tv (B false))
        else
          .loop M37.body M37.kont (S37 s0 s1 (w (s5 + 1)))
      else
        .fail
    else
      .fail
  else
    .ret (.tv (B true)) := by kernel_rfl
theorem e37b (G : Tbl)  (a0 : (List (Ty.D Q4))) (a1 : (List (Ty.D Q4))) :
    runL G [(2, [0, 1, 5])] Try.f11 1000 (bod Try.f11) (entry [(TD.mk (.slice (.cons (.int .i64) (.cons (.int .i64) (.cons (.int .i64) (.cons (.int .i64) (.nil)))))) a0), (TD.mk (.slice (.cons (.int .i64) (.cons (.int .i64) (.cons (.int .i64) (.cons (.int .i64) (.nil)))))) a1)]) =
  bif (((List.length a0 : Nat) : Int) != ((List.length a1 : Nat) : Int)) then
    .ret (.tv (B false))
  else
    .loop M37.body M37.kont (S37 a0 a1 0) := by kernel_rfl
theorem loop37 (a b : List Q4.D) (hl : a.length ≤ lenBound) (hab : a.length = b.length) : ∀ (k : Nat) (i : Nat), i + k = a.length →
    Goes Tbl.none T Try.f11.ntmps Try.f11.results.toList (.loop M37.body M37.kont (S37 a b i)) (.tv (B (sameQ (a.drop i) (b.drop i))))
  | 0, i, h => by
    refine Goes.lp' (i37b Tbl.none a b i) ?_
    rw [decide_eq_false (show ¬ (i : Int) < ((a.length : Nat) : Int) by omega), drop_end (l := a) (by omega), drop_end (l := b) (by omega)]
    exact .ret _
  | k + 1, i, h => by
    refine Goes.lp' (i37b Tbl.none a b i) ?_
    have hi : (i : Int) < ((a.length : Nat) : Int) := by omega
    have hj : (i : Int) < ((b.length : Nat) : Int) := by omega
    rw [decide_eq_true hi, decide_eq_true hj, cond_true, cond_true, toNat_lt (by omega) hi, toNat_lt (by omega) hj, cond_true, cond_true, w_step (by omega) hi hl, Int.toNat_natCast,
      drop_cons a (0, 0, 0, 0, ()) i (by omega), drop_cons b (0, 0, 0, 0, ()) i (by omega)]
    unfold sameQ
    refine .bif (fun g => .ret' ?_) fun g => ?_
    · rw [Bool.not_eq_true'] at g; rw [g]; rfl
    · rw [Bool.not_eq_false'] at g; rw [g, Bool.true_and]
      exact loop37 a b hl hab k (i + 1) (by omega)
theorem has37b : Hs 11 FSameQ := by
  refine Has.fc2 (fn := Try.f11) env0 (by kernel_rfl) (by kernel_rfl) (by kernel_rfl) (by kernel_rfl) fun (a b : List Q4.D) h => .run1 (e37b Tbl.none a b) ?_
  refine .bif (fun g => .ret' ?_) fun g => ?_
  · rw [sameQ_len a b (fun e => by rw [e] at g; simp at g)]
  · exact loop37 a b (lenOK_spec h) (by simp at g; omega) a.length 0 (by omega)

/-! few -/
def wi60 (b : Q4.D) : Bool := withinV b 1152921504606846976
def fewV (l : List Q4.D) (st : List Int) : Bool := !(decide (((List.length l : Nat) : Int) > 150) || decide (((List.length st : Nat) : Int) > 150)) && l.all wi60
def FFew := FC2 (.slice Q4) (.slice (.int .i64)) (fun _ _ => true) fun l st => .tv (B (fewV l st))
def wiK (_b : Q4.D) (m : Int) : Bool := limOk m
def S36 (s0 : (List (Ty.D Q4))) (s5 : Int) : St := ⟨[(0, .tv (TD.mk (.slice (.cons (.int .i64) (.cons (.int .i64) (.cons (.int .i64) (.cons (.int .i64) (.nil)))))) s0)), (5, .tv (I s5))], []⟩
theorem few_len {l : List Q4.D} {st : List Int} (h : fewV l st = true) : lenOK l.length = true ∧ lenOK st.length = true := by
  unfold fewV at h
  rw [Bool.and_eq_true, Bool.not_eq_true'] at h
  have g := Bool.or_eq_false_iff.1 h.1
  have a := of_decide_eq_false g.1
  have b := of_decide_eq_false g.2
  exact ⟨lenOK_le (by unfold lenBound; omega), lenOK_le (by unfold lenBound; omega)⟩
end Go.Lift.L40
set_option maxRecDepth 100000
set_option linter.unusedVariables false
set_option linter.unusedSimpArgs false
namespace Go.Lift.L40
open Go.Lift Go.Proofs

/-! awake: by running -/
def FAwake := FC0 true (.tv (B true))
def kAny (_l : List Q4.D) (_st : List Int) : Bool := true
def sqK (a _b : List Q4.D) : Bool := lenOK a.length
-- f8
/-! Limit -/
def F8 := FC3 (.int .i64) (.int .i64) (.int .i64) (fun a b c => i64ok a && i64ok b && i64ok c) fun _ _ _ => .tv (B true)
theorem limV_floor {p f : Int} (cap : Int) (h : limV p cap f ≠ 0) : p - max f 0 ≥ limV p cap f ∧ 1 ≤ p := by
  unfold limV at *
  cases hc : decide (p < 1)
  · have hp := of_decide_eq_false hc
    rw [hc] at h
    cases hm : (mdRes p cap 1000000 0).2 != 0
    · rw [hm] at h
      revert h
      show max 0 (min (mdRes p cap 1000000 0).1 (p - max f 0)) ≠ 0 → p - max f 0 ≥ max 0 (min (mdRes p cap 1000000 0).1 (p - max f 0)) ∧ 1 ≤ p
      generalize (mdRes p cap 1000000 0).1 = a at *
      omega
    · rw [hm] at h; exact (h rfl).elim
  · rw [hc] at h; exact (h rfl).elim
theorem limV_max (p cap f : Int) : limV p cap f ≤ max p 0 := by
  by_cases h : limV p cap f = 0
  · omega
  · have := limV_floor cap h; omega
/-! Plan -/
theorem d0_len (d k : Int) (st : List Int) : ∀ (l : List Q4.D) (left : Int) (out : List Q4.D), (distG d k st l left out).1.length ≤ out.length + l.length
  | [], left, out => Nat.le_refl _
  | b :: r, left, out => by
    unfold distG
    cases decide (left > 0)
    · rw [cond_false]; exact Nat.le_add_right _ _
    · rw [cond_true]
      cases decide (ovN b left ≤ 0) || hasI st b.1
      · rw [cond_false]
        have := d0_len d k st r (left - ovN b left) (out ++ [(d, b.1, k, ovN b left, ())])
        rw [List.length_append] at this
        simp only [List.length_cons, List.length_nil] at *
        omega
      · rw [cond_true]
        have := d0_len d k st r left out
        simp only [List.length_cons] at *
        omega
theorem d0_ok {l : List Q4.D} (hl : lenOK l.length = true) (left d k : Int) (st : List Int) : lenOK (d0 l left d k st).length = true := by
  have := d0_len d k st l left []
  have h := lenOK_spec hl
  refine lenOK_le ?_
  unfold d0
  simp only [List.length_nil] at this
  omega
theorem cK {p : Int} {c : Conf.D} (hp : i64ok p = true) (hc : i64ok c.2.2.2.1 = true ∧ i64ok c.2.2.2.2.1 = true) : limK p c = true := by
  unfold limK; rw [hp, hc.1, hc.2]; rfl
def confOk (c : Conf.D) : Bool := i64ok c.2.2.2.1 && i64ok c.2.2.2.2.1
def A2 : Ty := .cons .nil (.cons (.int .i64) (.cons (.int .i64) .nil))
def F9 := FC4 (.slice Q4) A2 Conf (.slice (.int .i64)) (fun _ y c _ => i64ok y.2.1 && confOk c) fun _ _ _ _ => .tv (B true)
/-! Repay -/
def S10 (s8 : Int) (s11 : Int) (s12 : Int) (b7 : (List (Ty.D Q4))) : St := ⟨[(7, .ref 7), (8, .tv (I s8)), (11, .tv (I s11)), (12, .tv (I s12))], [(7, .vec Q4 b7)]⟩
def subW : List Q4.D → Int → Int
  | [], a => a
  | x :: r, a => subW r (w (a - x.2.2.2.1))
theorem subW_one (x : Q4.D) : ∀ (l : List Q4.D) (a : Int), subW (l ++ [x]) a = w (subW l a - x.2.2.2.1)
  | [], a => rfl
  | y :: r, a => subW_one x r _
theorem distG_sub (d k : Int) (st : List Int) (L : Int) : ∀ (l : List Q4.D) (left : Int) (out : List Q4.D), i64ok left = true → subW out L = left → subW (distG d k st l left out).1 L = (distG d k st l left out).2
  | [], left, out, _, h => h
  | b :: r, left, out, hl, h => by
    unfold distG
    have hw := i64ok_spec hl
    cases hg : decide (left > 0)
    · exact h
    · rw [cond_true]
      have g := of_decide_eq_true hg
      cases hs : decide (ovN b left ≤ 0) || hasI st b.1
      · rw [cond_false]
        have o := of_decide_eq_false (Bool.or_eq_false_iff.1 hs).1
        have m : ovN b left ≤ left := by unfold ovN; omega
        generalize ovN b left = n at *
        refine distG_sub d k st L r _ _ (i64of (by omega)) ?_
        rw [subW_one, h]
        show w (left - n) = left - n
        exact wrap_id (by omega) (by omega)
      · rw [cond_true]
        exact distG_sub d k st L r left out hl h
def F10 := FC3 (.slice Q4) (.int .i64) (.int .i64) (fun _ c _ => i64ok c) fun _ _ _ => .tv (B true)
end Go.Lift.L40
set_option maxRecDepth 100000
set_option linter.unusedVariables false
set_option linter.unusedSimpArgs false
namespace Go.Lift.L40
open Go.Lift Go.Proofs

theorem wfI {n : Int} (h : Wf (.int .i64) n) : i64ok n = true := by
  have h' : (decide (IntKind.min .i64 ≤ n) && decide (n ≤ IntKind.max .i64)) = true := h
  exact h'
theorem band {a b : Bool} (h1 : a = true) (h2 : b = true) : (a && b) = true := by rw [h1, h2]; rfl
theorem someK {k : Bool} {r : SV} (h : k = true) : some (k, r) = some (true, r) := by rw [h]
theorem wfConf {c : Conf.D} (h : Wf Conf c) : confOk c = true := band (wfI h.2.2.2.1) (wfI h.2.2.2.2.1)
theorem wfA2 {y : A2.D} (h : Wf A2 y) : i64ok y.2.1 = true ∧ i64ok y.2.2.1 = true := ⟨wfI h.2.1, wfI h.2.2.1⟩
end Go.Lift.L40
set_option maxRecDepth 100000
set_option linter.unusedVariables false
set_option linter.unusedSimpArgs false
namespace Go.Lift.L40
open Go.Lift Go.Proofs


/-! what a distribution posts -/
theorem bF (a b : Bool) (h : a = false) : (a || b) = b := by rw [h]; rfl
theorem or_true (b : Bool) : (true || b) = true := rfl
abbrev cen (x : Q4.D) : Int := x.2.2.2.1
def Fits (d k : Int) (st : List Int) : List Q4.D → List Q4.D → Int → Prop
  | [], _, _ => True
  | x :: a, l, left => ∃ pre b post, l = pre ++ b :: post ∧ b.1 = x.2.1 ∧ cen x = ovN b left ∧ 1 ≤ cen x ∧ x.1 = d ∧ x.2.2.1 = k ∧ hasI st b.1 = false ∧ Fits d k st a post (left - cen x)
theorem distG_acc (d k : Int) (st : List Int) : ∀ (l : List Q4.D) (left : Int) (out : List Q4.D), distG d k st l left out = (out ++ (distG d k st l left []).1, (distG d k st l left []).2)
  | [], left, out => by unfold distG; rw [List.append_nil]
  | b :: r, left, out => by
    unfold distG
    cases decide (left > 0)
    · rw [cond_false, cond_false, List.append_nil]
    · rw [cond_true, cond_true]
      cases decide (ovN b left ≤ 0) || hasI st b.1
      · rw [cond_false, cond_false, distG_acc d k st r _ (out ++ _), distG_acc d k st r _ ([] ++ _), List.append_assoc]; rfl
      · rw [cond_true, cond_true, distG_acc d k st r left out]
theorem fits_more {d k : Int} {st : List Int} {a l : List Q4.D} {left : Int} (b : Q4.D) (h : Fits d k st a l left) : Fits d k st a (b :: l) left := by
  cases a with
  | nil => trivial
  | cons x a => obtain ⟨pre, c, post, h1, h2⟩ := h; exact ⟨b :: pre, c, post, by rw [h1]; rfl, h2⟩
theorem fits_dist (d k : Int) (st : List Int) : ∀ (l : List Q4.D) (left : Int), Fits d k st (distG d k st l left []).1 l left
  | [], left => trivial
  | b :: r, left => by
    unfold distG
    cases decide (left > 0)
    · trivial
    · rw [cond_true]
      cases h : decide (ovN b left ≤ 0) || hasI st b.1
      · rw [cond_false, distG_acc]
        have g := Bool.or_eq_false_iff.1 h
        have g1 := of_decide_eq_false g.1
        exact ⟨[], b, r, rfl, rfl, rfl, by show 1 ≤ ovN b left; omega, rfl, rfl, g.2, fits_dist d k st r _⟩
      · rw [cond_true]; exact fits_more b (fits_dist d k st r left)
theorem ov_le (b : Q4.D) (left : Int) : ovN b left ≤ left ∧ ovN b left ≤ overV b := by unfold ovN; omega
def S16 (s0 : (List (Ty.D Q4))) (s3 : (List Int)) (s10 : Int) (s11 : Int) (s12 : Int) (b9 : (List (Ty.D Q4))) : St := ⟨[(0, .tv (TD.mk (.slice (.cons (.int .i64) (.cons (.int .i64) (.cons (.int .i64) (.cons (.int .i64) (.nil)))))) s0)), (3, .tv (TD.mk (.slice (.int .i64)) s3)), (9, .ref 9), (10, .tv (I s10)), (11, .tv (I s11)), (12, .tv (I s12))], [(9, .vec Q4 b9)]⟩
def S16a (s0 : (List (Ty.D Q4))) (s3 : (List Int)) (s10 : Int) (s11 : Int) (s12 : Int) (s13 : Int) (b9 : (List (Ty.D Q4))) : St := ⟨[(0, .tv (TD.mk (.slice (.cons (.int .i64) (.cons (.int .i64) (.cons (.int .i64) (.cons (.int .i64) (.nil)))))) s0)), (3, .tv (TD.mk (.slice (.int .i64)) s3)), (9, .ref 9), (10, .tv (I s10)), (11, .tv (I s11)), (12, .tv (I s12)), (13, .tv (I s13))], [(9, .vec Q4 b9)]⟩
def S16b (s0 : (List (Ty.D Q4))) (s3 : (List Int)) (s10 : Int) (s11 : Int) (s12 : Int) (b9 : (List (Ty.D Q4))) : St := ⟨[(0, .tv (TD.mk (.slice (.cons (.int .i64) (.cons (.int .i64) (.cons (.int .i64) (.cons (.int .i64) (.nil)))))) s0)), (3, .tv (TD.mk (.slice (.int .i64)) s3)), (9, .ref 9), (10, .tv (I s10)), (11, .tv (I s11)), (12, .tv (I s12))], [(9, .vec Q4 b9)]⟩
def F16 := FC4 (.slice Q4) (.int .i64) Conf (.slice (.int .i64)) (fun _ p c _ => i64ok p && confOk c) fun _ _ _ _ => .tv (B true)
end Go.Lift.L40
set_option maxRecDepth 100000
set_option linter.unusedVariables false
set_option linter.unusedSimpArgs false
namespace Go.Lift.L40
open Go.Lift Go.Proofs

def S17 (s0 : (List (Ty.D Q4))) (s3 : (List Int)) (s10 : Int) (s11 : Int) (b9 : (List (Ty.D Q4))) : St := ⟨[(0, .tv (TD.mk (.slice (.cons (.int .i64) (.cons (.int .i64) (.cons (.int .i64) (.cons (.int .i64) (.nil)))))) s0)), (3, .tv (TD.mk (.slice (.int .i64)) s3)), (9, .ref 9), (10, .tv (I s10)), (11, .tv (I s11))], [(9, .vec Q4 b9)]⟩
def S17a (s0 : (List (Ty.D Q4))) (s3 : (List Int)) (s12 : Int) (s13 : Int) (b9 : (List (Ty.D Q4))) : St := ⟨[(0, .tv (TD.mk (.slice (.cons (.int .i64) (.cons (.int .i64) (.cons (.int .i64) (.cons (.int .i64) (.nil)))))) s0)), (3, .tv (TD.mk (.slice (.int .i64)) s3)), (9, .ref 9), (12, .tv (I s12)), (13, .tv (I s13))], [(9, .vec Q4 b9)]⟩
def S17b (s0 : (List (Ty.D Q4))) (s3 : (List Int)) (s12 : Int) (s13 : Int) (s14 : Bool) (s15 : Int) (b9 : (List (Ty.D Q4))) : St := ⟨[(0, .tv (TD.mk (.slice (.cons (.int .i64) (.cons (.int .i64) (.cons (.int .i64) (.cons (.int .i64) (.nil)))))) s0)), (3, .tv (TD.mk (.slice (.int .i64)) s3)), (9, .ref 9), (12, .tv (I s12)), (13, .tv (I s13)), (14, .tv (B s14)), (15, .tv (I s15))], [(9, .vec Q4 b9)]⟩
def owes (st : List Int) (b : Q4.D) : Bool := !(decide (overV b < 1) || hasI st b.1)
def full (st : List Int) (l : List Q4.D) : List Q4.D := (l.filter (owes st)).map fun b => (5, b.1, 2, overV b, ())
theorem dist_rest (d k : Int) (st : List Int) : ∀ (l : List Q4.D) (left : Int), 0 ≤ left → 0 ≤ (distG d k st l left []).2 ∧ (distG d k st l left []).2 ≤ left
  | [], left, h => ⟨h, Int.le_refl _⟩
  | b :: r, left, h => by
    unfold distG
    cases g : decide (left > 0)
    · exact ⟨h, Int.le_refl _⟩
    · rw [cond_true]
      have g := of_decide_eq_true g
      cases hs : decide (ovN b left ≤ 0) || hasI st b.1
      · rw [cond_false, distG_acc]
        have o := of_decide_eq_false (Bool.or_eq_false_iff.1 hs).1
        have m : ovN b left ≤ left := by unfold ovN; omega
        have := dist_rest d k st r (left - ovN b left) (by omega)
        exact ⟨this.1, by have := this.2; show (distG d k st r (left - ovN b left) []).2 ≤ left; omega⟩
      · rw [cond_true]; exact dist_rest d k st r left h
theorem dist_full (st : List Int) : ∀ (l : List Q4.D) (left : Int), 0 ≤ left → 0 < (distG 5 2 st l left []).2 → (distG 5 2 st l left []).1 = full st l
  | [], left, _, _ => rfl
  | b :: r, left, h, hr => by
    unfold distG at hr ⊢
    cases g : decide (left > 0)
    · rw [g, cond_false] at hr
      have := of_decide_eq_false g
      have hr : 0 < left := hr
      omega
    · rw [g, cond_true] at hr
      rw [cond_true]
      have g := of_decide_eq_true g
      cases hs : decide (ovN b left ≤ 0) || hasI st b.1
      · rw [hs, cond_false, distG_acc] at hr
        rw [cond_false, distG_acc]
        have g' := Bool.or_eq_false_iff.1 hs
        have o := of_decide_eq_false g'.1
        have m : ovN b left ≤ left ∧ ovN b left ≤ overV b := ov_le b left
        have q := dist_rest 5 2 st r (left - ovN b left) (by omega)
        have hr : 0 < (distG 5 2 st r (left - ovN b left) []).2 := hr
        have e : ovN b left = overV b := by unfold ovN at *; omega
        show ([] ++ [(5, b.1, 2, ovN b left, ())]) ++ (distG 5 2 st r (left - ovN b left) []).1 = full st (b :: r)
        rw [dist_full st r _ (by omega) hr, e]
        unfold full
        have ow : owes st b = true := by unfold owes; rw [decide_eq_false (show ¬ overV b < 1 by omega), g'.2]; rfl
        rw [List.filter_cons_of_pos ow, List.map_cons]; rfl
      · rw [hs, cond_true] at hr
        rw [cond_true, dist_full st r left h hr]
        unfold full
        have ow : ¬ owes st b = true := by
          unfold owes
          cases hh : hasI st b.1
          · rw [hh, Bool.or_false] at hs
            have := of_decide_eq_true hs
            have e : overV b < 1 := by unfold ovN at this; omega
            rw [decide_eq_true e]; simp
          · simp
        rw [List.filter_cons_of_neg ow]
def F17 := FC4 (.slice Q4) (.int .i64) Conf (.slice (.int .i64)) (fun _ p c _ => i64ok p && confOk c) fun _ _ _ _ => .tv (B true)
end Go.Lift.L40
