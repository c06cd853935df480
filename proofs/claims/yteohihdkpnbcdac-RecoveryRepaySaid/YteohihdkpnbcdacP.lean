/- A part of the proof that the law returns true for every input: no condition. -/
import Derived.Test.YteohihdkpnbcdacR
import Derived.Test.YteohihdkpnbcdacE2
set_option maxRecDepth 100000
set_option linter.unusedVariables false
set_option linter.unusedSimpArgs false
namespace Go.Lift.L39
open Go.Lift Go.Proofs

/-! types -/
abbrev Q4 : Ty := .cons (.int .i64) (.cons (.int .i64) (.cons (.int .i64) (.cons (.int .i64) .nil)))
abbrev Conf : Ty := .cons (.int .i64) (.cons (.int .i64) (.cons (.int .i64) (.cons (.int .i64) (.cons (.int .i64) (.cons (.int .i64) (.cons (.int .i64) (.cons (.cons (.int .i64) (.cons (.slice (.int .i64)) .nil)) .nil)))))))
theorem toNat_lt {i : Int} {n : Nat} (h0 : 0 ≤ i) (h : i < (n : Int)) : inB i n = true := by
  unfold inB; rw [decide_eq_true h0, decide_eq_true h]; rfl
theorem w_step {i : Int} {n : Nat} (h0 : 0 ≤ i) (h : i < (n : Int)) (hn : n ≤ lenBound) : w (i + 1) = i + 1 := by
  have : n ≤ 68719476736 := hn
  exact wrap_id (by omega) (by omega)
theorem lenOK_spec {n : Nat} (h : lenOK n = true) : n ≤ lenBound := of_decide_eq_true h
theorem drop_cons {α : Type} (l : List α) (z : α) (i : Nat) (h : i < l.length) : l.drop i = l.getD i z :: l.drop (i + 1) := by
  rw [List.drop_eq_getElem_cons h]
  simp [List.getD, List.getElem?_eq_getElem h]
theorem drop_end {α : Type} {l : List α} {i : Nat} (h : l.length ≤ i) : l.drop i = [] := List.drop_eq_nil_of_le h

/-! balances -/
def arrV (b : Q4.D) : Int := maxI [0] (w (b.2.1 - b.2.2.1))
def overV (b : Q4.D) : Int := maxI [0] (w ((w (b.2.2.1 - b.2.1)) - b.2.2.2.1))
def FArr := FC1 Q4 (fun _ => true) fun b => .tv (I (arrV b))
def FOver := FC1 Q4 (fun _ => true) fun b => .tv (I (overV b))
theorem e29b (G : Tbl)  (a0 : Ty.D Q4) :
    runL G [] Try.f25 1000 (bod Try.f25) (entry [(TD.mk Q4 a0)]) =
  .ret (.tv (I (maxI [0] (w ((w (a0.2.2.1 - a0.2.1)) - a0.2.2.2.1))))) := by kernel_rfl
theorem e30b (G : Tbl)  (a0 : Ty.D Q4) :
    runL G [] Try.f17 1000 (bod Try.f17) (entry [(TD.mk Q4 a0)]) =
  .ret (.tv (I (maxI [0] (w ((w (a0.2.2.1 - a0.2.1)) - a0.2.2.2.1))))) := by kernel_rfl
theorem has29b : Hs 25 FOver := Has.fc1 (fn := Try.f25) env0 (by kernel_rfl) (by kernel_rfl) (by kernel_rfl) (by kernel_rfl) fun b _ => .run1 (e29b Tbl.none b) (.ret _)
theorem has30b : Hs 17 FOver := Has.fc1 (fn := Try.f17) env0 (by kernel_rfl) (by kernel_rfl) (by kernel_rfl) (by kernel_rfl) fun b _ => .run1 (e30b Tbl.none b) (.ret _)
def withinV (b : Q4.D) (m : Int) : Bool := ((((decide (b.2.1 ≥ -m) && decide (b.2.1 ≤ m)) && decide (b.2.2.1 ≥ -m)) && decide (b.2.2.1 ≤ m)) && decide (b.2.2.2.1 ≥ -m)) && decide (b.2.2.2.1 ≤ m)
def FWithin := FC2 Q4 (.int .i64) (fun _ m => limOk m) fun b m => .tv (B (withinV b m))
theorem e26b (G : Tbl)  (a0 : Ty.D Q4) (a1 : Int) :
    runL G [] Try.f20 1000 (bod Try.f20) (entry [(TD.mk Q4 a0), (I a1)]) =
  .ret (.tv (B (bif (bif (bif (bif (bif (decide (a0.2.1 ≥ (w (0 - a1)))) then (decide (a0.2.1 ≤ a1)) else false) then (decide (a0.2.2.1 ≥ (w (0 - a1)))) else false) then (decide (a0.2.2.1 ≤ a1)) else false) then (decide (a0.2.2.2.1 ≥ (w (0 - a1)))) else false) then (decide (a0.2.2.2.1 ≤ a1)) else false))) := by kernel_rfl
theorem has26b : Hs 20 FWithin := by
  refine Has.fc2 (fn := Try.f20) env0 (by kernel_rfl) (by kernel_rfl) (by kernel_rfl) (by kernel_rfl) fun b (m : Int) h => .run1 (e26b Tbl.none b m) ?_
  obtain ⟨h1, h2⟩ := limOk_spec h
  have e : w (0 - m) = -m := by rw [Int.zero_sub]; exact wrap_id (by omega) (by omega)
  rw [e]
  refine .ret' ?_
  unfold withinV
  rw [band_bif, band_bif, band_bif, band_bif, band_bif]

/-! the limit -/
theorem maxI1 (a b : Int) : maxI [b] a = max a b := by show (if b > a then b else a) = _; omega
theorem minI1 (a b : Int) : minI [b] a = min a b := by show (if b < a then b else a) = _; omega
def limV (p cap floor : Int) : Int :=
  bif decide (p < 1) then 0 else bif (mdRes p cap 1000000 0).2 != 0 then 0 else max 0 (min (mdRes p cap 1000000 0).1 (p - max floor 0))
def ap0 (p cap m : Int) : Int := (mdRes p cap 1000000 m).1
def ap1 (p cap m : Int) : Int := (mdRes p cap 1000000 m).2
def apk (p cap _m : Int) : Bool := i64ok p && i64ok cap
def FLimit := FC2 (.int .i64) Conf (fun p c => i64ok p && i64ok c.2.2.2.1 && i64ok c.2.2.2.2.1) fun p c => .tv (I (limV p c.2.2.2.1 c.2.2.2.2.1))
theorem e33 (G : Tbl) (k65 : Int → Int → Int → Bool) (r65_0 : Int → Int → Int → Int) (r65_1 : Int → Int → Int → Int) (a0 : Int) (a1 : Ty.D Conf) :
    runL (G.add 18 (FC3 (.int .i64) (.int .i64) (.int .i64) k65 (fun x0 x1 x2 => .tup [.tv (I (r65_0 x0 x1 x2)), .tv (I (r65_1 x0 x1 x2))]))) [] Try.f8 1000 (bod Try.f8) (entry [(I a0), (TD.mk Conf a1)]) =
  bif (decide (a0 < 1)) then
    .ret (.tv (I 0))
  else
    bif (k65 a0 a1.2.2.2.1 0) then
      bif ((r65_1 a0 a1.2.2.2.1 0) != 0) then
        .ret (.tv (I 0))
      else
        .ret (.tv (I (maxI [(minI [(r65_0 a0 a1.2.2.2.1 0)] (w (a0 - (maxI [0] a1.2.2.2.2.1))))] 0)))
    else
      .fail := by kernel_rfl
theorem lim_w {p f : Int} (hp : i64ok p = true) (h1 : ¬ p < 1) (hf : i64ok f = true) : w (p - max f 0) = p - max f 0 := by
  have a := i64ok_spec hp
  have b := i64ok_spec hf
  exact wrap_id (by omega) (by omega)
theorem has33b : Hs 8 FLimit := by
  refine Has.fc2 (fn := Try.f8) (env0.more has18) (by kernel_rfl) (by kernel_rfl) (by kernel_rfl) (by kernel_rfl) fun (p : Int) c h => .run1 (e33 Tbl.none apk ap0 ap1 p c) ?_
  simp only [Bool.and_eq_true] at h
  obtain ⟨⟨h1, h2⟩, h3⟩ := h
  generalize c.2.2.2.1 = cap at *
  generalize c.2.2.2.2.1 = fl at *
  unfold limV
  refine .bif (fun h => .ret' (by rw [h]; rfl)) fun h => ?_
  have hk : apk p cap 0 = true := by unfold apk; rw [h1, h2]; rfl
  rw [h, hk, cond_true, cond_false, maxI1, maxI1, minI1, lim_w h1 (of_decide_eq_false h) h3]
  show Goes _ _ _ _ (bif ap1 p cap 0 != 0 then _ else _) (.tv (I (bif ap1 p cap 0 != 0 then 0 else max 0 (min (ap0 p cap 0) _))))
  refine .bif (fun g => .ret' (by rw [g]; rfl)) fun g => .ret' ?_
  rw [g, cond_false]
  congr 2
  generalize ap0 p cap 0 = a
  congr 1
  omega
theorem e34 (G : Tbl) (k66 : Int → Int → Int → Bool) (r66_0 : Int → Int → Int → Int) (r66_1 : Int → Int → Int → Int) (a0 : Int) (a1 : Ty.D Conf) :
    runL (G.add 19 (FC3 (.int .i64) (.int .i64) (.int .i64) k66 (fun x0 x1 x2 => .tup [.tv (I (r66_0 x0 x1 x2)), .tv (I (r66_1 x0 x1 x2))]))) [] Try.f9 1000 (bod Try.f9) (entry [(I a0), (TD.mk Conf a1)]) =
  bif (k66 a0 a1.2.2.2.1 0) then
    bif (bif ((r66_1 a0 a1.2.2.2.1 0) != 0) then true else (decide (a0 < 1))) then
      .ret (.tv (I 0))
    else
      .ret (.tv (I (maxI [(minI [(w (a0 - (maxI [a1.2.2.2.2.1] 0)))] (r66_0 a0 a1.2.2.2.1 0))] 0)))
  else
    .fail := by kernel_rfl
theorem has34b : Hs 9 FLimit := by
  refine Has.fc2 (fn := Try.f9) (env0.more has19) (by kernel_rfl) (by kernel_rfl) (by kernel_rfl) (by kernel_rfl) fun (p : Int) c h => .run1 (e34 Tbl.none apk ap0 ap1 p c) ?_
  simp only [Bool.and_eq_true] at h
  obtain ⟨⟨h1, h2⟩, h3⟩ := h
  generalize c.2.2.2.1 = cap at *
  generalize c.2.2.2.2.1 = fl at *
  unfold limV
  have hk : apk p cap 0 = true := by unfold apk; rw [h1, h2]; rfl
  rw [hk, cond_true, bor_bif, maxI1, maxI1, minI1, show max (0 : Int) fl = max fl 0 by omega]
  show Goes _ _ _ _ (bif (ap1 p cap 0 != 0) || decide (p < 1) then _ else _) (.tv (I (bif decide (p < 1) then 0 else bif ap1 p cap 0 != 0 then 0 else max 0 (min (ap0 p cap 0) _))))
  refine .bif (fun g => .ret' ?_) fun g => .ret' ?_
  · cases hp : decide (p < 1)
    · rw [hp, Bool.or_false] at g
      rw [g]; rfl
    · rfl
  · have g' := Bool.or_eq_false_iff.1 g
    rw [g'.1, g'.2, cond_false, cond_false, lim_w h1 (of_decide_eq_false g'.2) h3]

/-! membership -/
def hasI (l : List Int) (m : Int) : Bool := l.any fun x => x == m
def Fcont := FC2 (.slice (.int .i64)) (.int .i64) (fun l _ => lenOK (List.length l)) fun l m => .tv (B (hasI l m))
noncomputable def M81 : Leaf := .loop (cAt Try.f27 [1, 0, 1, 0, 0]) [.inBlock 0, .code (cAt Try.f27 [1, 1])] ⟨[], []⟩
def S81 (s0 : (List Int)) (s1 : Int) (s5 : Int) : St := ⟨[(0, .tv (TD.mk (.slice (.int .i64)) s0)), (1, .tv (I s1)), (5, .tv (I s5))], []⟩
theorem i81 (G : Tbl)  (s0 : (List Int)) (s1 : Int) (s5 : Int) :
    runL G [(2, [0, 1, 5])] Try.f27 1000 M81.round (S81 s0 s1 s5) =
  bif (decide (s5 < ((List.length s0 : Nat) : Int))) then
    bif (inB s5 (List.length s0)) then
      bif ((List.getD s0 (Int.toNat s5) 0) == s1) then
        .ret (.tv (B true))
      else
        .loop M81.body M81.kont (S81 s0 s1 (w (s5 + 1)))
    else
      .fail
  else
    .ret (.tv (B false)) := by kernel_rfl
theorem e81 (G : Tbl)  (a0 : (List Int)) (a1 : Int) :
    runL G [(2, [0, 1, 5])] Try.f27 1000 (bod Try.f27) (entry [(TD.mk (.slice (.int .i64)) a0), (I a1)]) =
  .loop M81.body M81.kont (S81 a0 a1 0) := by kernel_rfl
theorem loop81 (l : List Int) (m : Int) (hl : l.length ≤ lenBound) : ∀ (k : Nat) (i : Nat), i + k = l.length →
    Goes Tbl.none T Try.f27.ntmps Try.f27.results.toList (.loop M81.body M81.kont (S81 l m i)) (.tv (B (hasI (l.drop i) m)))
  | 0, i, h => by
    refine Goes.lp' (i81 Tbl.none l m i) ?_
    rw [decide_eq_false (show ¬ (i : Int) < ((l.length : Nat) : Int) by omega), drop_end (by omega)]
    exact .ret _
  | k + 1, i, h => by
    refine Goes.lp' (i81 Tbl.none l m i) ?_
    have hi : (i : Int) < ((l.length : Nat) : Int) := by omega
    rw [decide_eq_true hi, cond_true, toNat_lt (by omega) hi, cond_true, w_step (by omega) hi hl, Int.toNat_natCast, drop_cons l 0 i (by omega)]
    unfold hasI
    rw [List.any_cons]
    refine .bif (fun g => .ret' (by rw [g]; rfl)) fun g => ?_
    rw [g, Bool.false_or]
    exact loop81 l m hl k (i + 1) (by omega)
theorem has81 : Hs 27 Fcont := by
  refine Has.fc2 (fn := Try.f27) env0 (by kernel_rfl) (by kernel_rfl) (by kernel_rfl) (by kernel_rfl) fun (l : List Int) (m : Int) h => .run1 (e81 Tbl.none l m) ?_
  exact loop81 l m (lenOK_spec h) l.length 0 (by omega)
def idxF (m : Int) : List Int → Int → Int
  | [], _ => -1
  | x :: r, i => bif m == x then i else idxF m r (i + 1)
theorem idxF_any (m : Int) : ∀ (l : List Int) (i : Int), 0 ≤ i → decide (idxF m l i ≥ 0) = hasI l m
  | [], i, _ => rfl
  | x :: r, i, h => by
    unfold idxF hasI
    rw [List.any_cons]
    by_cases e : m = x
    · rw [show (m == x) = true by simp [e], show (x == m) = true by simp [e], cond_true, decide_eq_true h]; rfl
    · rw [beq_false_of_ne e, beq_false_of_ne (Ne.symm e), cond_false, Bool.false_or]
      exact idxF_any m r (i + 1) (by omega)
def Fidx := FC2 (.slice (.int .i64)) (.int .i64) (fun l _ => lenOK (List.length l)) fun l m => .tv (I (idxF m l 0))
noncomputable def M97 : Leaf := .loop (cAt Try.f38 [1, 0, 1, 0, 0]) [.inBlock 0, .code (cAt Try.f38 [1, 1])] ⟨[], []⟩
def S97 (s0 : (List Int)) (s1 : Int) (s7 : Int) (s8 : Int) : St := ⟨[(0, .tv (TD.mk (.slice (.int .i64)) s0)), (1, .tv (I s1)), (7, .tv (I s7)), (8, .tv (I s8))], []⟩
theorem i97 (G : Tbl)  (s0 : (List Int)) (s1 : Int) (s7 : Int) (s8 : Int) :
    runL G [(2, [0, 1, 7, 8])] Try.f38 1000 M97.round (S97 s0 s1 s7 s8) =
  bif (decide (s8 < s7)) then
    bif (inB s8 (List.length s0)) then
      bif (s1 == (List.getD s0 (Int.toNat s8) 0)) then
        .ret (.tv (I s8))
      else
        .loop M97.body M97.kont (S97 s0 s1 s7 (w (s8 + 1)))
    else
      .fail
  else
    .ret (.tv (I (-1))) := by kernel_rfl
theorem e97 (G : Tbl)  (a0 : (List Int)) (a1 : Int) :
    runL G [(2, [0, 1, 7, 8])] Try.f38 1000 (bod Try.f38) (entry [(TD.mk (.slice (.int .i64)) a0), (I a1)]) =
  .loop M97.body M97.kont (S97 a0 a1 ((List.length a0 : Nat) : Int) 0) := by kernel_rfl
theorem loop97 (l : List Int) (m : Int) (hl : l.length ≤ lenBound) : ∀ (k : Nat) (i : Nat), i + k = l.length →
    Goes Tbl.none T Try.f38.ntmps Try.f38.results.toList (.loop M97.body M97.kont (S97 l m ((l.length : Nat) : Int) i)) (.tv (I (idxF m (l.drop i) i)))
  | 0, i, h => by
    refine Goes.lp' (i97 Tbl.none l m _ i) ?_
    rw [decide_eq_false (show ¬ (i : Int) < ((l.length : Nat) : Int) by omega), drop_end (by omega)]
    exact .ret _
  | k + 1, i, h => by
    refine Goes.lp' (i97 Tbl.none l m _ i) ?_
    have hi : (i : Int) < ((l.length : Nat) : Int) := by omega
    rw [decide_eq_true hi, cond_true, toNat_lt (by omega) hi, cond_true, w_step (by omega) hi hl, Int.toNat_natCast, drop_cons l 0 i (by omega)]
    unfold idxF
    refine .bif (fun g => .ret' (by rw [g]; rfl)) fun g => ?_
    rw [g]
    exact loop97 l m hl k (i + 1) (by omega)
theorem has97 : Hs 38 Fidx := by
  refine Has.fc2 (fn := Try.f38) env0 (by kernel_rfl) (by kernel_rfl) (by kernel_rfl) (by kernel_rfl) fun (l : List Int) (m : Int) h => .run1 (e97 Tbl.none l m) ?_
  exact loop97 l m (lenOK_spec h) l.length 0 (by omega)
theorem e80 (G : Tbl) (k97 : (List Int) → Int → Bool) (r97 : (List Int) → Int → Int) (a0 : (List Int)) (a1 : Int) :
    runL (G.add 38 (FC2 (.slice (.int .i64)) (.int .i64) k97 (fun x0 x1 => .tv (I (r97 x0 x1))))) [] Try.f26 1000 (bod Try.f26) (entry [(TD.mk (.slice (.int .i64)) a0), (I a1)]) =
  bif (k97 a0 a1) then
    .ret (.tv (B (decide ((r97 a0 a1) ≥ 0))))
  else
    .fail := by kernel_rfl
theorem has80 : Hs 26 Fcont := by
  refine Has.fc2 (fn := Try.f26) (env0.more has97) (by kernel_rfl) (by kernel_rfl) (by kernel_rfl) (by kernel_rfl) fun (l : List Int) (m : Int) h => .run1 (e80 Tbl.none (fun l _ => lenOK (List.length l)) (fun l m => idxF m l 0) l m) ?_
  rw [h, cond_true, idxF_any m l 0 (by omega)]
  exact .ret _
end Go.Lift.L39
set_option maxRecDepth 100000
set_option linter.unusedVariables false
set_option linter.unusedSimpArgs false
namespace Go.Lift.L39
open Go.Lift Go.Proofs

/-! distribute -/
def ovN (b : Q4.D) (left : Int) : Int := min (overV b) left
def distG (d k : Int) (st : List Int) : List Q4.D → Int → List Q4.D → List Q4.D × Int
  | [], left, out => (out, left)
  | b :: r, left, out =>
    bif decide (left > 0) then
      bif decide (ovN b left ≤ 0) || hasI st b.1 then distG d k st r left out
      else distG d k st r (left - ovN b left) (out ++ [(d, b.1, k, ovN b left, ())])
    else (out, left)
def d0 (l : List Q4.D) (left d k : Int) (st : List Int) : List Q4.D := (distG d k st l left []).1
def d1 (l : List Q4.D) (left d k : Int) (st : List Int) : Int := (distG d k st l left []).2
def dk (l : List Q4.D) (left d k : Int) (st : List Int) : Bool := lenOK l.length && lenOK st.length && i64ok left
def kc (l : List Int) (_m : Int) : Bool := lenOK l.length
def kT (_b : Q4.D) : Bool := true
theorem tail_one {α : Type} (b : α) (r : List α) : tail (b :: r) 1 (Int.toNat (((b :: r).length : Nat) : Int)) = r := by
  rw [Int.toNat_natCast]; unfold tail; rw [List.take_length]; rfl
theorem four {b : Q4.D} {r : List Q4.D} : (decide (0 ≤ 1) && decide ((1 : Int) ≤ (((b :: r).length : Nat) : Int)) && decide ((((b :: r).length : Nat) : Int) ≤ (((b :: r).length : Nat) : Int)) && decide ((((b :: r).length : Nat) : Int) ≤ (((b :: r).length : Nat) : Int))) = true := by
  rw [decide_eq_true (show (1 : Int) ≤ (((b :: r).length : Nat) : Int) by rw [List.length_cons]; omega), decide_eq_true (Int.le_refl _)]; rfl
theorem lenA {α : Type} {out : List α} {x : α} (h : out.length + 1 ≤ lenBound) : lenOK (out.length + [x].length) = true := lenOK_le h
theorem mnO (b : Q4.D) (left : Int) : minI [left] (overV b) = ovN b left := minI1 _ _
def Fdist4 := FC4 (.slice Q4) (.int .i64) Q4 (.slice (.int .i64)) (fun l left p st => dk l left p.1 p.2.2.1 st) fun l left p st => .tup [.own Q4 (d0 l left p.1 p.2.2.1 st), .tv (I (d1 l left p.1 p.2.2.1 st))]
def Fdist5 := FC5 (.slice Q4) (.int .i64) (.int .i64) (.int .i64) (.slice (.int .i64)) dk fun l left d k st => .tup [.own Q4 (d0 l left d k st), .tv (I (d1 l left d k st))]
noncomputable def M67 : Leaf := .loop (cAt Try.f21 [1, 1, 0, 1, 0, 0]) [.inBlock 0, .code (cAt Try.f21 [1, 1, 1])] ⟨[], []⟩
def S67 (s1 : Int) (s3 : (List Int)) (s11 : (List (Ty.D Q4))) (b6 : (Ty.D Q4)) (b10 : (List (Ty.D Q4))) : St := ⟨[(1, .tv (I s1)), (3, .tv (TD.mk (.slice (.int .i64)) s3)), (6, .ptr 6 none []), (10, .ref 10), (11, .tv (TD.mk (.slice (.cons (.int .i64) (.cons (.int .i64) (.cons (.int .i64) (.cons (.int .i64) (.nil)))))) s11))], [(6, .var (TD.mk Q4 b6)), (10, .vec Q4 b10)]⟩
theorem i67 (G : Tbl) (k29 : (Ty.D Q4) → Bool) (r29 : (Ty.D Q4) → Int) (k80 : (List Int) → Int → Bool) (r80 : (List Int) → Int → Bool) (s1 : Int) (s3 : (List Int)) (s11 : (List (Ty.D Q4))) (b6 : (Ty.D Q4)) (b10 : (List (Ty.D Q4))) :
    runL ((G.add 25 (FC1 Q4 k29 (fun x0 => .tv (I (r29 x0))))).add 26 (FC2 (.slice (.int .i64)) (.int .i64) k80 (fun x0 x1 => .tv (B (r80 x0 x1))))) [(2, [1, 3, 6, 10, 11])] Try.f21 1000 M67.round (S67 s1 s3 s11 b6 b10) =
  bif (bif (decide (((List.length s11 : Nat) : Int) > 0)) then (decide (s1 > 0)) else false) then
    bif (inB 0 (List.length s11)) then
      bif (k29 (List.getD s11 0 (0, 0, 0, 0, ()))) then
        bif ((k80 s3 (((List.getD s11 0 (0, 0, 0, 0, ()))).1)) || (!(!(decide ((minI [s1] (r29 (List.getD s11 0 (0, 0, 0, 0, ())))) ≤ 0))))) then
          bif (bif (decide ((minI [s1] (r29 (List.getD s11 0 (0, 0, 0, 0, ())))) ≤ 0)) then true else (r80 s3 (((List.getD s11 0 (0, 0, 0, 0, ()))).1))) then
            bif (decide (0 ≤ 1) && decide (1 ≤ ((List.length s11 : Nat) : Int)) && decide (((List.length s11 : Nat) : Int) ≤ ((List.length s11 : Nat) : Int)) && decide (((List.length s11 : Nat) : Int) ≤ ((List.length s11 : Nat) : Int))) then
              .loop M67.body M67.kont (S67 s1 s3 (tail s11 1 (Int.toNat ((List.length s11 : Nat) : Int))) b6 b10)
            else
              .fail
          else
            bif (lenOK ((List.length b10) + (List.length [(b6.1, ((List.getD s11 0 (0, 0, 0, 0, ()))).1, b6.2.2.1, (minI [s1] (r29 (List.getD s11 0 (0, 0, 0, 0, ())))), ())]))) then
              bif (decide (0 ≤ 1) && decide (1 ≤ ((List.length s11 : Nat) : Int)) && decide (((List.length s11 : Nat) : Int) ≤ ((List.length s11 : Nat) : Int)) && decide (((List.length s11 : Nat) : Int) ≤ ((List.length s11 : Nat) : Int))) then
                .loop M67.body M67.kont (S67 (w (s1 - (minI [s1] (r29 (List.getD s11 0 (0, 0, 0, 0, ())))))) s3 (tail s11 1 (Int.toNat ((List.length s11 : Nat) : Int))) (b6.1, ((List.getD s11 0 (0, 0, 0, 0, ()))).1, b6.2.2.1, (minI [s1] (r29 (List.getD s11 0 (0, 0, 0, 0, ())))), ()) (b10 ++ [(b6.1, ((List.getD s11 0 (0, 0, 0, 0, ()))).1, b6.2.2.1, (minI [s1] (r29 (List.getD s11 0 (0, 0, 0, 0, ())))), ())]))
              else
                .fail
            else
              .fail
        else
          .fail
      else
        .fail
    else
      .fail
  else
    .ret (.tup [.own Q4 b10, .tv (I s1)]) := by kernel_rfl
theorem e67 (G : Tbl) (k29 : (Ty.D Q4) → Bool) (r29 : (Ty.D Q4) → Int) (k80 : (List Int) → Int → Bool) (r80 : (List Int) → Int → Bool) (a0 : (List (Ty.D Q4))) (a1 : Int) (a2 : (Ty.D Q4)) (a3 : (List Int)) :
    runL ((G.add 25 (FC1 Q4 k29 (fun x0 => .tv (I (r29 x0))))).add 26 (FC2 (.slice (.int .i64)) (.int .i64) k80 (fun x0 x1 => .tv (B (r80 x0 x1))))) [(2, [1, 3, 6, 10, 11])] Try.f21 1000 (bod Try.f21) (entry [(TD.mk (.slice (.cons (.int .i64) (.cons (.int .i64) (.cons (.int .i64) (.cons (.int .i64) (.nil)))))) a0), (I a1), (TD.mk Q4 a2), (TD.mk (.slice (.int .i64)) a3)]) =
  .loop M67.body M67.kont (S67 a1 a3 a0 a2 []) := by kernel_rfl
abbrev G67 : Tbl := (Tbl.none.add 25 FOver).add 26 Fcont
theorem loop67 (d k : Int) (st : List Int) (hst : lenOK st.length = true) : ∀ (r : List Q4.D) (left m c : Int) (out : List Q4.D), i64ok left = true → out.length + r.length ≤ lenBound →
    Goes G67 T Try.f21.ntmps Try.f21.results.toList (.loop M67.body M67.kont (S67 left st r (d, m, k, c, ()) out)) (.tup [.own Q4 (distG d k st r left out).1, .tv (I (distG d k st r left out).2)])
  | [], left, m, c, out, hl, ho => by
    refine Goes.lp' (i67 Tbl.none kT overV kc hasI left st [] (d, m, k, c, ()) out) ?_
    rw [decide_eq_false (show ¬ ((([] : List Q4.D).length : Nat) : Int) > 0 by simp)]
    exact .ret _
  | b :: r, left, m, c, out, hl, ho => by
    refine Goes.lp' (i67 Tbl.none kT overV kc hasI left st (b :: r) (d, m, k, c, ()) out) ?_
    have hlen : (((b :: r).length : Nat) : Int) > 0 := by rw [List.length_cons]; omega
    rw [decide_eq_true hlen, cond_true, toNat_lt (i := 0) (by omega) (by omega), cond_true, four, tail_one, List.getD_cons_zero, mnO]
    unfold distG
    refine .bif (fun h => ?_) fun h => .ret' (by rw [h]; rfl)
    rw [h, cond_true, cond_true, show kT b = true from rfl, cond_true, show kc st b.1 = true from hst, Bool.true_or, cond_true, bor_bif]
    refine .bif (fun g => ?_) fun g => ?_
    · rw [g, cond_true]
      exact loop67 d k st hst r left m c out hl (by rw [List.length_cons] at ho; omega)
    · have g' := Bool.or_eq_false_iff.1 g
      have n0 := of_decide_eq_false g'.1
      have lp := of_decide_eq_true h
      have ll := i64ok_spec hl
      have nle : ovN b left ≤ left := by unfold ovN; omega
      have e1 : w (left - ovN b left) = left - ovN b left := wrap_id (by omega) (by omega)
      rw [g, cond_false, lenA (show out.length + 1 ≤ lenBound by rw [List.length_cons] at ho; omega), cond_true, e1]
      exact loop67 d k st hst r _ _ _ _ (by unfold i64ok; rw [decide_eq_true (show _ ≤ left - ovN b left by omega), decide_eq_true (show left - ovN b left ≤ _ by omega)]; rfl)
        (by rw [List.length_append, List.length_cons, List.length_nil]; rw [List.length_cons] at ho; omega)
theorem has67 : Hs 21 Fdist4 := by
  refine Has.fc4 (G := G67) (fn := Try.f21) ((env0.more has29b).more has80) (by kernel_rfl) (by kernel_rfl) (by kernel_rfl) (by kernel_rfl)
    fun (l : List Q4.D) (left : Int) (p : Q4.D) (st : List Int) h => .run1 (e67 Tbl.none kT overV kc hasI l left p st) ?_
  unfold dk at h
  rw [Bool.and_eq_true, Bool.and_eq_true] at h
  have := lenOK_spec h.1.1
  exact loop67 p.1 p.2.2.1 st h.1.2 l left p.2.1 p.2.2.2.1 [] h.2 (by rw [List.length_nil]; omega)
noncomputable def M68 : Leaf := .loop (cAt Try.f22 [1, 1, 0, 1, 0, 0]) [.inBlock 0, .code (cAt Try.f22 [1, 1, 1])] ⟨[], []⟩
def S68 (s0 : (List (Ty.D Q4))) (s1 : Int) (s2 : Int) (s3 : Int) (s4 : (List Int)) (s13 : Int) (b12 : (List (Ty.D Q4))) : St := ⟨[(0, .tv (TD.mk (.slice (.cons (.int .i64) (.cons (.int .i64) (.cons (.int .i64) (.cons (.int .i64) (.nil)))))) s0)), (1, .tv (I s1)), (2, .tv (I s2)), (3, .tv (I s3)), (4, .tv (TD.mk (.slice (.int .i64)) s4)), (12, .ref 12), (13, .tv (I s13))], [(12, .vec Q4 b12)]⟩
theorem i68 (G : Tbl) (k30 : (Ty.D Q4) → Bool) (r30 : (Ty.D Q4) → Int) (k81 : (List Int) → Int → Bool) (r81 : (List Int) → Int → Bool) (s0 : (List (Ty.D Q4))) (s1 : Int) (s2 : Int) (s3 : Int) (s4 : (List Int)) (s13 : Int) (b12 : (List (Ty.D Q4))) :
    runL ((G.add 17 (FC1 Q4 k30 (fun x0 => .tv (I (r30 x0))))).add 27 (FC2 (.slice (.int .i64)) (.int .i64) k81 (fun x0 x1 => .tv (B (r81 x0 x1))))) [(2, [0, 1, 2, 3, 4, 12, 13])] Try.f22 1000 M68.round (S68 s0 s1 s2 s3 s4 s13 b12) =
  bif (bif (decide (s13 < ((List.length s0 : Nat) : Int))) then (decide (s1 > 0)) else false) then
    bif (inB s13 (List.length s0)) then
      bif (k30 (List.getD s0 (Int.toNat s13) (0, 0, 0, 0, ()))) then
        bif ((inB s13 (List.length s0)) || (!(!(decide ((minI [s1] (r30 (List.getD s0 (Int.toNat s13) (0, 0, 0, 0, ())))) < 1))))) then
          bif ((k81 s4 (((List.getD s0 (Int.toNat s13) (0, 0, 0, 0, ()))).1)) || (!(!(decide ((minI [s1] (r30 (List.getD s0 (Int.toNat s13) (0, 0, 0, 0, ())))) < 1))))) then
            bif (bif (decide ((minI [s1] (r30 (List.getD s0 (Int.toNat s13) (0, 0, 0, 0, ())))) < 1)) then true else (r81 s4 (((List.getD s0 (Int.toNat s13) (0, 0, 0, 0, ()))).1))) then
              .loop M68.body M68.kont (S68 s0 s1 s2 s3 s4 (w (s13 + 1)) b12)
            else
              bif (inB s13 (List.length s0)) then
                bif (lenOK ((List.length b12) + (List.length [(s2, ((List.getD s0 (Int.toNat s13) (0, 0, 0, 0, ()))).1, s3, (minI [s1] (r30 (List.getD s0 (Int.toNat s13) (0, 0, 0, 0, ())))), ())]))) then
                  .loop M68.body M68.kont (S68 s0 (w (s1 - (minI [s1] (r30 (List.getD s0 (Int.toNat s13) (0, 0, 0, 0, ())))))) s2 s3 s4 (w (s13 + 1)) (b12 ++ [(s2, ((List.getD s0 (Int.toNat s13) (0, 0, 0, 0, ()))).1, s3, (minI [s1] (r30 (List.getD s0 (Int.toNat s13) (0, 0, 0, 0, ())))), ())]))
                else
                  .fail
              else
                .fail
          else
            .fail
        else
          .fail
      else
        .fail
    else
      .fail
  else
    .ret (.tup [.own Q4 b12, .tv (I s1)]) := by kernel_rfl
theorem e68 (G : Tbl) (k30 : (Ty.D Q4) → Bool) (r30 : (Ty.D Q4) → Int) (k81 : (List Int) → Int → Bool) (r81 : (List Int) → Int → Bool) (a0 : (List (Ty.D Q4))) (a1 : Int) (a2 : Int) (a3 : Int) (a4 : (List Int)) :
    runL ((G.add 17 (FC1 Q4 k30 (fun x0 => .tv (I (r30 x0))))).add 27 (FC2 (.slice (.int .i64)) (.int .i64) k81 (fun x0 x1 => .tv (B (r81 x0 x1))))) [(2, [0, 1, 2, 3, 4, 12, 13])] Try.f22 1000 (bod Try.f22) (entry [(TD.mk (.slice (.cons (.int .i64) (.cons (.int .i64) (.cons (.int .i64) (.cons (.int .i64) (.nil)))))) a0), (I a1), (I a2), (I a3), (TD.mk (.slice (.int .i64)) a4)]) =
  .loop M68.body M68.kont (S68 a0 a1 a2 a3 a4 0 []) := by kernel_rfl
abbrev G68 : Tbl := (Tbl.none.add 17 FOver).add 27 Fcont
theorem lt1 (n : Int) : decide (n < 1) = decide (n ≤ 0) := by rw [decide_eq_decide]; omega
theorem loop68 (d k : Int) (st : List Int) (hst : lenOK st.length = true) (l : List Q4.D) (hL : l.length ≤ lenBound) : ∀ (n : Nat) (i : Nat) (left : Int) (out : List Q4.D), i + n = l.length → i64ok left = true → out.length + n ≤ lenBound →
    Goes G68 T Try.f22.ntmps Try.f22.results.toList (.loop M68.body M68.kont (S68 l left d k st i out)) (.tup [.own Q4 (distG d k st (l.drop i) left out).1, .tv (I (distG d k st (l.drop i) left out).2)])
  | 0, i, left, out, h, hl, ho => by
    refine Goes.lp' (i68 Tbl.none kT overV kc hasI l left d k st i out) ?_
    rw [decide_eq_false (show ¬ (i : Int) < ((l.length : Nat) : Int) by omega), drop_end (by omega)]
    exact .ret _
  | n + 1, i, left, out, h, hl, ho => by
    refine Goes.lp' (i68 Tbl.none kT overV kc hasI l left d k st i out) ?_
    have hi : (i : Int) < ((l.length : Nat) : Int) := by omega
    rw [decide_eq_true hi, cond_true, toNat_lt (by omega) hi, w_step (by omega) hi hL, Int.toNat_natCast, drop_cons l (0, 0, 0, 0, ()) i (by omega), mnO, lt1, show kc st (l.getD i (0, 0, 0, 0, ())).1 = true from hst]
    generalize l.getD i (0, 0, 0, 0, ()) = b at *
    unfold distG
    refine .bif (fun h => ?_) fun h => .ret' (by rw [h]; rfl)
    rw [h, show kT b = true from rfl, Bool.true_or]
    rw [cond_true, cond_true, cond_true, cond_true, cond_true, bor_bif]
    refine .bif (fun g => ?_) fun g => ?_
    · rw [g, cond_true]
      exact loop68 d k st hst l hL n (i + 1) left out (by omega) hl (by omega)
    · have g' := Bool.or_eq_false_iff.1 g
      have n0 := of_decide_eq_false g'.1
      have lp := of_decide_eq_true h
      have ll := i64ok_spec hl
      have nle : ovN b left ≤ left := by unfold ovN; omega
      have e1 : w (left - ovN b left) = left - ovN b left := wrap_id (by omega) (by omega)
      rw [g, cond_false, cond_true, lenA (show out.length + 1 ≤ lenBound by omega), cond_true, e1]
      exact loop68 d k st hst l hL n (i + 1) _ _ (by omega) (by unfold i64ok; rw [decide_eq_true (show _ ≤ left - ovN b left by omega), decide_eq_true (show left - ovN b left ≤ _ by omega)]; rfl)
        (by rw [List.length_append, List.length_cons, List.length_nil]; omega)
theorem has68 : Hs 22 Fdist5 := by
  refine Has.fc5 (G := G68) (fn := Try.f22) ((env0.more has30b).more has81) (by kernel_rfl) (by kernel_rfl) (by kernel_rfl) (by kernel_rfl)
    fun (l : List Q4.D) (left : Int) (d : Int) (k : Int) (st : List Int) h => .run1 (e68 Tbl.none kT overV kc hasI l left d k st) ?_
  unfold dk at h
  rw [Bool.and_eq_true, Bool.and_eq_true] at h
  have := lenOK_spec h.1.1
  exact loop68 d k st h.1.2 l this l.length 0 left [] (by omega) h.2 (by rw [List.length_nil]; omega)
end Go.Lift.L39
set_option maxRecDepth 100000
set_option linter.unusedVariables false
set_option linter.unusedSimpArgs false
namespace Go.Lift.L39
open Go.Lift Go.Proofs

/-! Plan, Repay -/
theorem limV_le (p cap f : Int) : 0 ≤ limV p cap f ∧ limV p cap f ≤ 1000000000000000 := by
  unfold limV
  have h := mdRes_small p cap 1000000 0
  cases decide (p < 1)
  · cases (mdRes p cap 1000000 0).2 != 0
    · show 0 ≤ max 0 (min (mdRes p cap 1000000 0).1 (p - max f 0)) ∧ max 0 (min (mdRes p cap 1000000 0).1 (p - max f 0)) ≤ _
      generalize (mdRes p cap 1000000 0).1 = a at *
      omega
    · exact ⟨by show (0 : Int) ≤ 0; omega, by show (0 : Int) ≤ _; omega⟩
  · exact ⟨by show (0 : Int) ≤ 0; omega, by show (0 : Int) ≤ _; omega⟩
def limC (p : Int) (c : Conf.D) : Int := limV p c.2.2.2.1 c.2.2.2.2.1
def limK (p : Int) (c : Conf.D) : Bool := i64ok p && i64ok c.2.2.2.1 && i64ok c.2.2.2.2.1
theorem limC_ok (p : Int) (c : Conf.D) : i64ok (limC p c) = true := by
  have := limV_le p c.2.2.2.1 c.2.2.2.2.1
  unfold limC i64ok
  rw [decide_eq_true (show _ ≤ limV p c.2.2.2.1 c.2.2.2.2.1 by omega), decide_eq_true (show limV p c.2.2.2.1 c.2.2.2.2.1 ≤ _ by omega)]; rfl
def planV (l : List Q4.D) (p : Int) (c : Conf.D) (d : Int) (st : List Int) : List Q4.D := d0 l (limC p c) d 2 st
def planK (l : List Q4.D) (p : Int) (c : Conf.D) (_d : Int) (st : List Int) : Bool := lenOK l.length && lenOK st.length && limK p c
def FPlan := FC5 (.slice Q4) (.int .i64) Conf (.int .i64) (.slice (.int .i64)) planK fun l p c d st => .own Q4 (planV l p c d st)
def p4k (l : List Q4.D) (left : Int) (p : Q4.D) (st : List Int) : Bool := dk l left p.1 p.2.2.1 st
def p40 (l : List Q4.D) (left : Int) (p : Q4.D) (st : List Int) : List Q4.D := d0 l left p.1 p.2.2.1 st
def p41 (l : List Q4.D) (left : Int) (p : Q4.D) (st : List Int) : Int := d1 l left p.1 p.2.2.1 st
theorem plan_dk {l : List Q4.D} {p : Int} {c : Conf.D} {d : Int} {st : List Int} (k : Int) (h : planK l p c d st = true) : limK p c = true ∧ dk l (limC p c) d k st = true := by
  unfold planK at h
  rw [Bool.and_eq_true] at h
  refine ⟨h.2, ?_⟩
  unfold dk
  rw [h.1, limC_ok]; rfl
theorem e38b (G : Tbl) (k33 : Int → (Ty.D Conf) → Bool) (r33 : Int → (Ty.D Conf) → Int) (k67 : (List (Ty.D Q4)) → Int → (Ty.D Q4) → (List Int) → Bool) (r67_0 : (List (Ty.D Q4)) → Int → (Ty.D Q4) → (List Int) → (List (Ty.D Q4))) (r67_1 : (List (Ty.D Q4)) → Int → (Ty.D Q4) → (List Int) → Int) (a0 : (List (Ty.D Q4))) (a1 : Int) (a2 : (Ty.D Conf)) (a3 : Int) (a4 : (List Int)) :
    runL ((G.add 8 (FC2 (.int .i64) Conf k33 (fun x0 x1 => .tv (I (r33 x0 x1))))).add 21 (FC4 (.slice (.cons (.int .i64) (.cons (.int .i64) (.cons (.int .i64) (.cons (.int .i64) (.nil)))))) (.int .i64) Q4 (.slice (.int .i64)) k67 (fun x0 x1 x2 x3 => .tup [.own Q4 (r67_0 x0 x1 x2 x3), .tv (I (r67_1 x0 x1 x2 x3))]))) [] Try.f13 1000 (bod Try.f13) (entry [(TD.mk (.slice (.cons (.int .i64) (.cons (.int .i64) (.cons (.int .i64) (.cons (.int .i64) (.nil)))))) a0), (I a1), (TD.mk Conf a2), (I a3), (TD.mk (.slice (.int .i64)) a4)]) =
  bif (k33 a1 a2) then
    bif (k67 a0 (r33 a1 a2) (a3, 0, 2, 0, ()) a4) then
      .ret (.own Q4 (r67_0 a0 (r33 a1 a2) (a3, 0, 2, 0, ()) a4))
    else
      .fail
  else
    .fail := by kernel_rfl
theorem has38b : Hs 13 FPlan := by
  refine Has.fc5 (fn := Try.f13) ((env0.more has33b).more has67) (by kernel_rfl) (by kernel_rfl) (by kernel_rfl) (by kernel_rfl)
    fun (l : List Q4.D) (p : Int) (c : Conf.D) (d : Int) (st : List Int) h => .run1 (e38b Tbl.none limK limC p4k p40 p41 l p c d st) ?_
  obtain ⟨h1, h2⟩ := plan_dk 2 h
  rw [h1, cond_true, show p4k l (limC p c) (d, 0, 2, 0, ()) st = true from h2, cond_true]
  exact .ret _
theorem e39b (G : Tbl) (k34 : Int → (Ty.D Conf) → Bool) (r34 : Int → (Ty.D Conf) → Int) (k68 : (List (Ty.D Q4)) → Int → Int → Int → (List Int) → Bool) (r68_0 : (List (Ty.D Q4)) → Int → Int → Int → (List Int) → (List (Ty.D Q4))) (r68_1 : (List (Ty.D Q4)) → Int → Int → Int → (List Int) → Int) (a0 : (List (Ty.D Q4))) (a1 : Int) (a2 : (Ty.D Conf)) (a3 : Int) (a4 : (List Int)) :
    runL ((G.add 9 (FC2 (.int .i64) Conf k34 (fun x0 x1 => .tv (I (r34 x0 x1))))).add 22 (FC5 (.slice (.cons (.int .i64) (.cons (.int .i64) (.cons (.int .i64) (.cons (.int .i64) (.nil)))))) (.int .i64) (.int .i64) (.int .i64) (.slice (.int .i64)) k68 (fun x0 x1 x2 x3 x4 => .tup [.own Q4 (r68_0 x0 x1 x2 x3 x4), .tv (I (r68_1 x0 x1 x2 x3 x4))]))) [] Try.f14 1000 (bod Try.f14) (entry [(TD.mk (.slice (.cons (.int .i64) (.cons (.int .i64) (.cons (.int .i64) (.cons (.int .i64) (.nil)))))) a0), (I a1), (TD.mk Conf a2), (I a3), (TD.mk (.slice (.int .i64)) a4)]) =
  bif (k34 a1 a2) then
    bif (k68 a0 (r34 a1 a2) a3 2 a4) then
      .ret (.own Q4 (r68_0 a0 (r34 a1 a2) a3 2 a4))
    else
      .fail
  else
    .fail := by kernel_rfl
theorem has39b : Hs 14 FPlan := by
  refine Has.fc5 (fn := Try.f14) ((env0.more has34b).more has68) (by kernel_rfl) (by kernel_rfl) (by kernel_rfl) (by kernel_rfl)
    fun (l : List Q4.D) (p : Int) (c : Conf.D) (d : Int) (st : List Int) h => .run1 (e39b Tbl.none limK limC dk d0 d1 l p c d st) ?_
  obtain ⟨h1, h2⟩ := plan_dk 2 h
  rw [h1, cond_true, h2, cond_true]
  exact .ret _
def rp0 (l : List Q4.D) (c d : Int) : List Q4.D := d0 l (max c 0) d 3 []
def rp1 (l : List Q4.D) (c d : Int) : Int := d1 l (max c 0) d 3 []
def rpK (l : List Q4.D) (c _d : Int) : Bool := lenOK l.length && i64ok c
def FRepay := FC3 (.slice Q4) (.int .i64) (.int .i64) rpK fun l c d => .tup [.own Q4 (rp0 l c d), .tv (I (rp1 l c d))]
theorem dist_zero (d k : Int) (st : List Int) (l : List Q4.D) {left : Int} (h : left ≤ 0) : distG d k st l left [] = ([], left) := by
  cases l with
  | nil => rfl
  | cons b r => unfold distG; rw [decide_eq_false (show ¬ left > 0 by omega), cond_false]
theorem rp_dk {l : List Q4.D} {c d : Int} (h : rpK l c d = true) : dk l (max c 0) d 3 [] = true := by
  unfold rpK at h
  rw [Bool.and_eq_true] at h
  have hc := i64ok_spec h.2
  unfold dk i64ok
  rw [h.1, decide_eq_true (show _ ≤ max c 0 by omega), decide_eq_true (show max c 0 ≤ _ by omega)]; rfl
theorem e40b (G : Tbl) (k67 : (List (Ty.D Q4)) → Int → (Ty.D Q4) → (List Int) → Bool) (r67_0 : (List (Ty.D Q4)) → Int → (Ty.D Q4) → (List Int) → (List (Ty.D Q4))) (r67_1 : (List (Ty.D Q4)) → Int → (Ty.D Q4) → (List Int) → Int) (a0 : (List (Ty.D Q4))) (a1 : Int) (a2 : Int) :
    runL (G.add 21 (FC4 (.slice (.cons (.int .i64) (.cons (.int .i64) (.cons (.int .i64) (.cons (.int .i64) (.nil)))))) (.int .i64) Q4 (.slice (.int .i64)) k67 (fun x0 x1 x2 x3 => .tup [.own Q4 (r67_0 x0 x1 x2 x3), .tv (I (r67_1 x0 x1 x2 x3))]))) [] Try.f15 1000 (bod Try.f15) (entry [(TD.mk (.slice (.cons (.int .i64) (.cons (.int .i64) (.cons (.int .i64) (.cons (.int .i64) (.nil)))))) a0), (I a1), (I a2)]) =
  bif (decide (a1 < 1)) then
    .ret (.tup [.own Q4 [], .tv (I 0)])
  else
    bif (k67 a0 a1 (a2, 0, 3, 0, ()) []) then
      .ret (.tup [.own Q4 (r67_0 a0 a1 (a2, 0, 3, 0, ()) []), .tv (I (r67_1 a0 a1 (a2, 0, 3, 0, ()) []))])
    else
      .fail := by kernel_rfl
theorem has40b : Hs 15 FRepay := by
  refine Has.fc3 (fn := Try.f15) (env0.more has67) (by kernel_rfl) (by kernel_rfl) (by kernel_rfl) (by kernel_rfl)
    fun (l : List Q4.D) (c d : Int) h => .run1 (e40b Tbl.none p4k p40 p41 l c d) ?_
  have h2 := rp_dk h
  refine .bif (fun g => .ret' ?_) fun g => ?_
  · have := of_decide_eq_true g
    unfold rp0 rp1 d0 d1
    rw [show max c 0 = 0 by omega, dist_zero _ _ _ _ (Int.le_refl 0)]
  · have := of_decide_eq_false g
    rw [show max c 0 = c by omega] at h2
    rw [show p4k l c (d, 0, 3, 0, ()) [] = true from h2, cond_true]
    refine .ret' ?_
    unfold rp0 rp1
    rw [show max c 0 = c by omega]
    rfl
theorem e41b (G : Tbl) (k68 : (List (Ty.D Q4)) → Int → Int → Int → (List Int) → Bool) (r68_0 : (List (Ty.D Q4)) → Int → Int → Int → (List Int) → (List (Ty.D Q4))) (r68_1 : (List (Ty.D Q4)) → Int → Int → Int → (List Int) → Int) (a0 : (List (Ty.D Q4))) (a1 : Int) (a2 : Int) :
    runL (G.add 22 (FC5 (.slice (.cons (.int .i64) (.cons (.int .i64) (.cons (.int .i64) (.cons (.int .i64) (.nil)))))) (.int .i64) (.int .i64) (.int .i64) (.slice (.int .i64)) k68 (fun x0 x1 x2 x3 x4 => .tup [.own Q4 (r68_0 x0 x1 x2 x3 x4), .tv (I (r68_1 x0 x1 x2 x3 x4))]))) [] Try.f16 1000 (bod Try.f16) (entry [(TD.mk (.slice (.cons (.int .i64) (.cons (.int .i64) (.cons (.int .i64) (.cons (.int .i64) (.nil)))))) a0), (I a1), (I a2)]) =
  bif (k68 a0 (maxI [a1] 0) a2 3 []) then
    .ret (.tup [.own Q4 (r68_0 a0 (maxI [a1] 0) a2 3 []), .tv (I (r68_1 a0 (maxI [a1] 0) a2 3 []))])
  else
    .fail := by kernel_rfl
theorem has41b : Hs 16 FRepay := by
  refine Has.fc3 (fn := Try.f16) (env0.more has68) (by kernel_rfl) (by kernel_rfl) (by kernel_rfl) (by kernel_rfl)
    fun (l : List Q4.D) (c d : Int) h => .run1 (e41b Tbl.none dk d0 d1 l c d) ?_
  have h2 := rp_dk h
  rw [maxI1, show max (0 : Int) c = max c 0 by omega, h2, cond_true]
  exact .ret _

/-! equal lists -/
def sameQ : List Q4.D → List Q4.D → Bool
  | [], [] => true
  | x :: r, y :: s => eqD Q4 x y && sameQ r s
  | _, _ => false
theorem eqQ_self (x : Q4.D) : eqD Q4 x x = true := by
  show ((x.1 == x.1) && ((x.2.1 == x.2.1) && ((x.2.2.1 == x.2.2.1) && ((x.2.2.2.1 == x.2.2.2.1) && true)))) = true
  simp
theorem sameQ_self : ∀ l : List Q4.D, sameQ l l = true
  | [] => rfl
  | x :: r => by unfold sameQ; rw [eqQ_self, sameQ_self r]; rfl
theorem sameQ_len : ∀ (a b : List Q4.D), a.length ≠ b.length → sameQ a b = false
  | [], [], h => (h rfl).elim
  | [], _ :: _, _ => rfl
  | _ :: _, [], _ => rfl
  | x :: r, y :: s, h => by
    unfold sameQ; rw [sameQ_len r s (fun e => h (by simp [e])), Bool.and_false]
def FSameQ := FC2 (.slice Q4) (.slice Q4) (fun a _ => lenOK (List.length a)) fun a b => .tv (B (sameQ a b))
noncomputable def M37 : Leaf := .loop (cAt Try.f12 [1, 1, 0, 1, 0, 0]) [.inBlock 0, .code (cAt Try.f12 [1, 1, 1])] ⟨[], []⟩
def S37 (s0 : (List (Ty.D Q4))) (s1 : (List (Ty.D Q4))) (s5 : Int) : St := ⟨[(0, .tv (TD.mk (.slice (.cons (.int .i64) (.cons (.int .i64) (.cons (.int .i64) (.cons (.int .i64) (.nil)))))) s0)), (1, .tv (TD.mk (.slice (.cons (.int .i64) (.cons (.int .i64) (.cons (.int .i64) (.cons (.int .i64) (.nil)))))) s1)), (5, .tv (I s5))], []⟩
theorem i37b (G : Tbl)  (s0 : (List (Ty.D Q4))) (s1 : (List (Ty.D Q4))) (s5 : Int) :
    runL G [(2, [0, 1, 5])] Try.f12 1000 M37.round (S37 s0 s1 s5) =
  bif (bif (decide (s5 < ((List.length s0 : Nat) : Int))) then (decide (s5 < ((List.length s1 : Nat) : Int))) else false) then
    bif (inB s5 (List.length s0)) then
      bif (inB s5 (List.length s1)) then
        bif (!(eqD Q4 (List.getD s0 (Int.toNat s5) (0, 0, 0, 0, ())) (List.getD s1 (Int.toNat s5) (0, 0, 0, 0, ())))) then
          .ret (.tv (B false))
        else
          .loop M37.body M37.kont (S37 s0 s1 (w (s5 + 1)))
      else
        .fail
    else
      .fail
  else
    .ret (.tv (B true)) := by kernel_rfl
theorem e37b (G : Tbl)  (a0 : (List (Ty.D Q4))) (a1 : (List (Ty.D Q4))) :
    runL G [(2, [0, 1, 5])] Try.f12 1000 (bod Try.f12) (entry [(TD.mk (.slice (.cons (.int .i64) (.cons (.int .i64) (.cons (.int .i64) (.cons (.int .i64) (.nil)))))) a0), (TD.mk (.slice (.cons (.int .i64) (.cons (.int .i64) (.cons (.int .i64) (.cons (.int .i64) (.nil)))))) a1)]) =
  bif (((List.length a0 : Nat) : Int) != ((List.length a1 : Nat) : Int)) then
    .ret (.tv (B false))
  else
    .loop M37.body M37.kont (S37 a0 a1 0) := by kernel_rfl
theorem loop37 (a b : List Q4.D) (hl : a.length ≤ lenBound) (hab : a.length = b.length) : ∀ (k : Nat) (i : Nat), i + k = a.length →
    Goes Tbl.none T Try.f12.ntmps Try.f12.results.toList (.loop M37.body M37.kont (S37 a b i)) (.tv (B (sameQ (a.drop i) (b.drop i))))
  | 0, i, h => by
    refine Goes.lp' (i37b Tbl.none a b i) ?_
    rw [decide_eq_false (show ¬ (i : Int) < ((a.length : Nat) : Int) by omega), drop_end (l := a) (by omega), drop_end (l := b) (by omega)]
    exact .ret _
  | k + 1, i, h => by
    refine Goes.lp' (i37b Tbl.none a b i) ?_
    have hi : (i : Int) < ((a.length : Nat) : Int) := by omega
    have hj : (i : Int) < ((b.length : Nat) : Int) := by omega
    rw [decide_eq_true hi, decide_eq_true hj, cond_true, cond_true, toNat_lt (by omega) hi, toNat_lt (by omega) hj, cond_true, cond_true, w_step (by omega) hi hl, Int.toNat_natCast,
      drop_cons a (0, 0, 0, 0, ()) i (by omega), drop_cons b (0, 0, 0, 0, ()) i (by omega)]
    unfold sameQ
    refine .bif (fun g => .ret' ?_) fun g => ?_
    · rw [Bool.not_eq_true'] at g; rw [g]; rfl
    · rw [Bool.not_eq_false'] at g; rw [g, Bool.true_and]
      exact loop37 a b hl hab k (i + 1) (by omega)
theorem has37b : Hs 12 FSameQ := by
  refine Has.fc2 (fn := Try.f12) env0 (by kernel_rfl) (by kernel_rfl) (by kernel_rfl) (by kernel_rfl) fun (a b : List Q4.D) h => .run1 (e37b Tbl.none a b) ?_
  refine .bif (fun g => .ret' ?_) fun g => ?_
  · rw [sameQ_len a b (fun e => by rw [e] at g; simp at g)]
  · exact loop37 a b (lenOK_spec h) (by simp at g; omega) a.length 0 (by omega)

/-! few -/
def wi60 (b : Q4.D) : Bool := withinV b 1152921504606846976
def fewV (l : List Q4.D) (st : List Int) : Bool := !(decide (((List.length l : Nat) : Int) > 150) || decide (((List.length st : Nat) : Int) > 150)) && l.all wi60
def FFew := FC2 (.slice Q4) (.slice (.int .i64)) (fun _ _ => true) fun l st => .tv (B (fewV l st))
def wiK (_b : Q4.D) (m : Int) : Bool := limOk m
noncomputable def M36 : Leaf := .loop (cAt Try.f11 [1, 1, 0, 1, 0, 0]) [.inBlock 0, .code (cAt Try.f11 [1, 1, 1])] ⟨[], []⟩
def S36 (s0 : (List (Ty.D Q4))) (s5 : Int) : St := ⟨[(0, .tv (TD.mk (.slice (.cons (.int .i64) (.cons (.int .i64) (.cons (.int .i64) (.cons (.int .i64) (.nil)))))) s0)), (5, .tv (I s5))], []⟩
theorem i36b (G : Tbl) (k26 : (Ty.D Q4) → Int → Bool) (r26 : (Ty.D Q4) → Int → Bool) (s0 : (List (Ty.D Q4))) (s5 : Int) :
    runL (G.add 20 (FC2 Q4 (.int .i64) k26 (fun x0 x1 => .tv (B (r26 x0 x1))))) [(2, [0, 5])] Try.f11 1000 M36.round (S36 s0 s5) =
  bif (decide (s5 < ((List.length s0 : Nat) : Int))) then
    bif (inB s5 (List.length s0)) then
      bif (k26 (List.getD s0 (Int.toNat s5) (0, 0, 0, 0, ())) 1152921504606846976) then
        bif (!(r26 (List.getD s0 (Int.toNat s5) (0, 0, 0, 0, ())) 1152921504606846976)) then
          .ret (.tv (B false))
        else
          .loop M36.body M36.kont (S36 s0 (w (s5 + 1)))
      else
        .fail
    else
      .fail
  else
    .ret (.tv (B true)) := by kernel_rfl
theorem e36b (G : Tbl) (k26 : (Ty.D Q4) → Int → Bool) (r26 : (Ty.D Q4) → Int → Bool) (a0 : (List (Ty.D Q4))) (a1 : (List Int)) :
    runL (G.add 20 (FC2 Q4 (.int .i64) k26 (fun x0 x1 => .tv (B (r26 x0 x1))))) [(2, [0, 5])] Try.f11 1000 (bod Try.f11) (entry [(TD.mk (.slice (.cons (.int .i64) (.cons (.int .i64) (.cons (.int .i64) (.cons (.int .i64) (.nil)))))) a0), (TD.mk (.slice (.int .i64)) a1)]) =
  bif (bif (decide (((List.length a0 : Nat) : Int) > 150)) then true else (decide (((List.length a1 : Nat) : Int) > 150))) then
    .ret (.tv (B false))
  else
    .loop M36.body M36.kont (S36 a0 0) := by kernel_rfl
theorem loop36 (l : List Q4.D) (hl : l.length ≤ lenBound) : ∀ (k : Nat) (i : Nat), i + k = l.length →
    Goes (Tbl.none.add 20 FWithin) T Try.f11.ntmps Try.f11.results.toList (.loop M36.body M36.kont (S36 l i)) (.tv (B ((l.drop i).all wi60)))
  | 0, i, h => by
    refine Goes.lp' (i36b Tbl.none wiK withinV l i) ?_
    rw [decide_eq_false (show ¬ (i : Int) < ((l.length : Nat) : Int) by omega), drop_end (by omega)]
    exact .ret _
  | k + 1, i, h => by
    refine Goes.lp' (i36b Tbl.none wiK withinV l i) ?_
    have hi : (i : Int) < ((l.length : Nat) : Int) := by omega
    rw [decide_eq_true hi, cond_true, toNat_lt (by omega) hi, cond_true, w_step (by omega) hi hl, Int.toNat_natCast, drop_cons l (0, 0, 0, 0, ()) i (by omega), List.all_cons]
    generalize l.getD i (0, 0, 0, 0, ()) = b
    rw [show wiK b 1152921504606846976 = true from rfl, cond_true]
    show Goes _ _ _ _ (bif !(wi60 b) then _ else _) _
    refine .bif (fun g => .ret' ?_) fun g => ?_
    · rw [Bool.not_eq_true'] at g; rw [g]; rfl
    · rw [Bool.not_eq_false'] at g; rw [g, Bool.true_and]
      exact loop36 l hl k (i + 1) (by omega)
theorem has36b : Hs 11 FFew := by
  refine Has.fc2 (fn := Try.f11) (env0.more has26b) (by kernel_rfl) (by kernel_rfl) (by kernel_rfl) (by kernel_rfl) fun (l : List Q4.D) (st : List Int) _ => .run1 (e36b Tbl.none wiK withinV l st) ?_
  rw [bor_bif]
  unfold fewV
  refine .bif (fun g => .ret' (by rw [g]; rfl)) fun g => ?_
  rw [g, Bool.not_false, Bool.true_and]
  have := of_decide_eq_false (Bool.or_eq_false_iff.1 g).1
  exact loop36 l (by unfold lenBound; omega) l.length 0 (by omega)
theorem few_len {l : List Q4.D} {st : List Int} (h : fewV l st = true) : lenOK l.length = true ∧ lenOK st.length = true := by
  unfold fewV at h
  rw [Bool.and_eq_true, Bool.not_eq_true'] at h
  have g := Bool.or_eq_false_iff.1 h.1
  have a := of_decide_eq_false g.1
  have b := of_decide_eq_false g.2
  exact ⟨lenOK_le (by unfold lenBound; omega), lenOK_le (by unfold lenBound; omega)⟩
end Go.Lift.L39
set_option maxRecDepth 100000
set_option linter.unusedVariables false
set_option linter.unusedSimpArgs false
namespace Go.Lift.L39
open Go.Lift Go.Proofs

/-! awake: by running -/
def FAwake := FC0 true (.tv (B true))
theorem e35b : runL (((((Tbl.none.add 8 FLimit).add 12 FSameQ)).add 13 FPlan).add 15 FRepay) [] Try.f10 1000 (bod Try.f10) (entry []) = .ret (.tv (B true)) := by kernel_rfl
theorem has35b : Hs 10 FAwake :=
  Has.fc0 (fn := Try.f10) ((((env0.more has33b).more has37b).more has38b).more has40b) (by kernel_rfl) (by kernel_rfl) (by kernel_rfl) (by kernel_rfl)
    fun _ => .run1 e35b (.ret _)

def kAny (_l : List Q4.D) (_st : List Int) : Bool := true
def sqK (a _b : List Q4.D) : Bool := lenOK a.length
-- f8
theorem e8b (G : Tbl) (k33 : Int → (Ty.D Conf) → Bool) (r33 : Int → (Ty.D Conf) → Int) (k34 : Int → (Ty.D Conf) → Bool) (r34 : Int → (Ty.D Conf) → Int) (k35 : Bool) (r35 : Bool) (a0 : Int) (a1 : Int) (a2 : Int) :
    runL (((G.add 8 (FC2 (.int .i64) Conf k33 (fun x0 x1 => .tv (I (r33 x0 x1))))).add 9 (FC2 (.int .i64) Conf k34 (fun x0 x1 => .tv (I (r34 x0 x1))))).add 10 (FC0  k35 (.tv (B r35)))) [] Try.f3 1000 (bod Try.f3) (entry [(I a0), (I a1), (I a2)]) =
  bif (k33 a0 (0, 0, 0, a1, a2, 0, 0, (0, [], ()), ())) then
    bif (k34 a0 (0, 0, 0, a1, a2, 0, 0, (0, [], ()), ())) then
      bif (k35 || (!(bif (bif (bif ((r33 a0 (0, 0, 0, a1, a2, 0, 0, (0, [], ()), ())) == (r34 a0 (0, 0, 0, a1, a2, 0, 0, (0, [], ()), ()))) then (decide ((r33 a0 (0, 0, 0, a1, a2, 0, 0, (0, [], ()), ())) ≥ 0)) else false) then (decide ((r33 a0 (0, 0, 0, a1, a2, 0, 0, (0, [], ()), ())) ≤ (maxI [a0] 0))) else false) then (bif (bif ((r33 a0 (0, 0, 0, a1, a2, 0, 0, (0, [], ()), ())) == 0) then true else (decide (a2 < 0))) then true else (decide ((w (a0 - (r33 a0 (0, 0, 0, a1, a2, 0, 0, (0, [], ()), ())))) ≥ a2))) else false))) then
        .ret (.tv (B (bif (bif (bif (bif ((r33 a0 (0, 0, 0, a1, a2, 0, 0, (0, [], ()), ())) == (r34 a0 (0, 0, 0, a1, a2, 0, 0, (0, [], ()), ()))) then (decide ((r33 a0 (0, 0, 0, a1, a2, 0, 0, (0, [], ()), ())) ≥ 0)) else false) then (decide ((r33 a0 (0, 0, 0, a1, a2, 0, 0, (0, [], ()), ())) ≤ (maxI [a0] 0))) else false) then (bif (bif ((r33 a0 (0, 0, 0, a1, a2, 0, 0, (0, [], ()), ())) == 0) then true else (decide (a2 < 0))) then true else (decide ((w (a0 - (r33 a0 (0, 0, 0, a1, a2, 0, 0, (0, [], ()), ())))) ≥ a2))) else false) then r35 else false)))
      else
        .fail
    else
      .fail
  else
    .fail := by kernel_rfl

theorem e9b (G : Tbl) (k35 : Bool) (r35 : Bool) (k36 : (List (Ty.D Q4)) → (List Int) → Bool) (r36 : (List (Ty.D Q4)) → (List Int) → Bool) (k37 : (List (Ty.D Q4)) → (List (Ty.D Q4)) → Bool) (r37 : (List (Ty.D Q4)) → (List (Ty.D Q4)) → Bool) (k38 : (List (Ty.D Q4)) → Int → (Ty.D Conf) → Int → (List Int) → Bool) (r38 : (List (Ty.D Q4)) → Int → (Ty.D Conf) → Int → (List Int) → (List (Ty.D Q4))) (k39 : (List (Ty.D Q4)) → Int → (Ty.D Conf) → Int → (List Int) → Bool) (r39 : (List (Ty.D Q4)) → Int → (Ty.D Conf) → Int → (List Int) → (List (Ty.D Q4))) (a0 : (List (Ty.D Q4))) (a1 : (Ty.D (.cons .nil (.cons (.int .i64) (.cons (.int .i64) (.nil)))))) (a2 : (Ty.D Conf)) (a3 : (List Int)) :
    runL (((((G.add 10 (FC0  k35 (.tv (B r35)))).add 11 (FC2 (.slice (.cons (.int .i64) (.cons (.int .i64) (.cons (.int .i64) (.cons (.int .i64) (.nil)))))) (.slice (.int .i64)) k36 (fun x0 x1 => .tv (B (r36 x0 x1))))).add 12 (FC2 (.slice (.cons (.int .i64) (.cons (.int .i64) (.cons (.int .i64) (.cons (.int .i64) (.nil)))))) (.slice (.cons (.int .i64) (.cons (.int .i64) (.cons (.int .i64) (.cons (.int .i64) (.nil)))))) k37 (fun x0 x1 => .tv (B (r37 x0 x1))))).add 13 (FC5 (.slice (.cons (.int .i64) (.cons (.int .i64) (.cons (.int .i64) (.cons (.int .i64) (.nil)))))) (.int .i64) Conf (.int .i64) (.slice (.int .i64)) k38 (fun x0 x1 x2 x3 x4 => .tv (TD.mk (.slice (.cons (.int .i64) (.cons (.int .i64) (.cons (.int .i64) (.cons (.int .i64) (.nil)))))) (r38 x0 x1 x2 x3 x4))))).add 14 (FC5 (.slice (.cons (.int .i64) (.cons (.int .i64) (.cons (.int .i64) (.cons (.int .i64) (.nil)))))) (.int .i64) Conf (.int .i64) (.slice (.int .i64)) k39 (fun x0 x1 x2 x3 x4 => .tv (TD.mk (.slice (.cons (.int .i64) (.cons (.int .i64) (.cons (.int .i64) (.cons (.int .i64) (.nil)))))) (r39 x0 x1 x2 x3 x4))))) [] Try.f4 1000 (bod Try.f4) (entry [(TD.mk (.slice (.cons (.int .i64) (.cons (.int .i64) (.cons (.int .i64) (.cons (.int .i64) (.nil)))))) a0), (TD.mk (.cons .nil (.cons (.int .i64) (.cons (.int .i64) (.nil)))) a1), (TD.mk Conf a2), (TD.mk (.slice (.int .i64)) a3)]) =
  bif (k36 a0 a3) then
    bif (!(r36 a0 a3)) then
      bif k35 then
        .ret (.tv (B r35))
      else
        .fail
    else
      bif (k38 a0 a1.2.1 a2 a1.2.2.1 a3) then
        bif (k39 a0 a1.2.1 a2 a1.2.2.1 a3) then
          bif (k37 (r38 a0 a1.2.1 a2 a1.2.2.1 a3) (r39 a0 a1.2.1 a2 a1.2.2.1 a3)) then
            bif (k35 || (!(r37 (r38 a0 a1.2.1 a2 a1.2.2.1 a3) (r39 a0 a1.2.1 a2 a1.2.2.1 a3)))) then
              .ret (.tv (B (bif (r37 (r38 a0 a1.2.1 a2 a1.2.2.1 a3) (r39 a0 a1.2.1 a2 a1.2.2.1 a3)) then r35 else false)))
            else
              .fail
          else
            .fail
        else
          .fail
      else
        .fail
  else
    .fail := by kernel_rfl


/-! Limit -/
def F8 := FC3 (.int .i64) (.int .i64) (.int .i64) (fun a b c => i64ok a && i64ok b && i64ok c) fun _ _ _ => .tv (B true)
theorem limV_floor {p f : Int} (cap : Int) (h : limV p cap f ≠ 0) : p - max f 0 ≥ limV p cap f ∧ 1 ≤ p := by
  unfold limV at *
  cases hc : decide (p < 1)
  · have hp := of_decide_eq_false hc
    rw [hc] at h
    cases hm : (mdRes p cap 1000000 0).2 != 0
    · rw [hm] at h
      revert h
      show max 0 (min (mdRes p cap 1000000 0).1 (p - max f 0)) ≠ 0 → p - max f 0 ≥ max 0 (min (mdRes p cap 1000000 0).1 (p - max f 0)) ∧ 1 ≤ p
      generalize (mdRes p cap 1000000 0).1 = a at *
      omega
    · rw [hm] at h; exact (h rfl).elim
  · rw [hc] at h; exact (h rfl).elim
theorem limV_max (p cap f : Int) : limV p cap f ≤ max p 0 := by
  by_cases h : limV p cap f = 0
  · omega
  · have := limV_floor cap h; omega
theorem has8b : Hs 3 F8 := by
  refine Has.fc3 (fn := Try.f3) (((env0.more has33b).more has34b).more has35b) (by kernel_rfl) (by kernel_rfl) (by kernel_rfl) (by kernel_rfl)
    fun (p : Int) (cap : Int) (f : Int) h => .run1 (e8b Tbl.none limK limC limK limC true true p cap f) ?_
  have hK : limK p (0, 0, 0, cap, f, 0, 0, (0, [], ()), ()) = true := h
  rw [Bool.and_eq_true, Bool.and_eq_true] at h
  rw [hK, cond_true, cond_true, Bool.true_or, cond_true]
  refine .ret' ?_
  have e : limC p (0, 0, 0, cap, f, 0, 0, (0, [], ()), ()) = limV p cap f := rfl
  have a := limV_le p cap f
  have b := limV_max p cap f
  have c := limV_floor (p := p) (f := f) cap
  have pw := i64ok_spec h.1.1
  rw [e, maxI1, show max (0 : Int) p = max p 0 by omega]
  generalize limV p cap f = x at *
  rw [beq_self_eq_true, cond_true, decide_eq_true (show x ≥ 0 from a.1), cond_true, decide_eq_true (show x ≤ max p 0 from b), cond_true]
  by_cases hx : x = 0
  · rw [hx]; rfl
  · rw [beq_false_of_ne hx, cond_false]
    obtain ⟨c1, c2⟩ := c hx
    rw [show w (p - x) = p - x from wrap_id (by omega) (by omega)]
    by_cases hf : f < 0
    · rw [decide_eq_true hf]; rfl
    · rw [decide_eq_false hf, cond_false, decide_eq_true (show p - x ≥ f by omega)]; rfl

/-! Plan -/
theorem d0_len (d k : Int) (st : List Int) : ∀ (l : List Q4.D) (left : Int) (out : List Q4.D), (distG d k st l left out).1.length ≤ out.length + l.length
  | [], left, out => Nat.le_refl _
  | b :: r, left, out => by
    unfold distG
    cases decide (left > 0)
    · rw [cond_false]; exact Nat.le_add_right _ _
    · rw [cond_true]
      cases decide (ovN b left ≤ 0) || hasI st b.1
      · rw [cond_false]
        have := d0_len d k st r (left - ovN b left) (out ++ [(d, b.1, k, ovN b left, ())])
        rw [List.length_append] at this
        simp only [List.length_cons, List.length_nil] at *
        omega
      · rw [cond_true]
        have := d0_len d k st r left out
        simp only [List.length_cons] at *
        omega
theorem d0_ok {l : List Q4.D} (hl : lenOK l.length = true) (left d k : Int) (st : List Int) : lenOK (d0 l left d k st).length = true := by
  have := d0_len d k st l left []
  have h := lenOK_spec hl
  refine lenOK_le ?_
  unfold d0
  simp only [List.length_nil] at this
  omega
theorem cK {p : Int} {c : Conf.D} (hp : i64ok p = true) (hc : i64ok c.2.2.2.1 = true ∧ i64ok c.2.2.2.2.1 = true) : limK p c = true := by
  unfold limK; rw [hp, hc.1, hc.2]; rfl
def confOk (c : Conf.D) : Bool := i64ok c.2.2.2.1 && i64ok c.2.2.2.2.1
def A2 : Ty := .cons .nil (.cons (.int .i64) (.cons (.int .i64) .nil))
def F9 := FC4 (.slice Q4) A2 Conf (.slice (.int .i64)) (fun _ y c _ => i64ok y.2.1 && confOk c) fun _ _ _ _ => .tv (B true)
theorem has9b : Hs 4 F9 := by
  refine Has.fc4 (fn := Try.f4) (((((env0.more has35b).more has36b).more has37b).more has38b.cool5).more has39b.cool5) (by kernel_rfl) (by kernel_rfl) (by kernel_rfl) (by kernel_rfl)
    fun (l : List Q4.D) (y : A2.D) (c : Conf.D) (st : List Int) h => .run1 (e9b Tbl.none true true kAny fewV sqK sameQ planK planV planK planV l y c st) ?_
  rw [Bool.and_eq_true] at h
  obtain ⟨h1, h2⟩ := h
  unfold confOk at h2
  rw [Bool.and_eq_true] at h2
  rw [show kAny l st = true from rfl, cond_true]
  refine .bif (fun g => .ret _) fun g => ?_
  rw [Bool.not_eq_false'] at g
  obtain ⟨l1, l2⟩ := few_len g
  have hk : planK l y.2.1 c y.2.2.1 st = true := by
    unfold planK; rw [l1, l2, cK h1 h2]; rfl
  rw [hk, cond_true, cond_true, show sqK (planV l y.2.1 c y.2.2.1 st) (planV l y.2.1 c y.2.2.1 st) = true from d0_ok l1 _ _ _ _, cond_true, Bool.true_or, cond_true, sameQ_self]
  exact .ret _

/-! Repay -/
noncomputable def M10 : Leaf := .loop (cAt Try.f5 [1, 1, 1, 1, 1, 1, 0, 1, 0, 0]) [.inBlock 0, .code (cAt Try.f5 [1, 1, 1, 1, 1, 1, 1])] ⟨[], []⟩
def S10 (s8 : Int) (s11 : Int) (s12 : Int) (b7 : (List (Ty.D Q4))) : St := ⟨[(7, .ref 7), (8, .tv (I s8)), (11, .tv (I s11)), (12, .tv (I s12))], [(7, .vec Q4 b7)]⟩
theorem i10b (G : Tbl) (k35 : Bool) (r35 : Bool) (k36 : (List (Ty.D Q4)) → (List Int) → Bool) (r36 : (List (Ty.D Q4)) → (List Int) → Bool) (k37 : (List (Ty.D Q4)) → (List (Ty.D Q4)) → Bool) (r37 : (List (Ty.D Q4)) → (List (Ty.D Q4)) → Bool) (k40 : (List (Ty.D Q4)) → Int → Int → Bool) (r40_0 : (List (Ty.D Q4)) → Int → Int → (List (Ty.D Q4))) (r40_1 : (List (Ty.D Q4)) → Int → Int → Int) (k41 : (List (Ty.D Q4)) → Int → Int → Bool) (r41_0 : (List (Ty.D Q4)) → Int → Int → (List (Ty.D Q4))) (r41_1 : (List (Ty.D Q4)) → Int → Int → Int) (s8 : Int) (s11 : Int) (s12 : Int) (b7 : (List (Ty.D Q4))) :
    runL (((((G.add 10 (FC0  k35 (.tv (B r35)))).add 11 (FC2 (.slice (.cons (.int .i64) (.cons (.int .i64) (.cons (.int .i64) (.cons (.int .i64) (.nil)))))) (.slice (.int .i64)) k36 (fun x0 x1 => .tv (B (r36 x0 x1))))).add 12 (FC2 (.slice (.cons (.int .i64) (.cons (.int .i64) (.cons (.int .i64) (.cons (.int .i64) (.nil)))))) (.slice (.cons (.int .i64) (.cons (.int .i64) (.cons (.int .i64) (.cons (.int .i64) (.nil)))))) k37 (fun x0 x1 => .tv (B (r37 x0 x1))))).add 15 (FC3 (.slice (.cons (.int .i64) (.cons (.int .i64) (.cons (.int .i64) (.cons (.int .i64) (.nil)))))) (.int .i64) (.int .i64) k40 (fun x0 x1 x2 => .tup [.own Q4 (r40_0 x0 x1 x2), .tv (I (r40_1 x0 x1 x2))]))).add 16 (FC3 (.slice (.cons (.int .i64) (.cons (.int .i64) (.cons (.int .i64) (.cons (.int .i64) (.nil)))))) (.int .i64) (.int .i64) k41 (fun x0 x1 x2 => .tup [.own Q4 (r41_0 x0 x1 x2), .tv (I (r41_1 x0 x1 x2))]))) [(2, [7, 8, 11, 12])] Try.f5 1000 M10.round (S10 s8 s11 s12 b7) =
  bif (decide (s12 < ((List.length b7 : Nat) : Int))) then
    bif (inB s12 (List.length b7)) then
      .loop M10.body M10.kont (S10 s8 (w (s11 - (((List.getD b7 (Int.toNat s12) (0, 0, 0, 0, ()))).2.2.2.1))) (w (s12 + 1)) b7)
    else
      .fail
  else
    bif (k35 || (!(s11 == s8))) then
      .ret (.tv (B (bif (s11 == s8) then r35 else false)))
    else
      .fail := by kernel_rfl
theorem e10b (G : Tbl) (k35 : Bool) (r35 : Bool) (k36 : (List (Ty.D Q4)) → (List Int) → Bool) (r36 : (List (Ty.D Q4)) → (List Int) → Bool) (k37 : (List (Ty.D Q4)) → (List (Ty.D Q4)) → Bool) (r37 : (List (Ty.D Q4)) → (List (Ty.D Q4)) → Bool) (k40 : (List (Ty.D Q4)) → Int → Int → Bool) (r40_0 : (List (Ty.D Q4)) → Int → Int → (List (Ty.D Q4))) (r40_1 : (List (Ty.D Q4)) → Int → Int → Int) (k41 : (List (Ty.D Q4)) → Int → Int → Bool) (r41_0 : (List (Ty.D Q4)) → Int → Int → (List (Ty.D Q4))) (r41_1 : (List (Ty.D Q4)) → Int → Int → Int) (a0 : (List (Ty.D Q4))) (a1 : Int) (a2 : Int) :
    runL (((((G.add 10 (FC0  k35 (.tv (B r35)))).add 11 (FC2 (.slice (.cons (.int .i64) (.cons (.int .i64) (.cons (.int .i64) (.cons (.int .i64) (.nil)))))) (.slice (.int .i64)) k36 (fun x0 x1 => .tv (B (r36 x0 x1))))).add 12 (FC2 (.slice (.cons (.int .i64) (.cons (.int .i64) (.cons (.int .i64) (.cons (.int .i64) (.nil)))))) (.slice (.cons (.int .i64) (.cons (.int .i64) (.cons (.int .i64) (.cons (.int .i64) (.nil)))))) k37 (fun x0 x1 => .tv (B (r37 x0 x1))))).add 15 (FC3 (.slice (.cons (.int .i64) (.cons (.int .i64) (.cons (.int .i64) (.cons (.int .i64) (.nil)))))) (.int .i64) (.int .i64) k40 (fun x0 x1 x2 => .tup [.own Q4 (r40_0 x0 x1 x2), .tv (I (r40_1 x0 x1 x2))]))).add 16 (FC3 (.slice (.cons (.int .i64) (.cons (.int .i64) (.cons (.int .i64) (.cons (.int .i64) (.nil)))))) (.int .i64) (.int .i64) k41 (fun x0 x1 x2 => .tup [.own Q4 (r41_0 x0 x1 x2), .tv (I (r41_1 x0 x1 x2))]))) [(2, [7, 8, 11, 12])] Try.f5 1000 (bod Try.f5) (entry [(TD.mk (.slice (.cons (.int .i64) (.cons (.int .i64) (.cons (.int .i64) (.cons (.int .i64) (.nil)))))) a0), (I a1), (I a2)]) =
  bif (k36 a0 []) then
    bif (!(r36 a0 [])) then
      bif k35 then
        .ret (.tv (B r35))
      else
        .fail
    else
      bif (k40 a0 a1 a2) then
        bif (k41 a0 a1 a2) then
          bif (k37 (r40_0 a0 a1 a2) (r41_0 a0 a1 a2)) then
            bif (bif (!(r37 (r40_0 a0 a1 a2) (r41_0 a0 a1 a2))) then true else ((r40_1 a0 a1 a2) != (r41_1 a0 a1 a2))) then
              .ret (.tv (B false))
            else
              .loop M10.body M10.kont (S10 (r40_1 a0 a1 a2) (maxI [a1] 0) 0 (r40_0 a0 a1 a2))
          else
            .fail
        else
          .fail
      else
        .fail
  else
    .fail := by kernel_rfl


def subW : List Q4.D → Int → Int
  | [], a => a
  | x :: r, a => subW r (w (a - x.2.2.2.1))
theorem subW_one (x : Q4.D) : ∀ (l : List Q4.D) (a : Int), subW (l ++ [x]) a = w (subW l a - x.2.2.2.1)
  | [], a => rfl
  | y :: r, a => subW_one x r _
theorem distG_sub (d k : Int) (st : List Int) (L : Int) : ∀ (l : List Q4.D) (left : Int) (out : List Q4.D), i64ok left = true → subW out L = left → subW (distG d k st l left out).1 L = (distG d k st l left out).2
  | [], left, out, _, h => h
  | b :: r, left, out, hl, h => by
    unfold distG
    have hw := i64ok_spec hl
    cases hg : decide (left > 0)
    · exact h
    · rw [cond_true]
      have g := of_decide_eq_true hg
      cases hs : decide (ovN b left ≤ 0) || hasI st b.1
      · rw [cond_false]
        have o := of_decide_eq_false (Bool.or_eq_false_iff.1 hs).1
        have m : ovN b left ≤ left := by unfold ovN; omega
        generalize ovN b left = n at *
        refine distG_sub d k st L r _ _ (i64of (by omega)) ?_
        rw [subW_one, h]
        show w (left - n) = left - n
        exact wrap_id (by omega) (by omega)
      · rw [cond_true]
        exact distG_sub d k st L r left out hl h
def F10 := FC3 (.slice Q4) (.int .i64) (.int .i64) (fun _ c _ => i64ok c) fun _ _ _ => .tv (B true)
noncomputable def G10 : Tbl := ((((Tbl.none.add 10 FAwake).add 11 FFew).add 12 FSameQ).add 15 FRepay).add 16 FRepay
theorem loop10 (s : Int) (l : List Q4.D) (hl : l.length ≤ lenBound) : ∀ (k : Nat) (i : Nat) (a : Int), i + k = l.length →
    Goes G10 T Try.f5.ntmps Try.f5.results.toList (.loop M10.body M10.kont (S10 s a i l)) (.tv (B (subW (l.drop i) a == s)))
  | 0, i, a, h => by
    refine Goes.lp' (i10b Tbl.none true true kAny fewV sqK sameQ rpK rp0 rp1 rpK rp0 rp1 s a i l) ?_
    rw [decide_eq_false (show ¬ (i : Int) < ((l.length : Nat) : Int) by omega), drop_end (by omega), cond_false, Bool.true_or, cond_true]
    refine .ret' ?_
    show _ = SV.tv (B (a == s))
    cases a == s <;> rfl
  | k + 1, i, a, h => by
    have hi : (i : Int) < ((l.length : Nat) : Int) := by omega
    have := loop10 s l hl k (i + 1) (w (a - (l.getD i (0, 0, 0, 0, ())).2.2.2.1)) (by omega)
    refine Goes.lp' (i10b Tbl.none true true kAny fewV sqK sameQ rpK rp0 rp1 rpK rp0 rp1 s a i l) ?_
    rw [decide_eq_true hi, cond_true, toNat_lt (by omega) hi, cond_true, w_step (by omega) hi hl, Int.toNat_natCast, drop_cons l (0, 0, 0, 0, ()) i (by omega)]
    exact this
theorem has10b : Hs 5 F10 := by
  refine Has.fc3 (fn := Try.f5) (((((env0.more has35b).more has36b).more has37b).more has40b).more has41b) (by kernel_rfl) (by kernel_rfl) (by kernel_rfl) (by kernel_rfl)
    fun (l : List Q4.D) (c : Int) (d : Int) h => .run1 (e10b Tbl.none true true kAny fewV sqK sameQ rpK rp0 rp1 rpK rp0 rp1 l c d) ?_
  have h : i64ok c = true := h
  rw [show kAny l [] = true from rfl, cond_true]
  refine .bif (fun g => .ret _) fun g => ?_
  rw [Bool.not_eq_false'] at g
  obtain ⟨l1, l2⟩ := few_len g
  have hk : rpK l c d = true := by unfold rpK; rw [l1, h]; rfl
  have ok : lenOK (rp0 l c d).length = true := d0_ok l1 _ _ _ _
  rw [hk, cond_true, cond_true, show sqK (rp0 l c d) (rp0 l c d) = true from ok, cond_true, sameQ_self, show (rp1 l c d != rp1 l c d) = false from by simp]
  have key : subW (rp0 l c d) (max c 0) = rp1 l c d := by
    have hc := i64ok_spec h
    exact distG_sub d 3 [] (max c 0) l (max c 0) [] (i64of (by omega)) rfl
  have lp := loop10 (rp1 l c d) (rp0 l c d) (lenOK_spec ok) (rp0 l c d).length 0 (max c 0) (by omega)
  rw [List.drop_zero, key, beq_self_eq_true] at lp
  rw [maxI1, show max (0 : Int) c = max c 0 by omega]
  show Goes G10 _ _ _ (.loop M10.body M10.kont (S10 (rp1 l c d) (max c 0) ((0 : Nat) : Int) (rp0 l c d))) _
  exact lp
end Go.Lift.L39
set_option maxRecDepth 100000
set_option linter.unusedVariables false
set_option linter.unusedSimpArgs false
namespace Go.Lift.L39
open Go.Lift Go.Proofs

theorem wfI {n : Int} (h : Wf (.int .i64) n) : i64ok n = true := by
  have h' : (decide (IntKind.min .i64 ≤ n) && decide (n ≤ IntKind.max .i64)) = true := h
  exact h'
theorem band {a b : Bool} (h1 : a = true) (h2 : b = true) : (a && b) = true := by rw [h1, h2]; rfl
theorem someK {k : Bool} {r : SV} (h : k = true) : some (k, r) = some (true, r) := by rw [h]
theorem wfConf {c : Conf.D} (h : Wf Conf c) : confOk c = true := band (wfI h.2.2.2.1) (wfI h.2.2.2.2.1)
theorem wfA2 {y : A2.D} (h : Wf A2 y) : i64ok y.2.1 = true ∧ i64ok y.2.2.1 = true := ⟨wfI h.2.1, wfI h.2.2.1⟩
end Go.Lift.L39
set_option maxRecDepth 100000
set_option linter.unusedVariables false
set_option linter.unusedSimpArgs false
namespace Go.Lift.L39
open Go.Lift Go.Proofs


/-! what a distribution posts -/
theorem bF (a b : Bool) (h : a = false) : (a || b) = b := by rw [h]; rfl
theorem or_true (b : Bool) : (true || b) = true := rfl
abbrev cen (x : Q4.D) : Int := x.2.2.2.1
def Fits (d k : Int) (st : List Int) : List Q4.D → List Q4.D → Int → Prop
  | [], _, _ => True
  | x :: a, l, left => ∃ pre b post, l = pre ++ b :: post ∧ b.1 = x.2.1 ∧ cen x = ovN b left ∧ 1 ≤ cen x ∧ x.1 = d ∧ x.2.2.1 = k ∧ hasI st b.1 = false ∧ Fits d k st a post (left - cen x)
theorem distG_acc (d k : Int) (st : List Int) : ∀ (l : List Q4.D) (left : Int) (out : List Q4.D), distG d k st l left out = (out ++ (distG d k st l left []).1, (distG d k st l left []).2)
  | [], left, out => by unfold distG; rw [List.append_nil]
  | b :: r, left, out => by
    unfold distG
    cases decide (left > 0)
    · rw [cond_false, cond_false, List.append_nil]
    · rw [cond_true, cond_true]
      cases decide (ovN b left ≤ 0) || hasI st b.1
      · rw [cond_false, cond_false, distG_acc d k st r _ (out ++ _), distG_acc d k st r _ ([] ++ _), List.append_assoc]; rfl
      · rw [cond_true, cond_true, distG_acc d k st r left out]
theorem fits_more {d k : Int} {st : List Int} {a l : List Q4.D} {left : Int} (b : Q4.D) (h : Fits d k st a l left) : Fits d k st a (b :: l) left := by
  cases a with
  | nil => trivial
  | cons x a => obtain ⟨pre, c, post, h1, h2⟩ := h; exact ⟨b :: pre, c, post, by rw [h1]; rfl, h2⟩
theorem fits_dist (d k : Int) (st : List Int) : ∀ (l : List Q4.D) (left : Int), Fits d k st (distG d k st l left []).1 l left
  | [], left => trivial
  | b :: r, left => by
    unfold distG
    cases decide (left > 0)
    · trivial
    · rw [cond_true]
      cases h : decide (ovN b left ≤ 0) || hasI st b.1
      · rw [cond_false, distG_acc]
        have g := Bool.or_eq_false_iff.1 h
        have g1 := of_decide_eq_false g.1
        exact ⟨[], b, r, rfl, rfl, rfl, by show 1 ≤ ovN b left; omega, rfl, rfl, g.2, fits_dist d k st r _⟩
      · rw [cond_true]; exact fits_more b (fits_dist d k st r left)
theorem ov_le (b : Q4.D) (left : Int) : ovN b left ≤ left ∧ ovN b left ≤ overV b := by unfold ovN; omega
noncomputable def M16 : Leaf := .loop (cAt Try.f6 [1, 1, 1, 1, 1, 0, 1, 0, 0]) [.inBlock 0, .code (cAt Try.f6 [1, 1, 1, 1, 1, 1])] ⟨[], []⟩
def S16 (s0 : (List (Ty.D Q4))) (s3 : (List Int)) (s10 : Int) (s11 : Int) (s12 : Int) (b9 : (List (Ty.D Q4))) : St := ⟨[(0, .tv (TD.mk (.slice (.cons (.int .i64) (.cons (.int .i64) (.cons (.int .i64) (.cons (.int .i64) (.nil)))))) s0)), (3, .tv (TD.mk (.slice (.int .i64)) s3)), (9, .ref 9), (10, .tv (I s10)), (11, .tv (I s11)), (12, .tv (I s12))], [(9, .vec Q4 b9)]⟩
noncomputable def M16a : Leaf := .loop (cAt Try.f6 [1, 1, 1, 1, 1, 0, 1, 0, 0, 1, 0, 0, 1, 1, 0, 1, 0, 0]) [.inBlock 2, .code (cAt Try.f6 [1, 1, 1, 1, 1, 0, 1, 0, 0, 1, 0, 0, 1, 1, 1]), .inBlock 1, .code (cAt Try.f6 [1, 1, 1, 1, 1, 0, 1, 0, 0, 1, 1]), .inLoop (cAt Try.f6 [1, 1, 1, 1, 1, 0, 1, 0, 0]), .inBlock 0, .code (cAt Try.f6 [1, 1, 1, 1, 1, 1])] ⟨[], []⟩
def S16a (s0 : (List (Ty.D Q4))) (s3 : (List Int)) (s10 : Int) (s11 : Int) (s12 : Int) (s13 : Int) (b9 : (List (Ty.D Q4))) : St := ⟨[(0, .tv (TD.mk (.slice (.cons (.int .i64) (.cons (.int .i64) (.cons (.int .i64) (.cons (.int .i64) (.nil)))))) s0)), (3, .tv (TD.mk (.slice (.int .i64)) s3)), (9, .ref 9), (10, .tv (I s10)), (11, .tv (I s11)), (12, .tv (I s12)), (13, .tv (I s13))], [(9, .vec Q4 b9)]⟩
noncomputable def M16b : Leaf := .loop (cAt Try.f6 [1, 1, 1, 1, 1, 0, 1, 0, 0, 1, 0, 0, 1, 1, 1, 0, 0, 0]) [.inBlock 4, .code (cAt Try.f6 [1, 1, 1, 1, 1, 0, 1, 0, 0, 1, 0, 0, 1, 1, 1, 1]), .inBlock 1, .code (cAt Try.f6 [1, 1, 1, 1, 1, 0, 1, 0, 0, 1, 1]), .inLoop (cAt Try.f6 [1, 1, 1, 1, 1, 0, 1, 0, 0]), .inBlock 0, .code (cAt Try.f6 [1, 1, 1, 1, 1, 1])] ⟨[], []⟩
def S16b (s0 : (List (Ty.D Q4))) (s3 : (List Int)) (s10 : Int) (s11 : Int) (s12 : Int) (b9 : (List (Ty.D Q4))) : St := ⟨[(0, .tv (TD.mk (.slice (.cons (.int .i64) (.cons (.int .i64) (.cons (.int .i64) (.cons (.int .i64) (.nil)))))) s0)), (3, .tv (TD.mk (.slice (.int .i64)) s3)), (9, .ref 9), (10, .tv (I s10)), (11, .tv (I s11)), (12, .tv (I s12))], [(9, .vec Q4 b9)]⟩
theorem i16 (G : Tbl) (k42 : (Ty.D Q4) → Bool) (r42 : (Ty.D Q4) → Int) (k45 : Int → (Ty.D Conf) → Bool) (r45 : Int → (Ty.D Conf) → Int) (k47 : Bool) (r47 : Bool) (k48 : (List (Ty.D Q4)) → (List Int) → Bool) (r48 : (List (Ty.D Q4)) → (List Int) → Bool) (k50 : (List (Ty.D Q4)) → Int → (Ty.D Conf) → Int → (List Int) → Bool) (r50 : (List (Ty.D Q4)) → Int → (Ty.D Conf) → Int → (List Int) → (List (Ty.D Q4))) (s0 : (List (Ty.D Q4))) (s3 : (List Int)) (s10 : Int) (s11 : Int) (s12 : Int) (b9 : (List (Ty.D Q4))) :
    runL (((((G.add 17 (FC1 Q4 k42 (fun x0 => .tv (I (r42 x0))))).add 8 (FC2 (.int .i64) Conf k45 (fun x0 x1 => .tv (I (r45 x0 x1))))).add 10 (FC0  k47 (.tv (B r47)))).add 11 (FC2 (.slice (.cons (.int .i64) (.cons (.int .i64) (.cons (.int .i64) (.cons (.int .i64) (.nil)))))) (.slice (.int .i64)) k48 (fun x0 x1 => .tv (B (r48 x0 x1))))).add 13 (FC5 (.slice (.cons (.int .i64) (.cons (.int .i64) (.cons (.int .i64) (.cons (.int .i64) (.nil)))))) (.int .i64) Conf (.int .i64) (.slice (.int .i64)) k50 (fun x0 x1 x2 x3 x4 => .own Q4 (r50 x0 x1 x2 x3 x4)))) [(450, [0, 3, 9, 10, 11, 12]), (839, [0, 3, 9, 10, 11, 12, 13]), (1095, [0, 3, 9, 10, 11, 12])] Try.f6 1000 M16.round (S16 s0 s3 s10 s11 s12 b9) =
  bif (decide (s12 < ((List.length b9 : Nat) : Int))) then
    bif (inB s12 (List.length b9)) then
      bif ((inB s12 (List.length b9)) || (!(!(decide (((List.getD b9 (Int.toNat s12) (0, 0, 0, 0, ()))).2.2.2.1 < 1))))) then
        bif ((inB s12 (List.length b9)) || (!(!(bif (decide (((List.getD b9 (Int.toNat s12) (0, 0, 0, 0, ()))).2.2.2.1 < 1)) then true else (decide (((List.getD b9 (Int.toNat s12) (0, 0, 0, 0, ()))).2.2.2.1 > s10)))))) then
          bif ((inB s12 (List.length b9)) || (!(!(bif (bif (decide (((List.getD b9 (Int.toNat s12) (0, 0, 0, 0, ()))).2.2.2.1 < 1)) then true else (decide (((List.getD b9 (Int.toNat s12) (0, 0, 0, 0, ()))).2.2.2.1 > s10))) then true else ((((List.getD b9 (Int.toNat s12) (0, 0, 0, 0, ()))).2.2.1) != 2))))) then
            bif (bif (bif (bif (decide (((List.getD b9 (Int.toNat s12) (0, 0, 0, 0, ()))).2.2.2.1 < 1)) then true else (decide (((List.getD b9 (Int.toNat s12) (0, 0, 0, 0, ()))).2.2.2.1 > s10))) then true else ((((List.getD b9 (Int.toNat s12) (0, 0, 0, 0, ()))).2.2.1) != 2)) then true else ((((List.getD b9 (Int.toNat s12) (0, 0, 0, 0, ()))).1) != 5)) then
              .ret (.tv (B false))
            else
              bif (inB s12 (List.length b9)) then
                .loop M16a.body M16a.kont (S16a s0 s3 (w (s10 - (((List.getD b9 (Int.toNat s12) (0, 0, 0, 0, ()))).2.2.2.1))) s11 s12 0 b9)
              else
                .fail
          else
            .fail
        else
          .fail
      else
        .fail
    else
      .fail
  else
    bif k47 then
      .ret (.tv (B r47))
    else
      .fail := by kernel_rfl
theorem i16a (G : Tbl) (k42 : (Ty.D Q4) → Bool) (r42 : (Ty.D Q4) → Int) (k45 : Int → (Ty.D Conf) → Bool) (r45 : Int → (Ty.D Conf) → Int) (k47 : Bool) (r47 : Bool) (k48 : (List (Ty.D Q4)) → (List Int) → Bool) (r48 : (List (Ty.D Q4)) → (List Int) → Bool) (k50 : (List (Ty.D Q4)) → Int → (Ty.D Conf) → Int → (List Int) → Bool) (r50 : (List (Ty.D Q4)) → Int → (Ty.D Conf) → Int → (List Int) → (List (Ty.D Q4))) (s0 : (List (Ty.D Q4))) (s3 : (List Int)) (s10 : Int) (s11 : Int) (s12 : Int) (s13 : Int) (b9 : (List (Ty.D Q4))) :
    runL (((((G.add 17 (FC1 Q4 k42 (fun x0 => .tv (I (r42 x0))))).add 8 (FC2 (.int .i64) Conf k45 (fun x0 x1 => .tv (I (r45 x0 x1))))).add 10 (FC0  k47 (.tv (B r47)))).add 11 (FC2 (.slice (.cons (.int .i64) (.cons (.int .i64) (.cons (.int .i64) (.cons (.int .i64) (.nil)))))) (.slice (.int .i64)) k48 (fun x0 x1 => .tv (B (r48 x0 x1))))).add 13 (FC5 (.slice (.cons (.int .i64) (.cons (.int .i64) (.cons (.int .i64) (.cons (.int .i64) (.nil)))))) (.int .i64) Conf (.int .i64) (.slice (.int .i64)) k50 (fun x0 x1 x2 x3 x4 => .own Q4 (r50 x0 x1 x2 x3 x4)))) [(450, [0, 3, 9, 10, 11, 12]), (839, [0, 3, 9, 10, 11, 12, 13]), (1095, [0, 3, 9, 10, 11, 12])] Try.f6 1000 M16a.round (S16a s0 s3 s10 s11 s12 s13 b9) =
  bif (decide (s13 < ((List.length s3 : Nat) : Int))) then
    bif (inB s13 (List.length s3)) then
      bif (inB s12 (List.length b9)) then
        bif ((List.getD s3 (Int.toNat s13) 0) == (((List.getD b9 (Int.toNat s12) (0, 0, 0, 0, ()))).2.1)) then
          .ret (.tv (B false))
        else
          .loop M16a.body M16a.kont (S16a s0 s3 s10 s11 s12 (w (s13 + 1)) b9)
      else
        .fail
    else
      .fail
  else
    .loop M16b.body M16b.kont (S16b s0 s3 s10 s11 s12 b9) := by kernel_rfl
theorem i16b (G : Tbl) (k42 : (Ty.D Q4) → Bool) (r42 : (Ty.D Q4) → Int) (k45 : Int → (Ty.D Conf) → Bool) (r45 : Int → (Ty.D Conf) → Int) (k47 : Bool) (r47 : Bool) (k48 : (List (Ty.D Q4)) → (List Int) → Bool) (r48 : (List (Ty.D Q4)) → (List Int) → Bool) (k50 : (List (Ty.D Q4)) → Int → (Ty.D Conf) → Int → (List Int) → Bool) (r50 : (List (Ty.D Q4)) → Int → (Ty.D Conf) → Int → (List Int) → (List (Ty.D Q4))) (s0 : (List (Ty.D Q4))) (s3 : (List Int)) (s10 : Int) (s11 : Int) (s12 : Int) (b9 : (List (Ty.D Q4))) :
    runL (((((G.add 17 (FC1 Q4 k42 (fun x0 => .tv (I (r42 x0))))).add 8 (FC2 (.int .i64) Conf k45 (fun x0 x1 => .tv (I (r45 x0 x1))))).add 10 (FC0  k47 (.tv (B r47)))).add 11 (FC2 (.slice (.cons (.int .i64) (.cons (.int .i64) (.cons (.int .i64) (.cons (.int .i64) (.nil)))))) (.slice (.int .i64)) k48 (fun x0 x1 => .tv (B (r48 x0 x1))))).add 13 (FC5 (.slice (.cons (.int .i64) (.cons (.int .i64) (.cons (.int .i64) (.cons (.int .i64) (.nil)))))) (.int .i64) Conf (.int .i64) (.slice (.int .i64)) k50 (fun x0 x1 x2 x3 x4 => .own Q4 (r50 x0 x1 x2 x3 x4)))) [(450, [0, 3, 9, 10, 11, 12]), (839, [0, 3, 9, 10, 11, 12, 13]), (1095, [0, 3, 9, 10, 11, 12])] Try.f6 1000 M16b.round (S16b s0 s3 s10 s11 s12 b9) =
  bif ((inB s11 (List.length s0)) || (!(decide (s11 < ((List.length s0 : Nat) : Int))))) then
    bif ((inB s12 (List.length b9)) || (!(decide (s11 < ((List.length s0 : Nat) : Int))))) then
      bif ((inB s11 (List.length s0)) || (!((decide (s11 < ((List.length s0 : Nat) : Int))) && (!((((List.getD s0 (Int.toNat s11) (0, 0, 0, 0, ()))).1) != (((List.getD b9 (Int.toNat s12) (0, 0, 0, 0, ()))).2.1)))))) then
        bif ((k42 (List.getD s0 (Int.toNat s11) (0, 0, 0, 0, ()))) || (!((decide (s11 < ((List.length s0 : Nat) : Int))) && (!((((List.getD s0 (Int.toNat s11) (0, 0, 0, 0, ()))).1) != (((List.getD b9 (Int.toNat s12) (0, 0, 0, 0, ()))).2.1)))))) then
          bif ((inB s12 (List.length b9)) || (!((decide (s11 < ((List.length s0 : Nat) : Int))) && (!((((List.getD s0 (Int.toNat s11) (0, 0, 0, 0, ()))).1) != (((List.getD b9 (Int.toNat s12) (0, 0, 0, 0, ()))).2.1)))))) then
            bif (bif (decide (s11 < ((List.length s0 : Nat) : Int))) then (bif ((((List.getD s0 (Int.toNat s11) (0, 0, 0, 0, ()))).1) != (((List.getD b9 (Int.toNat s12) (0, 0, 0, 0, ()))).2.1)) then true else (decide ((r42 (List.getD s0 (Int.toNat s11) (0, 0, 0, 0, ()))) < ((List.getD b9 (Int.toNat s12) (0, 0, 0, 0, ()))).2.2.2.1))) else false) then
              .loop M16b.body M16b.kont (S16b s0 s3 s10 (w (s11 + 1)) s12 b9)
            else
              bif (s11 == ((List.length s0 : Nat) : Int)) then
                .ret (.tv (B false))
              else
                .loop M16.body M16.kont (S16 s0 s3 s10 (w (s11 + 1)) (w (s12 + 1)) b9)
          else
            .fail
        else
          .fail
      else
        .fail
    else
      .fail
  else
    .fail := by kernel_rfl
theorem e16 (G : Tbl) (k42 : (Ty.D Q4) → Bool) (r42 : (Ty.D Q4) → Int) (k45 : Int → (Ty.D Conf) → Bool) (r45 : Int → (Ty.D Conf) → Int) (k47 : Bool) (r47 : Bool) (k48 : (List (Ty.D Q4)) → (List Int) → Bool) (r48 : (List (Ty.D Q4)) → (List Int) → Bool) (k50 : (List (Ty.D Q4)) → Int → (Ty.D Conf) → Int → (List Int) → Bool) (r50 : (List (Ty.D Q4)) → Int → (Ty.D Conf) → Int → (List Int) → (List (Ty.D Q4))) (a0 : (List (Ty.D Q4))) (a1 : Int) (a2 : (Ty.D Conf)) (a3 : (List Int)) :
    runL (((((G.add 17 (FC1 Q4 k42 (fun x0 => .tv (I (r42 x0))))).add 8 (FC2 (.int .i64) Conf k45 (fun x0 x1 => .tv (I (r45 x0 x1))))).add 10 (FC0  k47 (.tv (B r47)))).add 11 (FC2 (.slice (.cons (.int .i64) (.cons (.int .i64) (.cons (.int .i64) (.cons (.int .i64) (.nil)))))) (.slice (.int .i64)) k48 (fun x0 x1 => .tv (B (r48 x0 x1))))).add 13 (FC5 (.slice (.cons (.int .i64) (.cons (.int .i64) (.cons (.int .i64) (.cons (.int .i64) (.nil)))))) (.int .i64) Conf (.int .i64) (.slice (.int .i64)) k50 (fun x0 x1 x2 x3 x4 => .own Q4 (r50 x0 x1 x2 x3 x4)))) [(450, [0, 3, 9, 10, 11, 12]), (839, [0, 3, 9, 10, 11, 12, 13]), (1095, [0, 3, 9, 10, 11, 12])] Try.f6 1000 (bod Try.f6) (entry [(TD.mk (.slice (.cons (.int .i64) (.cons (.int .i64) (.cons (.int .i64) (.cons (.int .i64) (.nil)))))) a0), (I a1), (TD.mk Conf a2), (TD.mk (.slice (.int .i64)) a3)]) =
  bif (k48 a0 a3) then
    bif (!(r48 a0 a3)) then
      bif k47 then
        .ret (.tv (B r47))
      else
        .fail
    else
      bif (k50 a0 a1 a2 5 a3) then
        bif (k45 a1 a2) then
          .loop M16.body M16.kont (S16 a0 a3 (r45 a1 a2) 0 0 (r50 a0 a1 a2 5 a3))
        else
          .fail
      else
        .fail
  else
    .fail := by kernel_rfl
def F16 := FC4 (.slice Q4) (.int .i64) Conf (.slice (.int .i64)) (fun _ p c _ => i64ok p && confOk c) fun _ _ _ _ => .tv (B true)
noncomputable def G16 : Tbl := (((((Tbl.none.add 17 FOver).add 8 FLimit).add 10 FAwake).add 11 FFew).add 13 FPlan)
abbrev Go16 (L : Leaf) : Prop := Goes G16 T Try.f6.ntmps Try.f6.results.toList L (.tv (B true))
theorem in16a (l : List Q4.D) (st : List Int) (hs : st.length ≤ lenBound) (left : Int) (at_ i : Nat) (b9 : List Q4.D) (hi : i < b9.length) (x : Q4.D) (hx : b9.getD i (0, 0, 0, 0, ()) = x) (hno : hasI st x.2.1 = false)
    (h : Go16 (.loop M16b.body M16b.kont (S16b l st left at_ i b9))) : ∀ (n j : Nat), j + n = st.length → Go16 (.loop M16a.body M16a.kont (S16a l st left at_ i j b9))
  | 0, j, hj => by
    refine Goes.lp' (i16a Tbl.none kT overV limK limC true true kAny fewV planK planV l st left at_ i j b9) ?_
    rw [decide_eq_false (show ¬ (j : Int) < ((st.length : Nat) : Int) by omega), cond_false]
    exact h
  | n + 1, j, hj => by
    refine Goes.lp' (i16a Tbl.none kT overV limK limC true true kAny fewV planK planV l st left at_ i j b9) ?_
    have hjl : (j : Int) < ((st.length : Nat) : Int) := by omega
    have hil : (i : Int) < ((b9.length : Nat) : Int) := by omega
    have hne : (st.getD j 0 == x.2.1) = false := by
      unfold hasI at hno
      rw [List.any_eq_false] at hno
      have := hno (st.getD j 0) (by rw [List.getD, List.getElem?_eq_getElem (by omega)]; exact List.getElem_mem _)
      simpa using this
    rw [decide_eq_true hjl, cond_true, toNat_lt (by omega) hjl, cond_true, toNat_lt (by omega) hil, cond_true, Int.toNat_natCast, Int.toNat_natCast, hx, hne, cond_false, w_step (by omega) hjl hs]
    exact in16a l st hs left at_ i b9 hi x hx hno h n (j + 1) (by omega)
theorem in16b (l : List Q4.D) (hl : l.length ≤ lenBound) (st : List Int) (left : Int) (i : Nat) (b9 : List Q4.D) (hb : b9.length ≤ lenBound) (hi : i < b9.length) (x : Q4.D) (hx : b9.getD i (0, 0, 0, 0, ()) = x) (b : Q4.D) (post : List Q4.D)
    (hb1 : b.1 = x.2.1) (hb2 : cen x ≤ overV b)
    (h : ∀ (at_ : Nat) (more : List Q4.D), l.drop at_ = more ++ post → Go16 (.loop M16.body M16.kont (S16 l st left at_ ((i + 1 : Nat) : Int) b9))) : ∀ (m : List Q4.D) (at_ : Nat), l.drop at_ = m ++ b :: post → Go16 (.loop M16b.body M16b.kont (S16b l st left at_ i b9)) := by
  intro m
  induction m with
  | nil =>
    intro at_ hd
    have hlt : at_ < l.length := by
      rcases Nat.lt_or_ge at_ l.length with h | h
      · exact h
      · rw [drop_end h] at hd; simp at hd
    have hal : (at_ : Int) < ((l.length : Nat) : Int) := by omega
    have hil : (i : Int) < ((b9.length : Nat) : Int) := by omega
    rw [drop_cons l (0, 0, 0, 0, ()) at_ hlt] at hd
    simp only [List.nil_append, List.cons.injEq] at hd
    refine Goes.lp' (i16b Tbl.none kT overV limK limC true true kAny fewV planK planV l st left at_ i b9) ?_
    rw [toNat_lt (by omega) hal, toNat_lt (by omega) hil, Int.toNat_natCast, Int.toNat_natCast, hx, hd.1, show kT b = true from rfl]
    simp only [Bool.true_or, cond_true]
    rw [decide_eq_true hal, cond_true,
      show (b.1 != x.2.1) = false by simp [hb1], cond_false, decide_eq_false (show ¬ overV b < x.2.2.2.1 from (by omega : ¬ overV b < cen x)), cond_false, show ((at_ : Int) == ((l.length : Nat) : Int)) = false from beq_false_of_ne (by omega), cond_false,
      w_step (by omega) hal hl, w_step (by omega) hil hb]
    exact h (at_ + 1) [] (by rw [hd.2]; rfl)
  | cons y m ih =>
    intro at_ hd
    have hlt : at_ < l.length := by
      rcases Nat.lt_or_ge at_ l.length with h | h
      · exact h
      · rw [drop_end h] at hd; simp at hd
    have hal : (at_ : Int) < ((l.length : Nat) : Int) := by omega
    have hil : (i : Int) < ((b9.length : Nat) : Int) := by omega
    rw [drop_cons l (0, 0, 0, 0, ()) at_ hlt] at hd
    simp only [List.cons_append, List.cons.injEq] at hd
    refine Goes.lp' (i16b Tbl.none kT overV limK limC true true kAny fewV planK planV l st left at_ i b9) ?_
    rw [toNat_lt (by omega) hal, toNat_lt (by omega) hil, Int.toNat_natCast, Int.toNat_natCast, hx, hd.1, show kT y = true from rfl]
    simp only [Bool.true_or, cond_true]
    refine .bif (fun _ => ?_) fun _ => ?_
    · rw [w_step (by omega) hal hl]
      exact ih (at_ + 1) hd.2
    · rw [show ((at_ : Int) == ((l.length : Nat) : Int)) = false from beq_false_of_ne (by omega), cond_false, w_step (by omega) hal hl, w_step (by omega) hil hb]
      exact h (at_ + 1) (m ++ [b]) (by rw [hd.2, List.append_assoc]; rfl)
theorem out16 (l : List Q4.D) (hl : l.length ≤ lenBound) (st : List Int) (hs : st.length ≤ lenBound) (b9 : List Q4.D) (hb : b9.length ≤ lenBound) : ∀ (a : List Q4.D) (i : Nat) (left : Int) (at_ : Nat) (S more : List Q4.D),
    b9.drop i = a → i64ok left = true → Fits 5 2 st a S left → l.drop at_ = more ++ S → Go16 (.loop M16.body M16.kont (S16 l st left at_ i b9)) := by
  intro a
  induction a with
  | nil =>
    intro i left at_ S more hd _ _ _
    have hge : b9.length ≤ i := by
      rcases Nat.lt_or_ge i b9.length with h | h
      · rw [drop_cons b9 (0, 0, 0, 0, ()) i h] at hd; simp at hd
      · exact h
    refine Goes.lp' (i16 Tbl.none kT overV limK limC true true kAny fewV planK planV l st left at_ i b9) ?_
    rw [decide_eq_false (show ¬ (i : Int) < ((b9.length : Nat) : Int) by omega), cond_false]
    exact .ret _
  | cons x a ih =>
    intro i left at_ S more hd hleft hf hat
    have hlt : i < b9.length := by
      rcases Nat.lt_or_ge i b9.length with h | h
      · exact h
      · rw [drop_end h] at hd; simp at hd
    rw [drop_cons b9 (0, 0, 0, 0, ()) i hlt] at hd
    simp only [List.cons.injEq] at hd
    obtain ⟨pre, b, post, f1, f2, f3, f4, f5, f6, f7, f8⟩ := hf
    have o := ov_le b left
    have hil : (i : Int) < ((b9.length : Nat) : Int) := by omega
    have L := i64ok_spec hleft
    refine Goes.lp' (i16 Tbl.none kT overV limK limC true true kAny fewV planK planV l st left at_ i b9) ?_
    rw [decide_eq_true hil, cond_true, toNat_lt (by omega) hil, Int.toNat_natCast, hd.1]
    simp only [Bool.true_or, cond_true]
    rw [decide_eq_false (show ¬ x.2.2.2.1 < 1 from (by omega : ¬ cen x < 1)), cond_false,
      decide_eq_false (show ¬ x.2.2.2.1 > left from (by omega : ¬ cen x > left)), cond_false, show (x.2.2.1 != 2) = false by simp [f6], cond_false, show (x.1 != 5) = false by simp [f5], cond_false, show w (left - x.2.2.2.1) = left - cen x from wrap_id (n := left - cen x) (by omega) (by omega)]
    refine in16a l st hs _ at_ i b9 hlt x hd.1 (by rw [← f2]; exact f7) ?_ st.length 0 (by omega)
    refine in16b l hl st _ i b9 hb hlt x hd.1 b post f2 (by omega) (fun at' more' h' => ?_) (more ++ pre) at_ (by rw [hat, f1, List.append_assoc])
    exact ih (i + 1) _ at' post more' hd.2 (i64of (by omega)) f8 h'
theorem has16b : Hs 6 F16 := by
  refine Has.fc4 (fn := Try.f6) (((((env0.more has30b).more has33b).more has35b).more has36b).more has38b) (by kernel_rfl) (by kernel_rfl) (by kernel_rfl) (by kernel_rfl)
    fun (l : List Q4.D) (p : Int) (c : Conf.D) (st : List Int) h => .run1 (e16 Tbl.none kT overV limK limC true true kAny fewV planK planV l p c st) ?_
  rw [Bool.and_eq_true] at h
  obtain ⟨h1, h2⟩ := h
  unfold confOk at h2
  rw [Bool.and_eq_true] at h2
  rw [show kAny l st = true from rfl, cond_true]
  refine .bif (fun g => .ret _) fun g => ?_
  rw [Bool.not_eq_false'] at g
  obtain ⟨l1, l2⟩ := few_len g
  have hk : planK l p c 5 st = true := by unfold planK; rw [l1, l2, cK h1 h2]; rfl
  rw [hk, cond_true, show limK p c = true from cK h1 h2, cond_true]
  have ok : lenOK (planV l p c 5 st).length = true := d0_ok l1 _ _ _ _
  exact out16 l (lenOK_spec l1) st (lenOK_spec l2) (planV l p c 5 st) (lenOK_spec ok) (planV l p c 5 st) 0 (limC p c) 0 l [] rfl (limC_ok p c) (fits_dist 5 2 st l (limC p c)) rfl
end Go.Lift.L39
set_option maxRecDepth 100000
set_option linter.unusedVariables false
set_option linter.unusedSimpArgs false
namespace Go.Lift.L39
open Go.Lift Go.Proofs

noncomputable def M17 : Leaf := .loop (cAt Try.f7 [1, 1, 1, 1, 0, 1, 0, 0]) [.inBlock 0, .code (cAt Try.f7 [1, 1, 1, 1, 1])] ⟨[], []⟩
def S17 (s0 : (List (Ty.D Q4))) (s3 : (List Int)) (s10 : Int) (s11 : Int) (b9 : (List (Ty.D Q4))) : St := ⟨[(0, .tv (TD.mk (.slice (.cons (.int .i64) (.cons (.int .i64) (.cons (.int .i64) (.cons (.int .i64) (.nil)))))) s0)), (3, .tv (TD.mk (.slice (.int .i64)) s3)), (9, .ref 9), (10, .tv (I s10)), (11, .tv (I s11))], [(9, .vec Q4 b9)]⟩
noncomputable def M17a : Leaf := .loop (cAt Try.f7 [1, 1, 1, 1, 1, 1, 1, 0, 1, 0, 0]) [.inBlock 2, .code (cAt Try.f7 [1, 1, 1, 1, 1, 1, 1, 1])] ⟨[], []⟩
def S17a (s0 : (List (Ty.D Q4))) (s3 : (List Int)) (s12 : Int) (s13 : Int) (b9 : (List (Ty.D Q4))) : St := ⟨[(0, .tv (TD.mk (.slice (.cons (.int .i64) (.cons (.int .i64) (.cons (.int .i64) (.cons (.int .i64) (.nil)))))) s0)), (3, .tv (TD.mk (.slice (.int .i64)) s3)), (9, .ref 9), (12, .tv (I s12)), (13, .tv (I s13))], [(9, .vec Q4 b9)]⟩
noncomputable def M17b : Leaf := .loop (cAt Try.f7 [1, 1, 1, 1, 1, 1, 1, 0, 1, 0, 0, 1, 0, 0, 1, 0, 1, 0, 0]) [.inBlock 4, .code (cAt Try.f7 [1, 1, 1, 1, 1, 1, 1, 0, 1, 0, 0, 1, 0, 0, 1, 1]), .inBlock 3, .code (cAt Try.f7 [1, 1, 1, 1, 1, 1, 1, 0, 1, 0, 0, 1, 1]), .inLoop (cAt Try.f7 [1, 1, 1, 1, 1, 1, 1, 0, 1, 0, 0]), .inBlock 2, .code (cAt Try.f7 [1, 1, 1, 1, 1, 1, 1, 1])] ⟨[], []⟩
def S17b (s0 : (List (Ty.D Q4))) (s3 : (List Int)) (s12 : Int) (s13 : Int) (s14 : Bool) (s15 : Int) (b9 : (List (Ty.D Q4))) : St := ⟨[(0, .tv (TD.mk (.slice (.cons (.int .i64) (.cons (.int .i64) (.cons (.int .i64) (.cons (.int .i64) (.nil)))))) s0)), (3, .tv (TD.mk (.slice (.int .i64)) s3)), (9, .ref 9), (12, .tv (I s12)), (13, .tv (I s13)), (14, .tv (B s14)), (15, .tv (I s15))], [(9, .vec Q4 b9)]⟩
theorem i17 (G : Tbl) (k42 : (Ty.D Q4) → Bool) (r42 : (Ty.D Q4) → Int) (k45 : Int → (Ty.D Conf) → Bool) (r45 : Int → (Ty.D Conf) → Int) (k47 : Bool) (r47 : Bool) (k48 : (List (Ty.D Q4)) → (List Int) → Bool) (r48 : (List (Ty.D Q4)) → (List Int) → Bool) (k50 : (List (Ty.D Q4)) → Int → (Ty.D Conf) → Int → (List Int) → Bool) (r50 : (List (Ty.D Q4)) → Int → (Ty.D Conf) → Int → (List Int) → (List (Ty.D Q4))) (s0 : (List (Ty.D Q4))) (s3 : (List Int)) (s10 : Int) (s11 : Int) (b9 : (List (Ty.D Q4))) :
    runL (((((G.add 17 (FC1 Q4 k42 (fun x0 => .tv (I (r42 x0))))).add 8 (FC2 (.int .i64) Conf k45 (fun x0 x1 => .tv (I (r45 x0 x1))))).add 10 (FC0  k47 (.tv (B r47)))).add 11 (FC2 (.slice (.cons (.int .i64) (.cons (.int .i64) (.cons (.int .i64) (.cons (.int .i64) (.nil)))))) (.slice (.int .i64)) k48 (fun x0 x1 => .tv (B (r48 x0 x1))))).add 13 (FC5 (.slice (.cons (.int .i64) (.cons (.int .i64) (.cons (.int .i64) (.cons (.int .i64) (.nil)))))) (.int .i64) Conf (.int .i64) (.slice (.int .i64)) k50 (fun x0 x1 x2 x3 x4 => .own Q4 (r50 x0 x1 x2 x3 x4)))) [(386, [0, 3, 9, 10, 11]), (834, [0, 3, 9, 12, 13]), (1095, [0, 3, 9, 12, 13, 14, 15])] Try.f7 1000 M17.round (S17 s0 s3 s10 s11 b9) =
  bif (decide (s11 < ((List.length b9 : Nat) : Int))) then
    bif (inB s11 (List.length b9)) then
      .loop M17.body M17.kont (S17 s0 s3 (w (s10 - (((List.getD b9 (Int.toNat s11) (0, 0, 0, 0, ()))).2.2.2.1))) (w (s11 + 1)) b9)
    else
      .fail
  else
    bif (decide (s10 ≤ 0)) then
      bif (k47 || (!(s10 == 0))) then
        .ret (.tv (B (bif (s10 == 0) then r47 else false)))
      else
        .fail
    else
      .loop M17a.body M17a.kont (S17a s0 s3 0 0 b9) := by kernel_rfl
theorem i17a (G : Tbl) (k42 : (Ty.D Q4) → Bool) (r42 : (Ty.D Q4) → Int) (k45 : Int → (Ty.D Conf) → Bool) (r45 : Int → (Ty.D Conf) → Int) (k47 : Bool) (r47 : Bool) (k48 : (List (Ty.D Q4)) → (List Int) → Bool) (r48 : (List (Ty.D Q4)) → (List Int) → Bool) (k50 : (List (Ty.D Q4)) → Int → (Ty.D Conf) → Int → (List Int) → Bool) (r50 : (List (Ty.D Q4)) → Int → (Ty.D Conf) → Int → (List Int) → (List (Ty.D Q4))) (s0 : (List (Ty.D Q4))) (s3 : (List Int)) (s12 : Int) (s13 : Int) (b9 : (List (Ty.D Q4))) :
    runL (((((G.add 17 (FC1 Q4 k42 (fun x0 => .tv (I (r42 x0))))).add 8 (FC2 (.int .i64) Conf k45 (fun x0 x1 => .tv (I (r45 x0 x1))))).add 10 (FC0  k47 (.tv (B r47)))).add 11 (FC2 (.slice (.cons (.int .i64) (.cons (.int .i64) (.cons (.int .i64) (.cons (.int .i64) (.nil)))))) (.slice (.int .i64)) k48 (fun x0 x1 => .tv (B (r48 x0 x1))))).add 13 (FC5 (.slice (.cons (.int .i64) (.cons (.int .i64) (.cons (.int .i64) (.cons (.int .i64) (.nil)))))) (.int .i64) Conf (.int .i64) (.slice (.int .i64)) k50 (fun x0 x1 x2 x3 x4 => .own Q4 (r50 x0 x1 x2 x3 x4)))) [(386, [0, 3, 9, 10, 11]), (834, [0, 3, 9, 12, 13]), (1095, [0, 3, 9, 12, 13, 14, 15])] Try.f7 1000 M17a.round (S17a s0 s3 s12 s13 b9) =
  bif (decide (s13 < ((List.length s0 : Nat) : Int))) then
    bif (inB s13 (List.length s0)) then
      bif (k42 (List.getD s0 (Int.toNat s13) (0, 0, 0, 0, ()))) then
        .loop M17b.body M17b.kont (S17b s0 s3 s12 s13 (decide ((r42 (List.getD s0 (Int.toNat s13) (0, 0, 0, 0, ()))) < 1)) 0 b9)
      else
        .fail
    else
      .fail
  else
    bif (k47 || (!(s12 == ((List.length b9 : Nat) : Int)))) then
      .ret (.tv (B (bif (s12 == ((List.length b9 : Nat) : Int)) then r47 else false)))
    else
      .fail := by kernel_rfl
theorem i17b (G : Tbl) (k42 : (Ty.D Q4) → Bool) (r42 : (Ty.D Q4) → Int) (k45 : Int → (Ty.D Conf) → Bool) (r45 : Int → (Ty.D Conf) → Int) (k47 : Bool) (r47 : Bool) (k48 : (List (Ty.D Q4)) → (List Int) → Bool) (r48 : (List (Ty.D Q4)) → (List Int) → Bool) (k50 : (List (Ty.D Q4)) → Int → (Ty.D Conf) → Int → (List Int) → Bool) (r50 : (List (Ty.D Q4)) → Int → (Ty.D Conf) → Int → (List Int) → (List (Ty.D Q4))) (s0 : (List (Ty.D Q4))) (s3 : (List Int)) (s12 : Int) (s13 : Int) (s14 : Bool) (s15 : Int) (b9 : (List (Ty.D Q4))) :
    runL (((((G.add 17 (FC1 Q4 k42 (fun x0 => .tv (I (r42 x0))))).add 8 (FC2 (.int .i64) Conf k45 (fun x0 x1 => .tv (I (r45 x0 x1))))).add 10 (FC0  k47 (.tv (B r47)))).add 11 (FC2 (.slice (.cons (.int .i64) (.cons (.int .i64) (.cons (.int .i64) (.cons (.int .i64) (.nil)))))) (.slice (.int .i64)) k48 (fun x0 x1 => .tv (B (r48 x0 x1))))).add 13 (FC5 (.slice (.cons (.int .i64) (.cons (.int .i64) (.cons (.int .i64) (.cons (.int .i64) (.nil)))))) (.int .i64) Conf (.int .i64) (.slice (.int .i64)) k50 (fun x0 x1 x2 x3 x4 => .own Q4 (r50 x0 x1 x2 x3 x4)))) [(386, [0, 3, 9, 10, 11]), (834, [0, 3, 9, 12, 13]), (1095, [0, 3, 9, 12, 13, 14, 15])] Try.f7 1000 M17b.round (S17b s0 s3 s12 s13 s14 s15 b9) =
  bif (decide (s15 < ((List.length s3 : Nat) : Int))) then
    bif ((inB s15 (List.length s3)) || (!(!s14))) then
      bif ((inB s13 (List.length s0)) || (!(!s14))) then
        .loop M17b.body M17b.kont (S17b s0 s3 s12 s13 (bif s14 then true else ((List.getD s3 (Int.toNat s15) 0) == (((List.getD s0 (Int.toNat s13) (0, 0, 0, 0, ()))).1))) (w (s15 + 1)) b9)
      else
        .fail
    else
      .fail
  else
    bif s14 then
      .loop M17a.body M17a.kont (S17a s0 s3 s12 (w (s13 + 1)) b9)
    else
      bif ((inB s12 (List.length b9)) || (!(!(decide (s12 ≥ ((List.length b9 : Nat) : Int)))))) then
        bif ((inB s13 (List.length s0)) || (!(!(decide (s12 ≥ ((List.length b9 : Nat) : Int)))))) then
          bif ((inB s12 (List.length b9)) || (!(!(bif (decide (s12 ≥ ((List.length b9 : Nat) : Int))) then true else ((((List.getD b9 (Int.toNat s12) (0, 0, 0, 0, ()))).2.1) != (((List.getD s0 (Int.toNat s13) (0, 0, 0, 0, ()))).1)))))) then
            bif ((inB s13 (List.length s0)) || (!(!(bif (decide (s12 ≥ ((List.length b9 : Nat) : Int))) then true else ((((List.getD b9 (Int.toNat s12) (0, 0, 0, 0, ()))).2.1) != (((List.getD s0 (Int.toNat s13) (0, 0, 0, 0, ()))).1)))))) then
              bif ((k42 (List.getD s0 (Int.toNat s13) (0, 0, 0, 0, ()))) || (!(!(bif (decide (s12 ≥ ((List.length b9 : Nat) : Int))) then true else ((((List.getD b9 (Int.toNat s12) (0, 0, 0, 0, ()))).2.1) != (((List.getD s0 (Int.toNat s13) (0, 0, 0, 0, ()))).1)))))) then
                bif (bif (bif (decide (s12 ≥ ((List.length b9 : Nat) : Int))) then true else ((((List.getD b9 (Int.toNat s12) (0, 0, 0, 0, ()))).2.1) != (((List.getD s0 (Int.toNat s13) (0, 0, 0, 0, ()))).1))) then true else ((((List.getD b9 (Int.toNat s12) (0, 0, 0, 0, ()))).2.2.2.1) != (r42 (List.getD s0 (Int.toNat s13) (0, 0, 0, 0, ()))))) then
                  .ret (.tv (B false))
                else
                  .loop M17a.body M17a.kont (S17a s0 s3 (w (s12 + 1)) (w (s13 + 1)) b9)
              else
                .fail
            else
              .fail
          else
            .fail
        else
          .fail
      else
        .fail := by kernel_rfl
theorem e17 (G : Tbl) (k42 : (Ty.D Q4) → Bool) (r42 : (Ty.D Q4) → Int) (k45 : Int → (Ty.D Conf) → Bool) (r45 : Int → (Ty.D Conf) → Int) (k47 : Bool) (r47 : Bool) (k48 : (List (Ty.D Q4)) → (List Int) → Bool) (r48 : (List (Ty.D Q4)) → (List Int) → Bool) (k50 : (List (Ty.D Q4)) → Int → (Ty.D Conf) → Int → (List Int) → Bool) (r50 : (List (Ty.D Q4)) → Int → (Ty.D Conf) → Int → (List Int) → (List (Ty.D Q4))) (a0 : (List (Ty.D Q4))) (a1 : Int) (a2 : (Ty.D Conf)) (a3 : (List Int)) :
    runL (((((G.add 17 (FC1 Q4 k42 (fun x0 => .tv (I (r42 x0))))).add 8 (FC2 (.int .i64) Conf k45 (fun x0 x1 => .tv (I (r45 x0 x1))))).add 10 (FC0  k47 (.tv (B r47)))).add 11 (FC2 (.slice (.cons (.int .i64) (.cons (.int .i64) (.cons (.int .i64) (.cons (.int .i64) (.nil)))))) (.slice (.int .i64)) k48 (fun x0 x1 => .tv (B (r48 x0 x1))))).add 13 (FC5 (.slice (.cons (.int .i64) (.cons (.int .i64) (.cons (.int .i64) (.cons (.int .i64) (.nil)))))) (.int .i64) Conf (.int .i64) (.slice (.int .i64)) k50 (fun x0 x1 x2 x3 x4 => .own Q4 (r50 x0 x1 x2 x3 x4)))) [(386, [0, 3, 9, 10, 11]), (834, [0, 3, 9, 12, 13]), (1095, [0, 3, 9, 12, 13, 14, 15])] Try.f7 1000 (bod Try.f7) (entry [(TD.mk (.slice (.cons (.int .i64) (.cons (.int .i64) (.cons (.int .i64) (.cons (.int .i64) (.nil)))))) a0), (I a1), (TD.mk Conf a2), (TD.mk (.slice (.int .i64)) a3)]) =
  bif (k48 a0 a3) then
    bif (!(r48 a0 a3)) then
      bif k47 then
        .ret (.tv (B r47))
      else
        .fail
    else
      bif (k50 a0 a1 a2 5 a3) then
        bif (k45 a1 a2) then
          .loop M17.body M17.kont (S17 a0 a3 (r45 a1 a2) 0 (r50 a0 a1 a2 5 a3))
        else
          .fail
      else
        .fail
  else
    .fail := by kernel_rfl

def owes (st : List Int) (b : Q4.D) : Bool := !(decide (overV b < 1) || hasI st b.1)
def full (st : List Int) (l : List Q4.D) : List Q4.D := (l.filter (owes st)).map fun b => (5, b.1, 2, overV b, ())
theorem dist_rest (d k : Int) (st : List Int) : ∀ (l : List Q4.D) (left : Int), 0 ≤ left → 0 ≤ (distG d k st l left []).2 ∧ (distG d k st l left []).2 ≤ left
  | [], left, h => ⟨h, Int.le_refl _⟩
  | b :: r, left, h => by
    unfold distG
    cases g : decide (left > 0)
    · exact ⟨h, Int.le_refl _⟩
    · rw [cond_true]
      have g := of_decide_eq_true g
      cases hs : decide (ovN b left ≤ 0) || hasI st b.1
      · rw [cond_false, distG_acc]
        have o := of_decide_eq_false (Bool.or_eq_false_iff.1 hs).1
        have m : ovN b left ≤ left := by unfold ovN; omega
        have := dist_rest d k st r (left - ovN b left) (by omega)
        exact ⟨this.1, by have := this.2; show (distG d k st r (left - ovN b left) []).2 ≤ left; omega⟩
      · rw [cond_true]; exact dist_rest d k st r left h
theorem dist_full (st : List Int) : ∀ (l : List Q4.D) (left : Int), 0 ≤ left → 0 < (distG 5 2 st l left []).2 → (distG 5 2 st l left []).1 = full st l
  | [], left, _, _ => rfl
  | b :: r, left, h, hr => by
    unfold distG at hr ⊢
    cases g : decide (left > 0)
    · rw [g, cond_false] at hr
      have := of_decide_eq_false g
      have hr : 0 < left := hr
      omega
    · rw [g, cond_true] at hr
      rw [cond_true]
      have g := of_decide_eq_true g
      cases hs : decide (ovN b left ≤ 0) || hasI st b.1
      · rw [hs, cond_false, distG_acc] at hr
        rw [cond_false, distG_acc]
        have g' := Bool.or_eq_false_iff.1 hs
        have o := of_decide_eq_false g'.1
        have m : ovN b left ≤ left ∧ ovN b left ≤ overV b := ov_le b left
        have q := dist_rest 5 2 st r (left - ovN b left) (by omega)
        have hr : 0 < (distG 5 2 st r (left - ovN b left) []).2 := hr
        have e : ovN b left = overV b := by unfold ovN at *; omega
        show ([] ++ [(5, b.1, 2, ovN b left, ())]) ++ (distG 5 2 st r (left - ovN b left) []).1 = full st (b :: r)
        rw [dist_full st r _ (by omega) hr, e]
        unfold full
        have ow : owes st b = true := by unfold owes; rw [decide_eq_false (show ¬ overV b < 1 by omega), g'.2]; rfl
        rw [List.filter_cons_of_pos ow, List.map_cons]; rfl
      · rw [hs, cond_true] at hr
        rw [cond_true, dist_full st r left h hr]
        unfold full
        have ow : ¬ owes st b = true := by
          unfold owes
          cases hh : hasI st b.1
          · rw [hh, Bool.or_false] at hs
            have := of_decide_eq_true hs
            have e : overV b < 1 := by unfold ovN at this; omega
            rw [decide_eq_true e]; simp
          · simp
        rw [List.filter_cons_of_neg ow]
def F17 := FC4 (.slice Q4) (.int .i64) Conf (.slice (.int .i64)) (fun _ p c _ => i64ok p && confOk c) fun _ _ _ _ => .tv (B true)
noncomputable def G17 : Tbl := (((((Tbl.none.add 17 FOver).add 8 FLimit).add 10 FAwake).add 11 FFew).add 13 FPlan)
abbrev Go17 (L : Leaf) : Prop := Goes G17 T Try.f7.ntmps Try.f7.results.toList L (.tv (B true))
theorem in17b (l : List Q4.D) (hl : l.length ≤ lenBound) (st : List Int) (hs : st.length ≤ lenBound) (b9 : List Q4.D) (hb : b9.length ≤ lenBound) (at_ i : Nat) (hi : i < l.length) (b : Q4.D) (hib : l.getD i (0, 0, 0, 0, ()) = b) (S : Bool)
    (h1 : S = true → Go17 (.loop M17a.body M17a.kont (S17a l st at_ ((i + 1 : Nat) : Int) b9)))
    (h2 : S = false → at_ < b9.length ∧ (b9.getD at_ (0, 0, 0, 0, ())).2.1 = b.1 ∧ cen (b9.getD at_ (0, 0, 0, 0, ())) = overV b ∧ Go17 (.loop M17a.body M17a.kont (S17a l st ((at_ + 1 : Nat) : Int) ((i + 1 : Nat) : Int) b9))) :
    ∀ (n j : Nat) (s : Bool), j + n = st.length → S = (s || (st.drop j).any fun y => y == b.1) → Go17 (.loop M17b.body M17b.kont (S17b l st at_ i s j b9))
  | 0, j, s, hj, hS => by
    have hil : (i : Int) < ((l.length : Nat) : Int) := by omega
    refine Goes.lp' (i17b Tbl.none kT overV limK limC true true kAny fewV planK planV l st at_ i s j b9) ?_
    rw [decide_eq_false (show ¬ (j : Int) < ((st.length : Nat) : Int) by omega), cond_false]
    rw [drop_end (by omega), List.any_nil, Bool.or_false] at hS
    subst hS
    rw [w_step (by omega) hil hl]
    refine .bif (fun g => h1 g) fun g => ?_
    obtain ⟨q1, q2, q3, q4⟩ := h2 g
    have hal : (at_ : Int) < ((b9.length : Nat) : Int) := by omega
    rw [toNat_lt (by omega) hal, toNat_lt (by omega) hil, Int.toNat_natCast, Int.toNat_natCast, hib, q2, show kT b = true from rfl]
    simp only [Bool.true_or, cond_true]
    rw [decide_eq_false (show ¬ (at_ : Int) ≥ ((b9.length : Nat) : Int) by omega), cond_false, show (b.1 != b.1) = false by simp, cond_false,
      show ((b9.getD at_ (0, 0, 0, 0, ())).2.2.2.1 != overV b) = false from by rw [show (b9.getD at_ (0, 0, 0, 0, ())).2.2.2.1 = overV b from q3]; simp, cond_false, w_step (by omega) hal hb]
    exact q4
  | n + 1, j, s, hj, hS => by
    have hil : (i : Int) < ((l.length : Nat) : Int) := by omega
    have hjl : (j : Int) < ((st.length : Nat) : Int) := by omega
    refine Goes.lp' (i17b Tbl.none kT overV limK limC true true kAny fewV planK planV l st at_ i s j b9) ?_
    rw [decide_eq_true hjl, cond_true, toNat_lt (by omega) hjl, toNat_lt (by omega) hil, Int.toNat_natCast, Int.toNat_natCast, hib, w_step (by omega) hjl hs]
    simp only [Bool.true_or, cond_true]
    refine in17b l hl st hs b9 hb at_ i hi b hib S h1 h2 n (j + 1) _ (by omega) ?_
    rw [hS, drop_cons st 0 j (by omega), List.any_cons, bor_bif, Bool.or_assoc]
theorem out17 (l : List Q4.D) (hl : l.length ≤ lenBound) (st : List Int) (hs : st.length ≤ lenBound) (b9 : List Q4.D) (hb : b9.length ≤ lenBound) : ∀ (n i at_ : Nat), i + n = l.length → b9.drop at_ = full st (l.drop i) → at_ ≤ b9.length →
    Go17 (.loop M17a.body M17a.kont (S17a l st at_ i b9))
  | 0, i, at_, hi, hd, ha => by
    refine Goes.lp' (i17a Tbl.none kT overV limK limC true true kAny fewV planK planV l st at_ i b9) ?_
    rw [decide_eq_false (show ¬ (i : Int) < ((l.length : Nat) : Int) by omega), cond_false, Bool.true_or, cond_true]
    rw [drop_end (l := l) (by omega)] at hd
    have : at_ = b9.length := by
      rcases Nat.lt_or_ge at_ b9.length with h | h
      · rw [drop_cons b9 (0, 0, 0, 0, ()) at_ h] at hd; simp [full] at hd
      · omega
    rw [this, beq_self_eq_true]
    exact .ret _
  | n + 1, i, at_, hi, hd, ha => by
    have hil : (i : Int) < ((l.length : Nat) : Int) := by omega
    refine Goes.lp' (i17a Tbl.none kT overV limK limC true true kAny fewV planK planV l st at_ i b9) ?_
    rw [decide_eq_true hil, cond_true, toNat_lt (by omega) hil, cond_true, Int.toNat_natCast]
    rw [drop_cons l (0, 0, 0, 0, ()) i (by omega)] at hd
    generalize hbb : l.getD i (0, 0, 0, 0, ()) = b at *
    rw [show kT b = true from rfl, cond_true]
    refine in17b l hl st hs b9 hb at_ i (by omega) b hbb (!owes st b) (fun g => ?_) (fun g => ?_) st.length 0 _ (by omega) (by unfold owes hasI; rw [Bool.not_not, List.drop_zero])
    · have : ¬ owes st b = true := by simpa using g
      unfold full at hd
      rw [List.filter_cons_of_neg this] at hd
      exact out17 l hl st hs b9 hb n (i + 1) at_ (by omega) hd ha
    · have : owes st b = true := by simpa using g
      unfold full at hd
      rw [List.filter_cons_of_pos this, List.map_cons] at hd
      have hlt : at_ < b9.length := by
        rcases Nat.lt_or_ge at_ b9.length with h | h
        · exact h
        · rw [drop_end h] at hd; simp at hd
      rw [drop_cons b9 (0, 0, 0, 0, ()) at_ hlt] at hd
      simp only [List.cons.injEq] at hd
      refine ⟨hlt, by rw [hd.1], by rw [hd.1], ?_⟩
      exact out17 l hl st hs b9 hb n (i + 1) (at_ + 1) (by omega) hd.2 (by omega)
theorem sum17 (l : List Q4.D) (st : List Int) (b9 : List Q4.D) (hb : b9.length ≤ lenBound) (F : Int) (h : Go17 (bif decide (F ≤ 0) then .ret (.tv (B (F == 0))) else .loop M17a.body M17a.kont (S17a l st 0 0 b9))) : ∀ (n i : Nat) (a : Int), i + n = b9.length → subW (b9.drop i) a = F →
    Go17 (.loop M17.body M17.kont (S17 l st a i b9))
  | 0, i, a, hi, hF => by
    refine Goes.lp' (i17 Tbl.none kT overV limK limC true true kAny fewV planK planV l st a i b9) ?_
    rw [decide_eq_false (show ¬ (i : Int) < ((b9.length : Nat) : Int) by omega), cond_false, Bool.true_or, cond_true]
    rw [drop_end (by omega)] at hF
    have hF : a = F := hF
    subst hF
    have e : (bif a == 0 then true else false) = (a == 0) := by cases a == 0 <;> rfl
    rw [e]
    exact h
  | n + 1, i, a, hi, hF => by
    have hil : (i : Int) < ((b9.length : Nat) : Int) := by omega
    refine Goes.lp' (i17 Tbl.none kT overV limK limC true true kAny fewV planK planV l st a i b9) ?_
    rw [decide_eq_true hil, cond_true, toNat_lt (by omega) hil, cond_true, Int.toNat_natCast, w_step (by omega) hil hb]
    rw [drop_cons b9 (0, 0, 0, 0, ()) i (by omega)] at hF
    exact sum17 l st b9 hb F h n (i + 1) _ (by omega) hF
theorem has17b : Hs 7 F17 := by
  refine Has.fc4 (fn := Try.f7) (((((env0.more has30b).more has33b).more has35b).more has36b).more has38b) (by kernel_rfl) (by kernel_rfl) (by kernel_rfl) (by kernel_rfl)
    fun (l : List Q4.D) (p : Int) (c : Conf.D) (st : List Int) h => .run1 (e17 Tbl.none kT overV limK limC true true kAny fewV planK planV l p c st) ?_
  rw [Bool.and_eq_true] at h
  obtain ⟨h1, h2⟩ := h
  unfold confOk at h2
  rw [Bool.and_eq_true] at h2
  rw [show kAny l st = true from rfl, cond_true]
  refine .bif (fun g => .ret _) fun g => ?_
  rw [Bool.not_eq_false'] at g
  obtain ⟨l1, l2⟩ := few_len g
  have hk : planK l p c 5 st = true := by unfold planK; rw [l1, l2, cK h1 h2]; rfl
  rw [hk, cond_true, show limK p c = true from cK h1 h2, cond_true]
  have ok : lenOK (planV l p c 5 st).length = true := d0_ok l1 _ _ _ _
  have lim : 0 ≤ limC p c := (limV_le p _ _).1
  have key : subW (planV l p c 5 st) (limC p c) = (distG 5 2 st l (limC p c) []).2 := distG_sub 5 2 st (limC p c) l (limC p c) [] (limC_ok p c) rfl
  have rest := dist_rest 5 2 st l (limC p c) lim
  refine sum17 l st (planV l p c 5 st) (lenOK_spec ok) _ ?_ (planV l p c 5 st).length 0 (limC p c) (by omega) key
  generalize hR : (distG 5 2 st l (limC p c) []).2 = R at *
  cases hd : decide (R ≤ 0)
  · rw [cond_false]
    have := of_decide_eq_false hd
    have e : planV l p c 5 st = full st l := dist_full st l (limC p c) lim (by rw [hR]; omega)
    exact out17 l (lenOK_spec l1) st (lenOK_spec l2) (planV l p c 5 st) (lenOK_spec ok) l.length 0 0 (by omega) (by rw [List.drop_zero, List.drop_zero]; exact e) (Nat.zero_le _)
  · rw [cond_true]
    have := of_decide_eq_true hd
    rw [show R = 0 by omega]
    exact .ret _
end Go.Lift.L39
