/- A part of the proof that the law returns true for every input: no condition. -/
import Derived.Test.YtjnaoailnfnlkaaI
set_option maxRecDepth 100000
set_option linter.unusedVariables false
namespace Go.Lift.V37
open Go.Lift Go.Proofs

abbrev KD : Ty := .fn (.cons Po .nil) .bool
abbrev SD : Ty := .seq Po
abbrev LP : Ty := .slice Po
theorem e25 (G : Tbl)  (a0 : (Ty.D Po)) (a1 : (Ty.D (.ptr (.int .i64)))) :
    runL G [] Try.f23 1000 (bod Try.f23) (entry [(TD.mk Po a0), (TD.mk (.ptr (.int .i64)) a1)]) =
  bif a1.1 then
    .ret (.tv (B (a0.2.1 == a1.2)))
  else
    .fail := by kernel_rfl

theorem e26 (G : Tbl)  (a0 : (Ty.D Po)) (a1 : (Ty.D (.ptr (.int .i64)))) :
    runL G [] Try.f25 1000 (bod Try.f25) (entry [(TD.mk Po a0), (TD.mk (.ptr (.int .i64)) a1)]) =
  bif a1.1 then
    .ret (.tv (B (bif (a0.2.1 == a1.2) then (a0.2.2.1 == 4) else false)))
  else
    .fail := by kernel_rfl

theorem e28 (G : Tbl)  (a0 : (Ty.D Po)) :
    runL G [] Try.f20 1000 (bod Try.f20) (entry [(TD.mk Po a0)]) =
  bif (a0.2.2.1 == 1) then
    .ret (.tv (I a0.2.2.2.1))
  else
    bif (a0.2.2.1 == 2) then
      bif (a0.2.2.1 == 2) then
        .ret (.tv (I (w (0 - a0.2.2.2.1))))
      else
        .ret (.tv (I 0))
    else
      bif (a0.2.2.1 == 3) then
        .ret (.tv (I (w (0 - a0.2.2.2.1))))
      else
        .ret (.tv (I 0)) := by kernel_rfl

theorem e24 (G : Tbl) (h29 : (Ty.D (.ptr (.slice (.cons (.int .i64) (.cons (.int .i64) (.cons (.int .i64) (.cons (.int .i64) (.nil)))))))) → (Ty.D (.ptr (.fn (.cons (.cons (.int .i64) (.cons (.int .i64) (.cons (.int .i64) (.cons (.int .i64) (.nil))))) (.nil)) (.bool)))) → Bool) (q29 : (Ty.D (.ptr (.slice (.cons (.int .i64) (.cons (.int .i64) (.cons (.int .i64) (.cons (.int .i64) (.nil)))))))) → (Ty.D (.ptr (.fn (.cons (.cons (.int .i64) (.cons (.int .i64) (.cons (.int .i64) (.cons (.int .i64) (.nil))))) (.nil)) (.bool)))) → List (Ty.D Po)) (a0 : (List (Ty.D Po))) (a1 : (Ty.D KD)) :
    runL (G.addS 29 (SC2 (.ptr (.slice (.cons (.int .i64) (.cons (.int .i64) (.cons (.int .i64) (.cons (.int .i64) (.nil))))))) (.ptr (.fn (.cons (.cons (.int .i64) (.cons (.int .i64) (.cons (.int .i64) (.cons (.int .i64) (.nil))))) (.nil)) (.bool))) h29 Po q29)) [] Try.f22 1000 (bod Try.f22) (entry [(TD.mk LP a0), (TD.mk KD a1)]) =
  bif (h29 (true, a0) (true, a1)) then
    .ret (.tv (TD.mk SD (true, q29 (true, a0) (true, a1))))
  else
    .fail := by kernel_rfl

noncomputable def K23 (b3 : Int) : St := ⟨[(3, .ptr 3 none [])], [(3, .var (I b3))]⟩
noncomputable def A23 : Code := (cAt Try.f21 [1, 1, 0, 1, 0, 0])
noncomputable def B23 : Code := (cAt Try.f21 [1, 1, 0, 1, 0, 1])
noncomputable def C23 : List Item := [.inBlock 0, .code (cAt Try.f21 [1, 1, 1])]
noncomputable def U23 (x : Ty.D Po) (b3 : Int) : St := ⟨[(3, .ptr 3 none []), (4, .ptr 4 none []), (6, .tv (TD.mk Po x))], [(3, .var (I b3)), (4, .var (TD.mk Po x))]⟩
theorem u23 (G : Tbl) (x : Ty.D Po) (b3 : Int) : runP (some [3]) G T Try.f21.ntmps [] (fun _ => []) 1000 [.code A23] ⟨ins 6 (.tv (TD.mk Po x)) (K23 b3).sl, (K23 b3).bx⟩ = .done (U23 x b3) := by kernel_rfl
theorem b23 (G : Tbl) (k28 : (Ty.D Po) → Bool) (r28 : (Ty.D Po) → Int) (x : Ty.D Po) (b3 : Int) : runP (some [3]) (G.add 20 (FC1 Po k28 (fun x0 => .tv (I (r28 x0))))) T Try.f21.ntmps [] (fun _ => []) 1000 [.code B23] (U23 x b3) =
  bif (k28 x) then
    .done ⟨[(3, .ptr 3 none []), (4, .ptr 4 none []), (6, .tv (TD.mk Po x)), (7, .tv (I b3)), (8, .tv (TD.mk Po x)), (9, .tv (I (r28 x))), (10, .tv (I (w (b3 + (r28 x)))))], [(3, .var (I (w (b3 + (r28 x))))), (4, .var (TD.mk Po x))]⟩
  else
    .fail := by kernel_rfl
theorem n23 (G : Tbl)  (b3 : Int) : runL G [(258, [3])] Try.f21 1000 C23 (K23 b3) =
  .ret (.tv (I b3)) := by kernel_rfl
theorem e23 (G : Tbl)  (a0 : (Ty.D SD)) :
    runL G [(258, [3])] Try.f21 1000 (bod Try.f21) (entry [(TD.mk SD a0)]) =
  .iter Po a0 [6] (cAt Try.f21 [1, 1, 0, 1, 0, 0]) (cAt Try.f21 [1, 1, 0, 1, 0, 1]) [.inBlock 0, .code (cAt Try.f21 [1, 1, 1])] ⟨[(3, .ptr 3 none [])], [(3, .var (I 0))]⟩ := by kernel_rfl

theorem e19 (G : Tbl) (k23 : (Ty.D SD) → Bool) (r23 : (Ty.D SD) → Int) (k24 : (List (Ty.D Po)) → (Ty.D KD) → Bool) (r24 : (List (Ty.D Po)) → (Ty.D KD) → (Ty.D SD)) (k25 : (Ty.D Po) → (Ty.D (.ptr (.int .i64))) → Bool) (r25 : (Ty.D Po) → (Ty.D (.ptr (.int .i64))) → Bool) (a0 : (List (Ty.D Po))) (a1 : Int) :
    runL (((G.add 21 (FC1 SD k23 (fun x0 => .tv (I (r23 x0))))).add 22 (FC2 LP KD k24 (fun x0 x1 => .tv (TD.mk SD (r24 x0 x1))))).add 23 (FC2 Po (.ptr (.int .i64)) k25 (fun x0 x1 => .tv (B (r25 x0 x1))))) [] Try.f11 1000 (bod Try.f11) (entry [(TD.mk LP a0), (I a1)]) =
  bif (k24 a0 (fun z => (k25 z.1 (true, a1), r25 z.1 (true, a1)))) then
    bif (k23 (r24 a0 (fun z => (k25 z.1 (true, a1), r25 z.1 (true, a1))))) then
      .ret (.tv (I (r23 (r24 a0 (fun z => (k25 z.1 (true, a1), r25 z.1 (true, a1)))))))
    else
      .fail
  else
    .fail := by kernel_rfl

noncomputable def K20 (b5 : Int) : St := ⟨[(5, .ptr 5 none [])], [(5, .var (I b5))]⟩
noncomputable def A20 : Code := (cAt Try.f13 [1, 1, 0, 1, 0, 0])
noncomputable def B20 : Code := (cAt Try.f13 [1, 1, 0, 1, 0, 1])
noncomputable def C20 : List Item := [.inBlock 0, .code (cAt Try.f13 [1, 1, 1])]
noncomputable def U20 (x : Ty.D Po) (b5 : Int) : St := ⟨[(5, .ptr 5 none []), (6, .ptr 6 none []), (10, .tv (TD.mk Po x))], [(5, .var (I b5)), (6, .var (TD.mk Po x))]⟩
theorem u20 (G : Tbl) (x : Ty.D Po) (b5 : Int) : runP (some [5]) G T Try.f13.ntmps [] (fun _ => []) 1000 [.code A20] ⟨ins 10 (.tv (TD.mk Po x)) (K20 b5).sl, (K20 b5).bx⟩ = .done (U20 x b5) := by kernel_rfl
theorem b20 (G : Tbl)  (x : Ty.D Po) (b5 : Int) : runP (some [5]) G T Try.f13.ntmps [] (fun _ => []) 1000 [.code B20] (U20 x b5) =
  .done ⟨[(5, .ptr 5 none []), (6, .ptr 6 none []), (10, .tv (TD.mk Po x)), (11, .tv (I b5)), (12, .ptr 6 none [3]), (13, .tv (I x.2.2.2.1)), (14, .tv (I (w (b5 + x.2.2.2.1))))], [(5, .var (I (w (b5 + x.2.2.2.1)))), (6, .var (TD.mk Po x))]⟩ := by kernel_rfl
theorem n20 (G : Tbl)  (b5 : Int) : runL G [(258, [5])] Try.f13 1000 C20 (K20 b5) =
  .ret (.tv (I b5)) := by kernel_rfl
theorem e20 (G : Tbl) (k24 : (List (Ty.D Po)) → (Ty.D KD) → Bool) (r24 : (List (Ty.D Po)) → (Ty.D KD) → (Ty.D SD)) (k26 : (Ty.D Po) → (Ty.D (.ptr (.int .i64))) → Bool) (r26 : (Ty.D Po) → (Ty.D (.ptr (.int .i64))) → Bool) (a0 : (List (Ty.D Po))) (a1 : Int) :
    runL ((G.add 22 (FC2 LP KD k24 (fun x0 x1 => .tv (TD.mk SD (r24 x0 x1))))).add 25 (FC2 Po (.ptr (.int .i64)) k26 (fun x0 x1 => .tv (B (r26 x0 x1))))) [(258, [5])] Try.f13 1000 (bod Try.f13) (entry [(TD.mk LP a0), (I a1)]) =
  bif (k24 a0 (fun z => (k26 z.1 (true, a1), r26 z.1 (true, a1)))) then
    .iter Po (r24 a0 (fun z => (k26 z.1 (true, a1), r26 z.1 (true, a1)))) [10] (cAt Try.f13 [1, 1, 0, 1, 0, 0]) (cAt Try.f13 [1, 1, 0, 1, 0, 1]) [.inBlock 0, .code (cAt Try.f13 [1, 1, 1])] ⟨[(5, .ptr 5 none [])], [(5, .var (I 0))]⟩
  else
    .fail := by kernel_rfl


theorem kp_mk (k p : Po.D → Bool) : kp (fun z => (k z.1, p z.1)) = p := rfl

noncomputable def posOK (a : (Ty.ptr LP).D) (b : (Ty.ptr KD).D) : Bool := a.1 && b.1 && decide (List.length a.2 ≤ 4611686018427387904) && List.all a.2 (fun x => (b.2 (x, ())).1)
theorem hasS_postings : HasS Try.prog T 29 (SC2 (.ptr LP) (.ptr KD) posOK Po (fun a b => List.filter (kp b.2) a.2)) := by
  refine HasS.two fun x y hk σ caps hc => ?_
  obtain ⟨b, l⟩ := x
  obtain ⟨b', φ⟩ := y
  simp only [posOK, Bool.and_eq_true, decide_eq_true_eq, List.all_eq_true] at hk
  obtain ⟨⟨⟨rfl, rfl⟩, h3⟩, h4⟩ := hk
  exact itSeq l φ h3 h4 σ caps hc

noncomputable def sgn (x : Po.D) : Int := bif (x.2.2.1 == 1) then x.2.2.2.1 else bif (x.2.2.1 == 2) then w (0 - x.2.2.2.1) else bif (x.2.2.1 == 3) then w (0 - x.2.2.2.1) else 0

theorem has_signed : Hs 20 (FC1 Po (fun _ => true) (fun x => .tv (I (sgn x)))) := by
  refine Has.fc1 env0 rfl (by kernel_rfl) (by kernel_rfl) (by kernel_rfl) fun x _ => .run1 (e28 _ x) ?_
  unfold sgn
  cases h1 : (x.2.2.1 == 1) with
  | true => exact .ret _
  | false =>
    cases h2 : (x.2.2.1 == 2) with
    | true => exact .ret _
    | false =>
      cases h3 : (x.2.2.1 == 3) with
      | true => exact .ret _
      | false => exact .ret _

theorem has_Rc : Hs 23 (FC2 Po (.ptr (.int .i64)) (fun _ a => a.1) (fun x a => .tv (B (x.2.1 == a.2)))) :=
  Has.fc2 env0 rfl (by kernel_rfl) (by kernel_rfl) (by kernel_rfl) fun x a h => .run1 (e25 _ x a) (by rw [h]; exact .ret _)
theorem has_Wc : Hs 25 (FC2 Po (.ptr (.int .i64)) (fun _ a => a.1) (fun x a => .tv (B (bif (x.2.1 == a.2) then (x.2.2.1 == 4) else false)))) :=
  Has.fc2 env0 rfl (by kernel_rfl) (by kernel_rfl) (by kernel_rfl) fun x a h => .run1 (e26 _ x a) (by rw [h]; exact .ret _)

noncomputable def postK (l : LP.D) (φ : KD.D) : Bool := decide (List.length l ≤ 4611686018427387904) && List.all l (fun x => (φ (x, ())).1)
theorem has_postings : Hs 22 (FC2 LP KD postK (fun l φ => .tv ⟨SD, (true, List.filter (kp φ) l)⟩)) := by
  refine Has.fc2 (env0.moreS hasS_postings) rfl (by kernel_rfl) (by kernel_rfl) (by kernel_rfl) fun l φ h => .run1 (e24 Tbl.none posOK (fun a b => List.filter (kp b.2) a.2) l φ) ?_
  rw [show posOK (true, l) (true, φ) = true by simpa [posOK, postK] using h]
  exact .ret _

noncomputable def sumS (l : List Po.D) : Int := l.foldl (fun s x => w (s + sgn x)) 0
noncomputable def sumC (l : List Po.D) : Int := l.foldl (fun s x => w (s + x.2.2.2.1)) 0

theorem has_received : Hs 21 (FC1 SD (fun L => L.1) (fun L => .tv (I (sumS L.2)))) := by
  refine Has.fc1 (env0.more has_signed) rfl (by kernel_rfl) (by kernel_rfl) (by kernel_rfl) fun L hL => .run1 (e23 _ L) ?_
  refine Goes.fold (ps := [3]) K23 (fun s x => w (s + sgn x)) 0 hL (Nat.le_of_ble_eq_true (by kernel_rfl)) rfl rfl rfl (fun i x hx => ?_) (.more 1000 _ _ _ _ (.of_eq (n23 _ _) (.ret _)))
  exact Round.go (u23 _ x _) (b23 _ (fun _ => true) sgn x _) rfl

noncomputable def smOK (l : LP.D) : Bool := lenOK (List.length l)
theorem smOK_le {l : LP.D} (h : smOK l = true) : decide (List.length l ≤ 4611686018427387904) = true := decide_eq_true (Nat.le_trans (of_decide_eq_true h : List.length l ≤ lenBound) (by decide))
theorem has_Received : Hs 11 (FC2 LP (.int .i64) (fun l _ => smOK l) (fun l m => .tv (I (sumS (List.filter (fun x : Po.D => x.2.1 == m) l))))) := by
  refine Has.fc2 (((env0.more has_received).more has_postings).more has_Rc) rfl (by kernel_rfl) (by kernel_rfl) (by kernel_rfl) fun l m h => .run1 (e19 Tbl.none (fun L => L.1) (fun L => sumS L.2) postK (fun l φ => (true, List.filter (kp φ) l)) (fun _ a => a.1) (fun x a => x.2.1 == a.2) l m) ?_
  rw [show postK l (fun z => (true, z.1.2.1 == m)) = true by simpa [postK] using smOK_le h]
  exact .ret _

theorem has_Waived : Hs 13 (FC2 LP (.int .i64) (fun l _ => smOK l) (fun l m => .tv (I (sumC (List.filter (fun x : Po.D => bif x.2.1 == m then x.2.2.1 == 4 else false) l))))) := by
  refine Has.fc2 ((env0.more has_postings).more has_Wc) rfl (by kernel_rfl) (by kernel_rfl) (by kernel_rfl) fun l m h => .run1 (e20 Tbl.none postK (fun l φ => (true, List.filter (kp φ) l)) (fun _ a => a.1) (fun x a => bif x.2.1 == a.2 then x.2.2.1 == 4 else false) l m) ?_
  rw [show postK l (fun z => (true, bif z.1.2.1 == m then z.1.2.2.1 == 4 else false)) = true by simpa [postK] using smOK_le h]
  simp only [cond_true]
  refine Goes.fold (ps := [5]) K20 (fun s x => w (s + x.2.2.2.1)) 0 rfl (Nat.le_of_ble_eq_true (by kernel_rfl)) rfl rfl rfl (fun i x hx => ?_) (.more 1000 _ _ _ _ (.of_eq (n20 _ _) (.ret _)))
  exact Round.go (u20 _ x _) (b20 _ x _) rfl
end Go.Lift.V37
set_option maxRecDepth 100000
set_option linter.unusedVariables false
set_option linter.unusedSimpArgs false
namespace Go.Lift.V37
open Go.Lift Go.Proofs

abbrev Aw : Ty := .cons (.int .i64) (.cons (.int .i64) (.cons (.int .i64) .nil))
abbrev LA : Ty := .slice Aw
theorem toNat_lt {i : Int} {n : Nat} (h0 : 0 ≤ i) (h : i < (n : Int)) : inB i n = true := by
  unfold inB; rw [decide_eq_true h0, decide_eq_true h]; rfl
theorem w_step {i : Int} {n : Nat} (h0 : 0 ≤ i) (h : i < (n : Int)) (hn : n ≤ lenBound) : w (i + 1) = i + 1 := by
  have : n ≤ 68719476736 := hn
  exact wrap_id (by omega) (by omega)
theorem lenOK_spec {n : Nat} (h : lenOK n = true) : n ≤ lenBound := of_decide_eq_true h
theorem drop_cons {α : Type} (l : List α) (z : α) (i : Nat) (h : i < l.length) : l.drop i = l.getD i z :: l.drop (i + 1) := by
  rw [List.drop_eq_getElem_cons h]
  simp [List.getD, List.getElem?_eq_getElem h]
theorem drop_end {α : Type} {l : List α} {i : Nat} (h : l.length ≤ i) : l.drop i = [] := List.drop_eq_nil_of_le h

/-! sums by month -/
noncomputable def inM (m : Int) (x : Po.D) : Bool := x.2.1 == m
noncomputable def waM (m : Int) (x : Po.D) : Bool := bif x.2.1 == m then x.2.2.1 == 4 else false
noncomputable def rcv (l : List Po.D) (m : Int) : Int := sumS (l.filter (inM m))
noncomputable def wvd (l : List Po.D) (m : Int) : Int := sumC (l.filter (waM m))
noncomputable def FRcv := FC2 LP (.int .i64) (fun l _ => smOK l) fun l m => .tv (I (rcv l m))
noncomputable def FWvd := FC2 LP (.int .i64) (fun l _ => smOK l) fun l m => .tv (I (wvd l m))
theorem e27 (G : Tbl)  (a0 : (Ty.D Po)) :
    runL G [] Try.f24 1000 (bod Try.f24) (entry [(TD.mk Po a0)]) =
  bif (a0.2.2.1 == 1) then
    .ret (.tv (I a0.2.2.2.1))
  else
    bif (a0.2.2.1 == 2) then
      bif (a0.2.2.1 == 2) then
        .ret (.tv (I (w (0 - a0.2.2.2.1))))
      else
        .ret (.tv (I 0))
    else
      bif (a0.2.2.1 == 3) then
        .ret (.tv (I (w (0 - a0.2.2.2.1))))
      else
        .ret (.tv (I 0)) := by kernel_rfl

noncomputable def M21 : Leaf := .loop (cAt Try.f12 [1, 1, 0, 1, 0, 0]) [.inBlock 0, .code (cAt Try.f12 [1, 1, 1])] ⟨[], []⟩
def S21 (s0 : (List (Ty.D Po))) (s1 : Int) (s5 : Int) (s6 : Int) : St := ⟨[(0, .tv (TD.mk LP s0)), (1, .tv (I s1)), (5, .tv (I s5)), (6, .tv (I s6))], []⟩
theorem i21 (G : Tbl) (k27 : (Ty.D Po) → Bool) (r27 : (Ty.D Po) → Int) (s0 : (List (Ty.D Po))) (s1 : Int) (s5 : Int) (s6 : Int) :
    runL (G.add 24 (FC1 Po k27 (fun x0 => .tv (I (r27 x0))))) [(194, [0, 1, 5, 6])] Try.f12 1000 M21.round (S21 s0 s1 s5 s6) =
  bif (decide (s6 < ((List.length s0 : Nat) : Int))) then
    bif (inB s6 (List.length s0)) then
      bif ((((List.getD s0 (Int.toNat s6) (0, 0, 0, 0, ()))).2.1) == s1) then
        bif (inB s6 (List.length s0)) then
          bif (k27 (List.getD s0 (Int.toNat s6) (0, 0, 0, 0, ()))) then
            .loop M21.body M21.kont (S21 s0 s1 (w (s5 + (r27 (List.getD s0 (Int.toNat s6) (0, 0, 0, 0, ()))))) (w (s6 + 1)))
          else
            .fail
        else
          .fail
      else
        .loop M21.body M21.kont (S21 s0 s1 s5 (w (s6 + 1)))
    else
      .fail
  else
    .ret (.tv (I s5)) := by kernel_rfl
theorem e21 (G : Tbl) (k27 : (Ty.D Po) → Bool) (r27 : (Ty.D Po) → Int) (a0 : (List (Ty.D Po))) (a1 : Int) :
    runL (G.add 24 (FC1 Po k27 (fun x0 => .tv (I (r27 x0))))) [(194, [0, 1, 5, 6])] Try.f12 1000 (bod Try.f12) (entry [(TD.mk LP a0), (I a1)]) =
  .loop M21.body M21.kont (S21 a0 a1 0 0) := by kernel_rfl

noncomputable def M22 : Leaf := .loop (cAt Try.f14 [1, 1, 0, 1, 0, 0]) [.inBlock 0, .code (cAt Try.f14 [1, 1, 1])] ⟨[], []⟩
def S22 (s0 : (List (Ty.D Po))) (s1 : Int) (s5 : Int) (s6 : Int) : St := ⟨[(0, .tv (TD.mk LP s0)), (1, .tv (I s1)), (5, .tv (I s5)), (6, .tv (I s6))], []⟩
theorem i22 (G : Tbl)  (s0 : (List (Ty.D Po))) (s1 : Int) (s5 : Int) (s6 : Int) :
    runL G [(194, [0, 1, 5, 6])] Try.f14 1000 M22.round (S22 s0 s1 s5 s6) =
  bif (decide (s6 < ((List.length s0 : Nat) : Int))) then
    bif (inB s6 (List.length s0)) then
      bif ((inB s6 (List.length s0)) || (!((((List.getD s0 (Int.toNat s6) (0, 0, 0, 0, ()))).2.1) == s1))) then
        bif (bif ((((List.getD s0 (Int.toNat s6) (0, 0, 0, 0, ()))).2.1) == s1) then ((((List.getD s0 (Int.toNat s6) (0, 0, 0, 0, ()))).2.2.1) == 4) else false) then
          bif (inB s6 (List.length s0)) then
            .loop M22.body M22.kont (S22 s0 s1 (w (s5 + (((List.getD s0 (Int.toNat s6) (0, 0, 0, 0, ()))).2.2.2.1))) (w (s6 + 1)))
          else
            .fail
        else
          .loop M22.body M22.kont (S22 s0 s1 s5 (w (s6 + 1)))
      else
        .fail
    else
      .fail
  else
    .ret (.tv (I s5)) := by kernel_rfl
theorem e22 (G : Tbl)  (a0 : (List (Ty.D Po))) (a1 : Int) :
    runL G [(194, [0, 1, 5, 6])] Try.f14 1000 (bod Try.f14) (entry [(TD.mk LP a0), (I a1)]) =
  .loop M22.body M22.kont (S22 a0 a1 0 0) := by kernel_rfl

theorem has_signed37 : Hs 24 (FC1 Po (fun _ => true) (fun x => .tv (I (sgn x)))) := by
  refine Has.fc1 env0 rfl (by kernel_rfl) (by kernel_rfl) (by kernel_rfl) fun x _ => .run1 (e27 _ x) ?_
  unfold sgn
  cases h1 : (x.2.2.1 == 1) with
  | true => exact .ret _
  | false =>
    cases h2 : (x.2.2.1 == 2) with
    | true => exact .ret _
    | false =>
      cases h3 : (x.2.2.1 == 3) with
      | true => exact .ret _
      | false => exact .ret _

noncomputable def G21 : Tbl := Tbl.none.add 24 (FC1 Po (fun _ => true) (fun x => .tv (I (sgn x))))
theorem loop21 (l : List Po.D) (m : Int) (hl : l.length ≤ lenBound) : ∀ (k : Nat) (i : Nat) (s : Int), i + k = l.length →
    Goes G21 T Try.f12.ntmps Try.f12.results.toList (.loop M21.body M21.kont (S21 l m s i)) (.tv (I (((l.drop i).filter (inM m)).foldl (fun s x => w (s + sgn x)) s)))
  | 0, i, s, h => by
    refine Goes.lp' (i21 Tbl.none (fun _ => true) sgn l m s i) ?_
    rw [decide_eq_false (show ¬ (i : Int) < ((l.length : Nat) : Int) by omega), drop_end (by omega)]
    exact .ret _
  | k + 1, i, s, h => by
    refine Goes.lp' (i21 Tbl.none (fun _ => true) sgn l m s i) ?_
    have hi : (i : Int) < ((l.length : Nat) : Int) := by omega
    rw [decide_eq_true hi, cond_true, toNat_lt (by omega) hi, cond_true, w_step (by omega) hi hl, Int.toNat_natCast, drop_cons l (0, 0, 0, 0, ()) i (by omega)]
    generalize l.getD i (0, 0, 0, 0, ()) = b
    cases hb : (b.2.1 == m) with
    | true =>
      rw [List.filter_cons_of_pos (by exact hb)]
      exact loop21 l m hl k (i + 1) _ (by omega)
    | false =>
      rw [List.filter_cons_of_neg (by simp [inM, hb])]
      exact loop21 l m hl k (i + 1) _ (by omega)
theorem has_Received37 : Hs 12 FRcv :=
  Has.fc2 (fn := Try.f12) (env0.more has_signed37) (by kernel_rfl) (by kernel_rfl) (by kernel_rfl) (by kernel_rfl) fun l m h => .run1 (e21 Tbl.none (fun _ => true) sgn l m) (loop21 l m (lenOK_spec h) l.length 0 0 (by omega))

theorem loop22 (l : List Po.D) (m : Int) (hl : l.length ≤ lenBound) : ∀ (k : Nat) (i : Nat) (s : Int), i + k = l.length →
    Goes Tbl.none T Try.f14.ntmps Try.f14.results.toList (.loop M22.body M22.kont (S22 l m s i)) (.tv (I (((l.drop i).filter (waM m)).foldl (fun s x => w (s + x.2.2.2.1)) s)))
  | 0, i, s, h => by
    refine Goes.lp' (i22 Tbl.none l m s i) ?_
    rw [decide_eq_false (show ¬ (i : Int) < ((l.length : Nat) : Int) by omega), drop_end (by omega)]
    exact .ret _
  | k + 1, i, s, h => by
    refine Goes.lp' (i22 Tbl.none l m s i) ?_
    have hi : (i : Int) < ((l.length : Nat) : Int) := by omega
    rw [decide_eq_true hi, cond_true, toNat_lt (by omega) hi, cond_true, Bool.true_or, cond_true, w_step (by omega) hi hl, Int.toNat_natCast, drop_cons l (0, 0, 0, 0, ()) i (by omega)]
    generalize l.getD i (0, 0, 0, 0, ()) = b
    cases hb : (bif b.2.1 == m then b.2.2.1 == 4 else false) with
    | true =>
      rw [List.filter_cons_of_pos (by exact hb)]
      exact loop22 l m hl k (i + 1) _ (by omega)
    | false =>
      rw [List.filter_cons_of_neg (by unfold waM; rw [hb]; simp)]
      exact loop22 l m hl k (i + 1) _ (by omega)
theorem has_Waived37 : Hs 14 FWvd :=
  Has.fc2 (fn := Try.f14) env0 (by kernel_rfl) (by kernel_rfl) (by kernel_rfl) (by kernel_rfl) fun l m h => .run1 (e22 Tbl.none l m) (loop22 l m (lenOK_spec h) l.length 0 0 (by omega))
end Go.Lift.V37
