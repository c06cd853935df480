/- A part of the proof that the law returns true for every input: no condition. -/
import Derived.Test.YteohihdkpnbcdabI
set_option maxRecDepth 100000
set_option linter.unusedVariables false
namespace Go.Lift.V38
open Go.Lift Go.Proofs

abbrev KD : Ty := .fn (.cons Po .nil) .bool
abbrev SD : Ty := .seq Po
abbrev LP : Ty := .slice Po
theorem e25 (G : Tbl)  (a0 : (Ty.D Po)) (a1 : (Ty.D (.ptr (.int .i64)))) :
    runL G [] Try.f25 1000 (bod Try.f25) (entry [(TD.mk Po a0), (TD.mk (.ptr (.int .i64)) a1)]) =
  bif a1.1 then
    .ret (.tv (B (a0.2.1 == a1.2)))
  else
    .fail := by kernel_rfl

theorem e26 (G : Tbl)  (a0 : (Ty.D Po)) (a1 : (Ty.D (.ptr (.int .i64)))) :
    runL G [] Try.f26 1000 (bod Try.f26) (entry [(TD.mk Po a0), (TD.mk (.ptr (.int .i64)) a1)]) =
  bif a1.1 then
    .ret (.tv (B (bif (a0.2.1 == a1.2) then (a0.2.2.1 == 4) else false)))
  else
    .fail := by kernel_rfl

theorem e28 (G : Tbl)  (a0 : (Ty.D Po)) :
    runL G [] Try.f28 1000 (bod Try.f28) (entry [(TD.mk Po a0)]) =
  bif (a0.2.2.1 == 1) then
    .ret (.tv (I a0.2.2.2.1))
  else
    bif (a0.2.2.1 == 2) then
      bif (a0.2.2.1 == 2) then
        .ret (.tv (I (w (0 - a0.2.2.2.1))))
      else
        .ret (.tv (I 0))
    else
      bif (a0.2.2.1 == 3) then
        .ret (.tv (I (w (0 - a0.2.2.2.1))))
      else
        .ret (.tv (I 0)) := by kernel_rfl

theorem e24 (G : Tbl) (h29 : (Ty.D (.ptr (.slice (.cons (.int .i64) (.cons (.int .i64) (.cons (.int .i64) (.cons (.int .i64) (.nil)))))))) → (Ty.D (.ptr (.fn (.cons (.cons (.int .i64) (.cons (.int .i64) (.cons (.int .i64) (.cons (.int .i64) (.nil))))) (.nil)) (.bool)))) → Bool) (q29 : (Ty.D (.ptr (.slice (.cons (.int .i64) (.cons (.int .i64) (.cons (.int .i64) (.cons (.int .i64) (.nil)))))))) → (Ty.D (.ptr (.fn (.cons (.cons (.int .i64) (.cons (.int .i64) (.cons (.int .i64) (.cons (.int .i64) (.nil))))) (.nil)) (.bool)))) → List (Ty.D Po)) (a0 : (List (Ty.D Po))) (a1 : (Ty.D KD)) :
    runL (G.addS 29 (SC2 (.ptr (.slice (.cons (.int .i64) (.cons (.int .i64) (.cons (.int .i64) (.cons (.int .i64) (.nil))))))) (.ptr (.fn (.cons (.cons (.int .i64) (.cons (.int .i64) (.cons (.int .i64) (.cons (.int .i64) (.nil))))) (.nil)) (.bool))) h29 Po q29)) [] Try.f24 1000 (bod Try.f24) (entry [(TD.mk LP a0), (TD.mk KD a1)]) =
  bif (h29 (true, a0) (true, a1)) then
    .ret (.tv (TD.mk SD (true, q29 (true, a0) (true, a1))))
  else
    .fail := by kernel_rfl

noncomputable def K23 (b3 : Int) : St := ⟨[(3, .ptr 3 none [])], [(3, .var (I b3))]⟩
noncomputable def A23 : Code := (cAt Try.f23 [1, 1, 0, 1, 0, 0])
noncomputable def B23 : Code := (cAt Try.f23 [1, 1, 0, 1, 0, 1])
noncomputable def C23 : List Item := [.inBlock 0, .code (cAt Try.f23 [1, 1, 1])]
noncomputable def U23 (x : Ty.D Po) (b3 : Int) : St := ⟨[(3, .ptr 3 none []), (4, .ptr 4 none []), (6, .tv (TD.mk Po x))], [(3, .var (I b3)), (4, .var (TD.mk Po x))]⟩
theorem u23 (G : Tbl) (x : Ty.D Po) (b3 : Int) : runP (some [3]) G T Try.f23.ntmps [] (fun _ => []) 1000 [.code A23] ⟨ins 6 (.tv (TD.mk Po x)) (K23 b3).sl, (K23 b3).bx⟩ = .done (U23 x b3) := by kernel_rfl
theorem b23 (G : Tbl) (k28 : (Ty.D Po) → Bool) (r28 : (Ty.D Po) → Int) (x : Ty.D Po) (b3 : Int) : runP (some [3]) (G.add 28 (FC1 Po k28 (fun x0 => .tv (I (r28 x0))))) T Try.f23.ntmps [] (fun _ => []) 1000 [.code B23] (U23 x b3) =
  bif (k28 x) then
    .done ⟨[(3, .ptr 3 none []), (4, .ptr 4 none []), (6, .tv (TD.mk Po x)), (7, .tv (I b3)), (8, .tv (TD.mk Po x)), (9, .tv (I (r28 x))), (10, .tv (I (w (b3 + (r28 x)))))], [(3, .var (I (w (b3 + (r28 x))))), (4, .var (TD.mk Po x))]⟩
  else
    .fail := by kernel_rfl
theorem n23 (G : Tbl)  (b3 : Int) : runL G [(258, [3])] Try.f23 1000 C23 (K23 b3) =
  .ret (.tv (I b3)) := by kernel_rfl
theorem e23 (G : Tbl)  (a0 : (Ty.D SD)) :
    runL G [(258, [3])] Try.f23 1000 (bod Try.f23) (entry [(TD.mk SD a0)]) =
  .iter Po a0 [6] (cAt Try.f23 [1, 1, 0, 1, 0, 0]) (cAt Try.f23 [1, 1, 0, 1, 0, 1]) [.inBlock 0, .code (cAt Try.f23 [1, 1, 1])] ⟨[(3, .ptr 3 none [])], [(3, .var (I 0))]⟩ := by kernel_rfl

theorem e19 (G : Tbl) (k23 : (Ty.D SD) → Bool) (r23 : (Ty.D SD) → Int) (k24 : (List (Ty.D Po)) → (Ty.D KD) → Bool) (r24 : (List (Ty.D Po)) → (Ty.D KD) → (Ty.D SD)) (k25 : (Ty.D Po) → (Ty.D (.ptr (.int .i64))) → Bool) (r25 : (Ty.D Po) → (Ty.D (.ptr (.int .i64))) → Bool) (a0 : (List (Ty.D Po))) (a1 : Int) :
    runL (((G.add 23 (FC1 SD k23 (fun x0 => .tv (I (r23 x0))))).add 24 (FC2 LP KD k24 (fun x0 x1 => .tv (TD.mk SD (r24 x0 x1))))).add 25 (FC2 Po (.ptr (.int .i64)) k25 (fun x0 x1 => .tv (B (r25 x0 x1))))) [] Try.f19 1000 (bod Try.f19) (entry [(TD.mk LP a0), (I a1)]) =
  bif (k24 a0 (fun z => (k25 z.1 (true, a1), r25 z.1 (true, a1)))) then
    bif (k23 (r24 a0 (fun z => (k25 z.1 (true, a1), r25 z.1 (true, a1))))) then
      .ret (.tv (I (r23 (r24 a0 (fun z => (k25 z.1 (true, a1), r25 z.1 (true, a1)))))))
    else
      .fail
  else
    .fail := by kernel_rfl

noncomputable def K20 (b5 : Int) : St := ⟨[(5, .ptr 5 none [])], [(5, .var (I b5))]⟩
noncomputable def A20 : Code := (cAt Try.f20 [1, 1, 0, 1, 0, 0])
noncomputable def B20 : Code := (cAt Try.f20 [1, 1, 0, 1, 0, 1])
noncomputable def C20 : List Item := [.inBlock 0, .code (cAt Try.f20 [1, 1, 1])]
noncomputable def U20 (x : Ty.D Po) (b5 : Int) : St := ⟨[(5, .ptr 5 none []), (6, .ptr 6 none []), (10, .tv (TD.mk Po x))], [(5, .var (I b5)), (6, .var (TD.mk Po x))]⟩
theorem u20 (G : Tbl) (x : Ty.D Po) (b5 : Int) : runP (some [5]) G T Try.f20.ntmps [] (fun _ => []) 1000 [.code A20] ⟨ins 10 (.tv (TD.mk Po x)) (K20 b5).sl, (K20 b5).bx⟩ = .done (U20 x b5) := by kernel_rfl
theorem b20 (G : Tbl)  (x : Ty.D Po) (b5 : Int) : runP (some [5]) G T Try.f20.ntmps [] (fun _ => []) 1000 [.code B20] (U20 x b5) =
  .done ⟨[(5, .ptr 5 none []), (6, .ptr 6 none []), (10, .tv (TD.mk Po x)), (11, .tv (I b5)), (12, .ptr 6 none [3]), (13, .tv (I x.2.2.2.1)), (14, .tv (I (w (b5 + x.2.2.2.1))))], [(5, .var (I (w (b5 + x.2.2.2.1)))), (6, .var (TD.mk Po x))]⟩ := by kernel_rfl
theorem n20 (G : Tbl)  (b5 : Int) : runL G [(258, [5])] Try.f20 1000 C20 (K20 b5) =
  .ret (.tv (I b5)) := by kernel_rfl
theorem e20 (G : Tbl) (k24 : (List (Ty.D Po)) → (Ty.D KD) → Bool) (r24 : (List (Ty.D Po)) → (Ty.D KD) → (Ty.D SD)) (k26 : (Ty.D Po) → (Ty.D (.ptr (.int .i64))) → Bool) (r26 : (Ty.D Po) → (Ty.D (.ptr (.int .i64))) → Bool) (a0 : (List (Ty.D Po))) (a1 : Int) :
    runL ((G.add 24 (FC2 LP KD k24 (fun x0 x1 => .tv (TD.mk SD (r24 x0 x1))))).add 26 (FC2 Po (.ptr (.int .i64)) k26 (fun x0 x1 => .tv (B (r26 x0 x1))))) [(258, [5])] Try.f20 1000 (bod Try.f20) (entry [(TD.mk LP a0), (I a1)]) =
  bif (k24 a0 (fun z => (k26 z.1 (true, a1), r26 z.1 (true, a1)))) then
    .iter Po (r24 a0 (fun z => (k26 z.1 (true, a1), r26 z.1 (true, a1)))) [10] (cAt Try.f20 [1, 1, 0, 1, 0, 0]) (cAt Try.f20 [1, 1, 0, 1, 0, 1]) [.inBlock 0, .code (cAt Try.f20 [1, 1, 1])] ⟨[(5, .ptr 5 none [])], [(5, .var (I 0))]⟩
  else
    .fail := by kernel_rfl


theorem kp_mk (k p : Po.D → Bool) : kp (fun z => (k z.1, p z.1)) = p := rfl

noncomputable def posOK (a : (Ty.ptr LP).D) (b : (Ty.ptr KD).D) : Bool := a.1 && b.1 && decide (List.length a.2 ≤ 4611686018427387904) && List.all a.2 (fun x => (b.2 (x, ())).1)
theorem hasS_postings : HasS Try.prog T 29 (SC2 (.ptr LP) (.ptr KD) posOK Po (fun a b => List.filter (kp b.2) a.2)) := by
  refine HasS.two fun x y hk σ caps hc => ?_
  obtain ⟨b, l⟩ := x
  obtain ⟨b', φ⟩ := y
  simp only [posOK, Bool.and_eq_true, decide_eq_true_eq, List.all_eq_true] at hk
  obtain ⟨⟨⟨rfl, rfl⟩, h3⟩, h4⟩ := hk
  exact itSeq l φ h3 h4 σ caps hc

noncomputable def sgn (x : Po.D) : Int := bif (x.2.2.1 == 1) then x.2.2.2.1 else bif (x.2.2.1 == 2) then w (0 - x.2.2.2.1) else bif (x.2.2.1 == 3) then w (0 - x.2.2.2.1) else 0

theorem has_signed : Hs 28 (FC1 Po (fun _ => true) (fun x => .tv (I (sgn x)))) := by
  refine Has.fc1 env0 rfl (by kernel_rfl) (by kernel_rfl) (by kernel_rfl) fun x _ => .run1 (e28 _ x) ?_
  unfold sgn
  cases h1 : (x.2.2.1 == 1) with
  | true => exact .ret _
  | false =>
    cases h2 : (x.2.2.1 == 2) with
    | true => exact .ret _
    | false =>
      cases h3 : (x.2.2.1 == 3) with
      | true => exact .ret _
      | false => exact .ret _

theorem has_Rc : Hs 25 (FC2 Po (.ptr (.int .i64)) (fun _ a => a.1) (fun x a => .tv (B (x.2.1 == a.2)))) :=
  Has.fc2 env0 rfl (by kernel_rfl) (by kernel_rfl) (by kernel_rfl) fun x a h => .run1 (e25 _ x a) (by rw [h]; exact .ret _)
theorem has_Wc : Hs 26 (FC2 Po (.ptr (.int .i64)) (fun _ a => a.1) (fun x a => .tv (B (bif (x.2.1 == a.2) then (x.2.2.1 == 4) else false)))) :=
  Has.fc2 env0 rfl (by kernel_rfl) (by kernel_rfl) (by kernel_rfl) fun x a h => .run1 (e26 _ x a) (by rw [h]; exact .ret _)

noncomputable def postK (l : LP.D) (φ : KD.D) : Bool := decide (List.length l ≤ 4611686018427387904) && List.all l (fun x => (φ (x, ())).1)
theorem has_postings : Hs 24 (FC2 LP KD postK (fun l φ => .tv ⟨SD, (true, List.filter (kp φ) l)⟩)) := by
  refine Has.fc2 (env0.moreS hasS_postings) rfl (by kernel_rfl) (by kernel_rfl) (by kernel_rfl) fun l φ h => .run1 (e24 Tbl.none posOK (fun a b => List.filter (kp b.2) a.2) l φ) ?_
  rw [show posOK (true, l) (true, φ) = true by simpa [posOK, postK] using h]
  exact .ret _

noncomputable def sumS (l : List Po.D) : Int := l.foldl (fun s x => w (s + sgn x)) 0
noncomputable def sumC (l : List Po.D) : Int := l.foldl (fun s x => w (s + x.2.2.2.1)) 0

theorem has_received : Hs 23 (FC1 SD (fun L => L.1) (fun L => .tv (I (sumS L.2)))) := by
  refine Has.fc1 (env0.more has_signed) rfl (by kernel_rfl) (by kernel_rfl) (by kernel_rfl) fun L hL => .run1 (e23 _ L) ?_
  refine Goes.fold (ps := [3]) K23 (fun s x => w (s + sgn x)) 0 hL (Nat.le_of_ble_eq_true (by kernel_rfl)) rfl rfl rfl (fun i x hx => ?_) (.more 1000 _ _ _ _ (.of_eq (n23 _ _) (.ret _)))
  exact Round.go (u23 _ x _) (b23 _ (fun _ => true) sgn x _) rfl

noncomputable def smOK (l : LP.D) : Bool := lenOK (List.length l)
theorem smOK_le {l : LP.D} (h : smOK l = true) : decide (List.length l ≤ 4611686018427387904) = true := decide_eq_true (Nat.le_trans (of_decide_eq_true h : List.length l ≤ lenBound) (by decide))
theorem has_Received : Hs 19 (FC2 LP (.int .i64) (fun l _ => smOK l) (fun l m => .tv (I (sumS (List.filter (fun x : Po.D => x.2.1 == m) l))))) := by
  refine Has.fc2 (((env0.more has_received).more has_postings).more has_Rc) rfl (by kernel_rfl) (by kernel_rfl) (by kernel_rfl) fun l m h => .run1 (e19 Tbl.none (fun L => L.1) (fun L => sumS L.2) postK (fun l φ => (true, List.filter (kp φ) l)) (fun _ a => a.1) (fun x a => x.2.1 == a.2) l m) ?_
  rw [show postK l (fun z => (true, z.1.2.1 == m)) = true by simpa [postK] using smOK_le h]
  exact .ret _

theorem has_Waived : Hs 20 (FC2 LP (.int .i64) (fun l _ => smOK l) (fun l m => .tv (I (sumC (List.filter (fun x : Po.D => bif x.2.1 == m then x.2.2.1 == 4 else false) l))))) := by
  refine Has.fc2 ((env0.more has_postings).more has_Wc) rfl (by kernel_rfl) (by kernel_rfl) (by kernel_rfl) fun l m h => .run1 (e20 Tbl.none postK (fun l φ => (true, List.filter (kp φ) l)) (fun _ a => a.1) (fun x a => bif x.2.1 == a.2 then x.2.2.1 == 4 else false) l m) ?_
  rw [show postK l (fun z => (true, bif z.1.2.1 == m then z.1.2.2.1 == 4 else false)) = true by simpa [postK] using smOK_le h]
  simp only [cond_true]
  refine Goes.fold (ps := [5]) K20 (fun s x => w (s + x.2.2.2.1)) 0 rfl (Nat.le_of_ble_eq_true (by kernel_rfl)) rfl rfl rfl (fun i x hx => ?_) (.more 1000 _ _ _ _ (.of_eq (n20 _ _) (.ret _)))
  exact Round.go (u20 _ x _) (b20 _ x _) rfl
end Go.Lift.V38
set_option maxRecDepth 100000
set_option linter.unusedVariables false
set_option linter.unusedSimpArgs false
namespace Go.Lift.V38
open Go.Lift Go.Proofs

abbrev Aw : Ty := .cons (.int .i64) (.cons (.int .i64) (.cons (.int .i64) .nil))
abbrev LA : Ty := .slice Aw
theorem toNat_lt {i : Int} {n : Nat} (h0 : 0 ≤ i) (h : i < (n : Int)) : inB i n = true := by
  unfold inB; rw [decide_eq_true h0, decide_eq_true h]; rfl
theorem w_step {i : Int} {n : Nat} (h0 : 0 ≤ i) (h : i < (n : Int)) (hn : n ≤ lenBound) : w (i + 1) = i + 1 := by
  have : n ≤ 68719476736 := hn
  exact wrap_id (by omega) (by omega)
theorem lenOK_spec {n : Nat} (h : lenOK n = true) : n ≤ lenBound := of_decide_eq_true h
theorem drop_cons {α : Type} (l : List α) (z : α) (i : Nat) (h : i < l.length) : l.drop i = l.getD i z :: l.drop (i + 1) := by
  rw [List.drop_eq_getElem_cons h]
  simp [List.getD, List.getElem?_eq_getElem h]
theorem drop_end {α : Type} {l : List α} {i : Nat} (h : l.length ≤ i) : l.drop i = [] := List.drop_eq_nil_of_le h

/-! sums by month -/
noncomputable def inM (m : Int) (x : Po.D) : Bool := x.2.1 == m
noncomputable def waM (m : Int) (x : Po.D) : Bool := bif x.2.1 == m then x.2.2.1 == 4 else false
noncomputable def rcv (l : List Po.D) (m : Int) : Int := sumS (l.filter (inM m))
noncomputable def wvd (l : List Po.D) (m : Int) : Int := sumC (l.filter (waM m))
noncomputable def FRcv := FC2 LP (.int .i64) (fun l _ => smOK l) fun l m => .tv (I (rcv l m))
noncomputable def FWvd := FC2 LP (.int .i64) (fun l _ => smOK l) fun l m => .tv (I (wvd l m))
theorem e27 (G : Tbl)  (a0 : (Ty.D Po)) :
    runL G [] Try.f27 1000 (bod Try.f27) (entry [(TD.mk Po a0)]) =
  bif (a0.2.2.1 == 1) then
    .ret (.tv (I a0.2.2.2.1))
  else
    bif (a0.2.2.1 == 2) then
      bif (a0.2.2.1 == 2) then
        .ret (.tv (I (w (0 - a0.2.2.2.1))))
      else
        .ret (.tv (I 0))
    else
      bif (a0.2.2.1 == 3) then
        .ret (.tv (I (w (0 - a0.2.2.2.1))))
      else
        .ret (.tv (I 0)) := by kernel_rfl

noncomputable def M21 : Leaf := .loop (cAt Try.f21 [1, 1, 0, 1, 0, 0]) [.inBlock 0, .code (cAt Try.f21 [1, 1, 1])] ⟨[], []⟩
def S21 (s0 : (List (Ty.D Po))) (s1 : Int) (s5 : Int) (s6 : Int) : St := ⟨[(0, .tv (TD.mk LP s0)), (1, .tv (I s1)), (5, .tv (I s5)), (6, .tv (I s6))], []⟩
theorem i21 (G : Tbl) (k27 : (Ty.D Po) → Bool) (r27 : (Ty.D Po) → Int) (s0 : (List (Ty.D Po))) (s1 : Int) (s5 : Int) (s6 : Int) :
    runL (G.add 27 (FC1 Po k27 (fun x0 => .tv (I (r27 x0))))) [(194, [0, 1, 5, 6])] Try.f21 1000 M21.round (S21 s0 s1 s5 s6) =
  bif (decide (s6 < ((List.length s0 : Nat) : Int))) then
    bif (inB s6 (List.length s0)) then
      bif ((((List.getD s0 (Int.toNat s6) (0, 0, 0, 0, ()))).2.1) == s1) then
        bif (inB s6 (List.length s0)) then
          bif (k27 (List.getD s0 (Int.toNat s6) (0, 0, 0, 0, ()))) then
            .loop M21.body M21.kont (S21 s0 s1 (w (s5 + (r27 (List.getD s0 (Int.toNat s6) (0, 0, 0, 0, ()))))) (w (s6 + 1)))
          else
            .fail
        else
          .fail
      else
        .loop M21.body M21.kont (S21 s0 s1 s5 (w (s6 + 1)))
    else
      .fail
  else
    .ret (.tv (I s5)) := by kernel_rfl
theorem e21 (G : Tbl) (k27 : (Ty.D Po) → Bool) (r27 : (Ty.D Po) → Int) (a0 : (List (Ty.D Po))) (a1 : Int) :
    runL (G.add 27 (FC1 Po k27 (fun x0 => .tv (I (r27 x0))))) [(194, [0, 1, 5, 6])] Try.f21 1000 (bod Try.f21) (entry [(TD.mk LP a0), (I a1)]) =
  .loop M21.body M21.kont (S21 a0 a1 0 0) := by kernel_rfl

noncomputable def M22 : Leaf := .loop (cAt Try.f22 [1, 1, 0, 1, 0, 0]) [.inBlock 0, .code (cAt Try.f22 [1, 1, 1])] ⟨[], []⟩
def S22 (s0 : (List (Ty.D Po))) (s1 : Int) (s5 : Int) (s6 : Int) : St := ⟨[(0, .tv (TD.mk LP s0)), (1, .tv (I s1)), (5, .tv (I s5)), (6, .tv (I s6))], []⟩
theorem i22 (G : Tbl)  (s0 : (List (Ty.D Po))) (s1 : Int) (s5 : Int) (s6 : Int) :
    runL G [(194, [0, 1, 5, 6])] Try.f22 1000 M22.round (S22 s0 s1 s5 s6) =
  bif (decide (s6 < ((List.length s0 : Nat) : Int))) then
    bif (inB s6 (List.length s0)) then
      bif ((inB s6 (List.length s0)) || (!((((List.getD s0 (Int.toNat s6) (0, 0, 0, 0, ()))).2.1) == s1))) then
        bif (bif ((((List.getD s0 (Int.toNat s6) (0, 0, 0, 0, ()))).2.1) == s1) then ((((List.getD s0 (Int.toNat s6) (0, 0, 0, 0, ()))).2.2.1) == 4) else false) then
          bif (inB s6 (List.length s0)) then
            .loop M22.body M22.kont (S22 s0 s1 (w (s5 + (((List.getD s0 (Int.toNat s6) (0, 0, 0, 0, ()))).2.2.2.1))) (w (s6 + 1)))
          else
            .fail
        else
          .loop M22.body M22.kont (S22 s0 s1 s5 (w (s6 + 1)))
      else
        .fail
    else
      .fail
  else
    .ret (.tv (I s5)) := by kernel_rfl
theorem e22 (G : Tbl)  (a0 : (List (Ty.D Po))) (a1 : Int) :
    runL G [(194, [0, 1, 5, 6])] Try.f22 1000 (bod Try.f22) (entry [(TD.mk LP a0), (I a1)]) =
  .loop M22.body M22.kont (S22 a0 a1 0 0) := by kernel_rfl

theorem has_signed37 : Hs 27 (FC1 Po (fun _ => true) (fun x => .tv (I (sgn x)))) := by
  refine Has.fc1 env0 rfl (by kernel_rfl) (by kernel_rfl) (by kernel_rfl) fun x _ => .run1 (e27 _ x) ?_
  unfold sgn
  cases h1 : (x.2.2.1 == 1) with
  | true => exact .ret _
  | false =>
    cases h2 : (x.2.2.1 == 2) with
    | true => exact .ret _
    | false =>
      cases h3 : (x.2.2.1 == 3) with
      | true => exact .ret _
      | false => exact .ret _

noncomputable def G21 : Tbl := Tbl.none.add 27 (FC1 Po (fun _ => true) (fun x => .tv (I (sgn x))))
theorem loop21 (l : List Po.D) (m : Int) (hl : l.length ≤ lenBound) : ∀ (k : Nat) (i : Nat) (s : Int), i + k = l.length →
    Goes G21 T Try.f21.ntmps Try.f21.results.toList (.loop M21.body M21.kont (S21 l m s i)) (.tv (I (((l.drop i).filter (inM m)).foldl (fun s x => w (s + sgn x)) s)))
  | 0, i, s, h => by
    refine Goes.lp' (i21 Tbl.none (fun _ => true) sgn l m s i) ?_
    rw [decide_eq_false (show ¬ (i : Int) < ((l.length : Nat) : Int) by omega), drop_end (by omega)]
    exact .ret _
  | k + 1, i, s, h => by
    refine Goes.lp' (i21 Tbl.none (fun _ => true) sgn l m s i) ?_
    have hi : (i : Int) < ((l.length : Nat) : Int) := by omega
    rw [decide_eq_true hi, cond_true, toNat_lt (by omega) hi, cond_true, w_step (by omega) hi hl, Int.toNat_natCast, drop_cons l (0, 0, 0, 0, ()) i (by omega)]
    generalize l.getD i (0, 0, 0, 0, ()) = b
    cases hb : (b.2.1 == m) with
    | true =>
      rw [List.filter_cons_of_pos (by exact hb)]
      exact loop21 l m hl k (i + 1) _ (by omega)
    | false =>
      rw [List.filter_cons_of_neg (by simp [inM, hb])]
      exact loop21 l m hl k (i + 1) _ (by omega)
theorem has_Received37 : Hs 21 FRcv :=
  Has.fc2 (fn := Try.f21) (env0.more has_signed37) (by kernel_rfl) (by kernel_rfl) (by kernel_rfl) (by kernel_rfl) fun l m h => .run1 (e21 Tbl.none (fun _ => true) sgn l m) (loop21 l m (lenOK_spec h) l.length 0 0 (by omega))

theorem loop22 (l : List Po.D) (m : Int) (hl : l.length ≤ lenBound) : ∀ (k : Nat) (i : Nat) (s : Int), i + k = l.length →
    Goes Tbl.none T Try.f22.ntmps Try.f22.results.toList (.loop M22.body M22.kont (S22 l m s i)) (.tv (I (((l.drop i).filter (waM m)).foldl (fun s x => w (s + x.2.2.2.1)) s)))
  | 0, i, s, h => by
    refine Goes.lp' (i22 Tbl.none l m s i) ?_
    rw [decide_eq_false (show ¬ (i : Int) < ((l.length : Nat) : Int) by omega), drop_end (by omega)]
    exact .ret _
  | k + 1, i, s, h => by
    refine Goes.lp' (i22 Tbl.none l m s i) ?_
    have hi : (i : Int) < ((l.length : Nat) : Int) := by omega
    rw [decide_eq_true hi, cond_true, toNat_lt (by omega) hi, cond_true, Bool.true_or, cond_true, w_step (by omega) hi hl, Int.toNat_natCast, drop_cons l (0, 0, 0, 0, ()) i (by omega)]
    generalize l.getD i (0, 0, 0, 0, ()) = b
    cases hb : (bif b.2.1 == m then b.2.2.1 == 4 else false) with
    | true =>
      rw [List.filter_cons_of_pos (by exact hb)]
      exact loop22 l m hl k (i + 1) _ (by omega)
    | false =>
      rw [List.filter_cons_of_neg (by unfold waM; rw [hb]; simp)]
      exact loop22 l m hl k (i + 1) _ (by omega)
theorem has_Waived37 : Hs 22 FWvd :=
  Has.fc2 (fn := Try.f22) env0 (by kernel_rfl) (by kernel_rfl) (by kernel_rfl) (by kernel_rfl) fun l m h => .run1 (e22 Tbl.none l m) (loop22 l m (lenOK_spec h) l.length 0 0 (by omega))
end Go.Lift.V38
set_option maxRecDepth 100000
set_option linter.unusedVariables false
set_option linter.unusedSimpArgs false
namespace Go.Lift.V38
open Go.Lift Go.Proofs

theorem band_bif {a b : Bool} : (bif a then b else false) = (a && b) := by cases a <;> rfl
theorem bor_bif {a b : Bool} : (bif a then true else b) = (a || b) := by cases a <;> rfl
theorem wfI {n : Int} (h : Wf (.int .i64) n) : -9223372036854775808 ≤ n ∧ n ≤ 9223372036854775807 := by
  have h' : (decide (IntKind.min .i64 ≤ n) && decide (n ≤ IntKind.max .i64)) = true := h
  simp only [Bool.and_eq_true, decide_eq_true_eq] at h'
  exact h'
theorem someK {k : Bool} {r : SV} (h : k = true) : some (k, r) = some (true, r) := by rw [h]
noncomputable def row (l : List Po.D) (a : Aw.D) : Po.D := bif (a.2.2.1 != 0) then (a.1, rcv l a.1, rcv l a.1, wvd l a.1, ()) else (a.1, a.2.1, rcv l a.1, wvd l a.1, ())
noncomputable def ofV (aw : List Aw.D) (l : List Po.D) : List Po.D := aw.map (row l)
noncomputable def kOf (aw : LA.D) (l : LP.D) : Bool := lenOK (List.length aw) && smOK l
noncomputable def FOfO := FC2 LA LP kOf fun aw l => .own Po (ofV aw l)
noncomputable def FOf := FC2 LA LP kOf fun aw l => .tv ⟨LP, ofV aw l⟩
noncomputable def M10 : Leaf := .loop (cAt Try.f10 [1, 1, 0, 1, 0, 0]) [.inBlock 0, .code (cAt Try.f10 [1, 1, 1])] ⟨[], []⟩
def S10 (s1 : (List (Ty.D Po))) (s9 : (List (Ty.D Aw))) (s10 : Int) (s11 : Int) (b5 : (List (Ty.D Po))) : St := ⟨[(1, .tv (TD.mk LP s1)), (5, .ref 5), (9, .tv (TD.mk LA s9)), (10, .tv (I s10)), (11, .tv (I s11))], [(5, .vec Po b5)]⟩
theorem i10 (G : Tbl) (k19 : (List (Ty.D Po)) → Int → Bool) (r19 : (List (Ty.D Po)) → Int → Int) (k20 : (List (Ty.D Po)) → Int → Bool) (r20 : (List (Ty.D Po)) → Int → Int) (s1 : (List (Ty.D Po))) (s9 : (List (Ty.D Aw))) (s10 : Int) (s11 : Int) (b5 : (List (Ty.D Po))) :
    runL ((G.add 19 (FC2 LP (.int .i64) k19 (fun x0 x1 => .tv (I (r19 x0 x1))))).add 20 (FC2 LP (.int .i64) k20 (fun x0 x1 => .tv (I (r20 x0 x1))))) [(194, [1, 5, 9, 10, 11])] Try.f10 1000 M10.round (S10 s1 s9 s10 s11 b5) =
  bif (decide (s11 < s10)) then
    bif (inB s11 (List.length s9)) then
      bif (k19 s1 (((List.getD s9 (Int.toNat s11) (0, 0, 0, ()))).1)) then
        bif (k20 s1 (((List.getD s9 (Int.toNat s11) (0, 0, 0, ()))).1)) then
          bif ((((List.getD s9 (Int.toNat s11) (0, 0, 0, ()))).2.2.1) != 0) then
            bif (lenOK ((List.length b5) + (List.length [(((List.getD s9 (Int.toNat s11) (0, 0, 0, ()))).1, (r19 s1 (((List.getD s9 (Int.toNat s11) (0, 0, 0, ()))).1)), (r19 s1 (((List.getD s9 (Int.toNat s11) (0, 0, 0, ()))).1)), (r20 s1 (((List.getD s9 (Int.toNat s11) (0, 0, 0, ()))).1)), ())]))) then
              .loop M10.body M10.kont (S10 s1 s9 s10 (w (s11 + 1)) (b5 ++ [(((List.getD s9 (Int.toNat s11) (0, 0, 0, ()))).1, (r19 s1 (((List.getD s9 (Int.toNat s11) (0, 0, 0, ()))).1)), (r19 s1 (((List.getD s9 (Int.toNat s11) (0, 0, 0, ()))).1)), (r20 s1 (((List.getD s9 (Int.toNat s11) (0, 0, 0, ()))).1)), ())]))
            else
              .fail
          else
            bif (lenOK ((List.length b5) + (List.length [(((List.getD s9 (Int.toNat s11) (0, 0, 0, ()))).1, ((List.getD s9 (Int.toNat s11) (0, 0, 0, ()))).2.1, (r19 s1 (((List.getD s9 (Int.toNat s11) (0, 0, 0, ()))).1)), (r20 s1 (((List.getD s9 (Int.toNat s11) (0, 0, 0, ()))).1)), ())]))) then
              .loop M10.body M10.kont (S10 s1 s9 s10 (w (s11 + 1)) (b5 ++ [(((List.getD s9 (Int.toNat s11) (0, 0, 0, ()))).1, ((List.getD s9 (Int.toNat s11) (0, 0, 0, ()))).2.1, (r19 s1 (((List.getD s9 (Int.toNat s11) (0, 0, 0, ()))).1)), (r20 s1 (((List.getD s9 (Int.toNat s11) (0, 0, 0, ()))).1)), ())]))
            else
              .fail
        else
          .fail
      else
        .fail
    else
      .fail
  else
    .ret (.own Po b5) := by kernel_rfl
theorem e10 (G : Tbl) (k19 : (List (Ty.D Po)) → Int → Bool) (r19 : (List (Ty.D Po)) → Int → Int) (k20 : (List (Ty.D Po)) → Int → Bool) (r20 : (List (Ty.D Po)) → Int → Int) (a0 : (List (Ty.D Aw))) (a1 : (List (Ty.D Po))) :
    runL ((G.add 19 (FC2 LP (.int .i64) k19 (fun x0 x1 => .tv (I (r19 x0 x1))))).add 20 (FC2 LP (.int .i64) k20 (fun x0 x1 => .tv (I (r20 x0 x1))))) [(194, [1, 5, 9, 10, 11])] Try.f10 1000 (bod Try.f10) (entry [(TD.mk LA a0), (TD.mk LP a1)]) =
  .loop M10.body M10.kont (S10 a1 a0 ((List.length a0 : Nat) : Int) 0 []) := by kernel_rfl

noncomputable def M11 : Leaf := .loop (cAt Try.f11 [1, 1, 0, 1, 0, 0]) [.inBlock 0, .code (cAt Try.f11 [1, 1, 1])] ⟨[], []⟩
def S11 (s0 : (List (Ty.D Aw))) (s1 : (List (Ty.D Po))) (s6 : Int) (b5 : (List (Ty.D Po))) : St := ⟨[(0, .tv (TD.mk LA s0)), (1, .tv (TD.mk LP s1)), (5, .ref 5), (6, .tv (I s6))], [(5, .vec Po b5)]⟩
theorem i11 (G : Tbl) (k21 : (List (Ty.D Po)) → Int → Bool) (r21 : (List (Ty.D Po)) → Int → Int) (k22 : (List (Ty.D Po)) → Int → Bool) (r22 : (List (Ty.D Po)) → Int → Int) (s0 : (List (Ty.D Aw))) (s1 : (List (Ty.D Po))) (s6 : Int) (b5 : (List (Ty.D Po))) :
    runL ((G.add 21 (FC2 LP (.int .i64) k21 (fun x0 x1 => .tv (I (r21 x0 x1))))).add 22 (FC2 LP (.int .i64) k22 (fun x0 x1 => .tv (I (r22 x0 x1))))) [(194, [0, 1, 5, 6])] Try.f11 1000 M11.round (S11 s0 s1 s6 b5) =
  bif (decide (s6 < ((List.length s0 : Nat) : Int))) then
    bif (inB s6 (List.length s0)) then
      bif (inB s6 (List.length s0)) then
        bif (inB s6 (List.length s0)) then
          bif (k21 s1 (((List.getD s0 (Int.toNat s6) (0, 0, 0, ()))).1)) then
            bif (inB s6 (List.length s0)) then
              bif (k22 s1 (((List.getD s0 (Int.toNat s6) (0, 0, 0, ()))).1)) then
                bif (inB s6 (List.length s0)) then
                  bif ((((List.getD s0 (Int.toNat s6) (0, 0, 0, ()))).2.2.1) != 0) then
                    bif (lenOK ((List.length b5) + (List.length [(((List.getD s0 (Int.toNat s6) (0, 0, 0, ()))).1, (r21 s1 (((List.getD s0 (Int.toNat s6) (0, 0, 0, ()))).1)), (r21 s1 (((List.getD s0 (Int.toNat s6) (0, 0, 0, ()))).1)), (r22 s1 (((List.getD s0 (Int.toNat s6) (0, 0, 0, ()))).1)), ())]))) then
                      .loop M11.body M11.kont (S11 s0 s1 (w (s6 + 1)) (b5 ++ [(((List.getD s0 (Int.toNat s6) (0, 0, 0, ()))).1, (r21 s1 (((List.getD s0 (Int.toNat s6) (0, 0, 0, ()))).1)), (r21 s1 (((List.getD s0 (Int.toNat s6) (0, 0, 0, ()))).1)), (r22 s1 (((List.getD s0 (Int.toNat s6) (0, 0, 0, ()))).1)), ())]))
                    else
                      .fail
                  else
                    bif (lenOK ((List.length b5) + (List.length [(((List.getD s0 (Int.toNat s6) (0, 0, 0, ()))).1, ((List.getD s0 (Int.toNat s6) (0, 0, 0, ()))).2.1, (r21 s1 (((List.getD s0 (Int.toNat s6) (0, 0, 0, ()))).1)), (r22 s1 (((List.getD s0 (Int.toNat s6) (0, 0, 0, ()))).1)), ())]))) then
                      .loop M11.body M11.kont (S11 s0 s1 (w (s6 + 1)) (b5 ++ [(((List.getD s0 (Int.toNat s6) (0, 0, 0, ()))).1, ((List.getD s0 (Int.toNat s6) (0, 0, 0, ()))).2.1, (r21 s1 (((List.getD s0 (Int.toNat s6) (0, 0, 0, ()))).1)), (r22 s1 (((List.getD s0 (Int.toNat s6) (0, 0, 0, ()))).1)), ())]))
                    else
                      .fail
                else
                  .fail
              else
                .fail
            else
              .fail
          else
            .fail
        else
          .fail
      else
        .fail
    else
      .fail
  else
    .ret (.own Po b5) := by kernel_rfl
theorem e11 (G : Tbl) (k21 : (List (Ty.D Po)) → Int → Bool) (r21 : (List (Ty.D Po)) → Int → Int) (k22 : (List (Ty.D Po)) → Int → Bool) (r22 : (List (Ty.D Po)) → Int → Int) (a0 : (List (Ty.D Aw))) (a1 : (List (Ty.D Po))) :
    runL ((G.add 21 (FC2 LP (.int .i64) k21 (fun x0 x1 => .tv (I (r21 x0 x1))))).add 22 (FC2 LP (.int .i64) k22 (fun x0 x1 => .tv (I (r22 x0 x1))))) [(194, [0, 1, 5, 6])] Try.f11 1000 (bod Try.f11) (entry [(TD.mk LA a0), (TD.mk LP a1)]) =
  .loop M11.body M11.kont (S11 a0 a1 0 []) := by kernel_rfl

noncomputable def M9 : Leaf := .loop (cAt Try.f9 [1, 1, 0, 1, 0, 0]) [.inBlock 0, .code (cAt Try.f9 [1, 1, 1])] ⟨[], []⟩
def S9 (s0 : (List (Ty.D Po))) (s1 : (List (Ty.D Po))) (s5 : Int) : St := ⟨[(0, .tv (TD.mk LP s0)), (1, .tv (TD.mk LP s1)), (5, .tv (I s5))], []⟩
theorem i9 (G : Tbl)  (s0 : (List (Ty.D Po))) (s1 : (List (Ty.D Po))) (s5 : Int) :
    runL G [(258, [0, 1, 5])] Try.f9 1000 M9.round (S9 s0 s1 s5) =
  bif (bif (decide (s5 < ((List.length s0 : Nat) : Int))) then (decide (s5 < ((List.length s1 : Nat) : Int))) else false) then
    bif (inB s5 (List.length s0)) then
      bif (inB s5 (List.length s1)) then
        bif (!(eqD Po (List.getD s0 (Int.toNat s5) (0, 0, 0, 0, ())) (List.getD s1 (Int.toNat s5) (0, 0, 0, 0, ())))) then
          .ret (.tv (B false))
        else
          .loop M9.body M9.kont (S9 s0 s1 (w (s5 + 1)))
      else
        .fail
    else
      .fail
  else
    .ret (.tv (B true)) := by kernel_rfl
theorem e9 (G : Tbl)  (a0 : (List (Ty.D Po))) (a1 : (List (Ty.D Po))) :
    runL G [(258, [0, 1, 5])] Try.f9 1000 (bod Try.f9) (entry [(TD.mk LP a0), (TD.mk LP a1)]) =
  bif (((List.length a0 : Nat) : Int) != ((List.length a1 : Nat) : Int)) then
    .ret (.tv (B false))
  else
    .loop M9.body M9.kont (S9 a0 a1 0) := by kernel_rfl

theorem e13 (G : Tbl)  (a0 : (Ty.D Po)) :
    runL G [] Try.f13 1000 (bod Try.f13) (entry [(TD.mk Po a0)]) =
  .ret (.tv (I (maxI [0] (w (a0.2.1 - a0.2.2.1))))) := by kernel_rfl

theorem e14 (G : Tbl)  (a0 : (Ty.D Po)) :
    runL G [] Try.f14 1000 (bod Try.f14) (entry [(TD.mk Po a0)]) =
  .ret (.tv (I (maxI [0] (w (a0.2.1 - a0.2.2.1))))) := by kernel_rfl

theorem e15 (G : Tbl)  (a0 : (Ty.D Po)) :
    runL G [] Try.f15 1000 (bod Try.f15) (entry [(TD.mk Po a0)]) =
  .ret (.tv (I (maxI [0] (w ((w (a0.2.2.1 - a0.2.1)) - a0.2.2.2.1))))) := by kernel_rfl

theorem e16 (G : Tbl)  (a0 : (Ty.D Po)) :
    runL G [] Try.f16 1000 (bod Try.f16) (entry [(TD.mk Po a0)]) =
  .ret (.tv (I (maxI [0] (w ((w (a0.2.2.1 - a0.2.1)) - a0.2.2.2.1))))) := by kernel_rfl

theorem e12 (G : Tbl)  (a0 : (Ty.D Po)) (a1 : Int) :
    runL G [] Try.f12 1000 (bod Try.f12) (entry [(TD.mk Po a0), (I a1)]) =
  .ret (.tv (B (bif (bif (bif (bif (bif (decide (a0.2.1 ≥ (w (0 - a1)))) then (decide (a0.2.1 ≤ a1)) else false) then (decide (a0.2.2.1 ≥ (w (0 - a1)))) else false) then (decide (a0.2.2.1 ≤ a1)) else false) then (decide (a0.2.2.2.1 ≥ (w (0 - a1)))) else false) then (decide (a0.2.2.2.1 ≤ a1)) else false))) := by kernel_rfl

noncomputable def M17 : Leaf := .loop (cAt Try.f17 [1, 1, 0, 1, 0, 0]) [.inBlock 0, .code (cAt Try.f17 [1, 1, 1])] ⟨[], []⟩
def S17 (s4 : Int) (s5 : Int) (s8 : (List (Ty.D Po))) (s9 : Int) (s10 : Int) : St := ⟨[(4, .tv (I s4)), (5, .tv (I s5)), (8, .tv (TD.mk LP s8)), (9, .tv (I s9)), (10, .tv (I s10))], []⟩
theorem i17 (G : Tbl) (k13 : (Ty.D Po) → Bool) (r13 : (Ty.D Po) → Int) (k15 : (Ty.D Po) → Bool) (r15 : (Ty.D Po) → Int) (s4 : Int) (s5 : Int) (s8 : (List (Ty.D Po))) (s9 : Int) (s10 : Int) :
    runL ((G.add 13 (FC1 Po k13 (fun x0 => .tv (I (r13 x0))))).add 15 (FC1 Po k15 (fun x0 => .tv (I (r15 x0))))) [(194, [4, 5, 8, 9, 10])] Try.f17 1000 M17.round (S17 s4 s5 s8 s9 s10) =
  bif (decide (s10 < s9)) then
    bif (inB s10 (List.length s8)) then
      bif (k13 (List.getD s8 (Int.toNat s10) (0, 0, 0, 0, ()))) then
        bif (k15 (List.getD s8 (Int.toNat s10) (0, 0, 0, 0, ()))) then
          .loop M17.body M17.kont (S17 (w (s4 + (r13 (List.getD s8 (Int.toNat s10) (0, 0, 0, 0, ()))))) (w (s5 + (r15 (List.getD s8 (Int.toNat s10) (0, 0, 0, 0, ()))))) s8 s9 (w (s10 + 1)))
        else
          .fail
      else
        .fail
    else
      .fail
  else
    .ret (.tup [.tv (I s4), .tv (I s5)]) := by kernel_rfl
theorem e17 (G : Tbl) (k13 : (Ty.D Po) → Bool) (r13 : (Ty.D Po) → Int) (k15 : (Ty.D Po) → Bool) (r15 : (Ty.D Po) → Int) (a0 : (List (Ty.D Po))) :
    runL ((G.add 13 (FC1 Po k13 (fun x0 => .tv (I (r13 x0))))).add 15 (FC1 Po k15 (fun x0 => .tv (I (r15 x0))))) [(194, [4, 5, 8, 9, 10])] Try.f17 1000 (bod Try.f17) (entry [(TD.mk LP a0)]) =
  .loop M17.body M17.kont (S17 0 0 a0 ((List.length a0 : Nat) : Int) 0) := by kernel_rfl

noncomputable def M18 : Leaf := .loop (cAt Try.f18 [1, 1, 0, 1, 0, 0]) [.inBlock 0, .code (cAt Try.f18 [1, 1, 1])] ⟨[], []⟩
def S18 (s0 : (List (Ty.D Po))) (s4 : Int) (s5 : Int) (s6 : Int) : St := ⟨[(0, .tv (TD.mk LP s0)), (4, .tv (I s4)), (5, .tv (I s5)), (6, .tv (I s6))], []⟩
theorem i18 (G : Tbl) (k14 : (Ty.D Po) → Bool) (r14 : (Ty.D Po) → Int) (k16 : (Ty.D Po) → Bool) (r16 : (Ty.D Po) → Int) (s0 : (List (Ty.D Po))) (s4 : Int) (s5 : Int) (s6 : Int) :
    runL ((G.add 14 (FC1 Po k14 (fun x0 => .tv (I (r14 x0))))).add 16 (FC1 Po k16 (fun x0 => .tv (I (r16 x0))))) [(194, [0, 4, 5, 6])] Try.f18 1000 M18.round (S18 s0 s4 s5 s6) =
  bif (decide (s6 < ((List.length s0 : Nat) : Int))) then
    bif (inB s6 (List.length s0)) then
      bif (k14 (List.getD s0 (Int.toNat s6) (0, 0, 0, 0, ()))) then
        bif (inB s6 (List.length s0)) then
          bif (k16 (List.getD s0 (Int.toNat s6) (0, 0, 0, 0, ()))) then
            .loop M18.body M18.kont (S18 s0 (w (s4 + (r14 (List.getD s0 (Int.toNat s6) (0, 0, 0, 0, ()))))) (w (s5 + (r16 (List.getD s0 (Int.toNat s6) (0, 0, 0, 0, ()))))) (w (s6 + 1)))
          else
            .fail
        else
          .fail
      else
        .fail
    else
      .fail
  else
    .ret (.tup [.tv (I s4), .tv (I s5)]) := by kernel_rfl
theorem e18 (G : Tbl) (k14 : (Ty.D Po) → Bool) (r14 : (Ty.D Po) → Int) (k16 : (Ty.D Po) → Bool) (r16 : (Ty.D Po) → Int) (a0 : (List (Ty.D Po))) :
    runL ((G.add 14 (FC1 Po k14 (fun x0 => .tv (I (r14 x0))))).add 16 (FC1 Po k16 (fun x0 => .tv (I (r16 x0))))) [(194, [0, 4, 5, 6])] Try.f18 1000 (bod Try.f18) (entry [(TD.mk LP a0)]) =
  .loop M18.body M18.kont (S18 a0 0 0 0) := by kernel_rfl


noncomputable def GOf : Tbl := (Tbl.none.add 19 FRcv).add 20 FWvd
theorem loop10 (aw : List Aw.D) (l : List Po.D) (hl : aw.length ≤ lenBound) (hp : smOK l = true) : ∀ (k : Nat) (i : Nat) (acc : List Po.D), i + k = aw.length → acc.length = i →
    Goes GOf T Try.f10.ntmps Try.f10.results.toList (.loop M10.body M10.kont (S10 l aw ((List.length aw : Nat) : Int) i acc)) (.own Po (acc ++ (aw.drop i).map (row l)))
  | 0, i, acc, h, ha => by
    refine Goes.lp' (i10 Tbl.none (fun l _ => smOK l) rcv (fun l _ => smOK l) wvd l aw _ i acc) ?_
    rw [decide_eq_false (show ¬ (i : Int) < ((aw.length : Nat) : Int) by omega), drop_end (by omega), List.map_nil, List.append_nil]
    exact .ret _
  | k + 1, i, acc, h, ha => by
    refine Goes.lp' (i10 Tbl.none (fun l _ => smOK l) rcv (fun l _ => smOK l) wvd l aw _ i acc) ?_
    have hi : (i : Int) < ((aw.length : Nat) : Int) := by omega
    rw [decide_eq_true hi, cond_true, toNat_lt (by omega) hi, cond_true, hp, cond_true, cond_true, w_step (by omega) hi hl, Int.toNat_natCast, drop_cons aw (0, 0, 0, ()) i (by omega)]
    generalize aw.getD i (0, 0, 0, ()) = b
    rw [List.map_cons]
    have hlen : lenOK (List.length acc + 1) = true := by unfold lenOK; exact decide_eq_true (by omega)
    cases hb : (b.2.2.1 != 0) with
    | true =>
      simp only [cond_true, List.length_cons, List.length_nil, Nat.zero_add, hlen]
      have := loop10 aw l hl hp k (i + 1) (acc ++ [row l b]) (by omega) (by simp [ha])
      rw [List.append_assoc, List.singleton_append] at this
      simp only [row, hb, cond_true] at this ⊢
      exact this
    | false =>
      simp only [cond_false, List.length_cons, List.length_nil, Nat.zero_add, hlen, cond_true]
      have := loop10 aw l hl hp k (i + 1) (acc ++ [row l b]) (by omega) (by simp [ha])
      rw [List.append_assoc, List.singleton_append] at this
      simp only [row, hb, cond_false] at this ⊢
      exact this
theorem has_OfO : Hs 10 FOfO := by
  refine Has.fc2 (fn := Try.f10) ((env0.more (show Hs _ FRcv from has_Received)).more (show Hs _ FWvd from has_Waived)) (by kernel_rfl) (by kernel_rfl) (by kernel_rfl) (by kernel_rfl) fun aw l h => .run1 (e10 Tbl.none (fun l _ => smOK l) rcv (fun l _ => smOK l) wvd aw l) ?_
  simp only [kOf, Bool.and_eq_true] at h
  exact loop10 aw l (lenOK_spec h.1) h.2 aw.length 0 [] (by omega) rfl
theorem has_Of : Hs 10 FOf := has_OfO.cool2

noncomputable def GOf37 : Tbl := (Tbl.none.add 21 FRcv).add 22 FWvd
theorem loop11 (aw : List Aw.D) (l : List Po.D) (hl : aw.length ≤ lenBound) (hp : smOK l = true) : ∀ (k : Nat) (i : Nat) (acc : List Po.D), i + k = aw.length → acc.length = i →
    Goes GOf37 T Try.f11.ntmps Try.f11.results.toList (.loop M11.body M11.kont (S11 aw l i acc)) (.own Po (acc ++ (aw.drop i).map (row l)))
  | 0, i, acc, h, ha => by
    refine Goes.lp' (i11 Tbl.none (fun l _ => smOK l) rcv (fun l _ => smOK l) wvd aw l i acc) ?_
    rw [decide_eq_false (show ¬ (i : Int) < ((aw.length : Nat) : Int) by omega), drop_end (by omega), List.map_nil, List.append_nil]
    exact .ret _
  | k + 1, i, acc, h, ha => by
    refine Goes.lp' (i11 Tbl.none (fun l _ => smOK l) rcv (fun l _ => smOK l) wvd aw l i acc) ?_
    have hi : (i : Int) < ((aw.length : Nat) : Int) := by omega
    rw [decide_eq_true hi, cond_true, toNat_lt (by omega) hi, cond_true, cond_true, cond_true, hp, cond_true, cond_true, cond_true, cond_true, w_step (by omega) hi hl, Int.toNat_natCast, drop_cons aw (0, 0, 0, ()) i (by omega)]
    generalize aw.getD i (0, 0, 0, ()) = b
    rw [List.map_cons]
    have hlen : lenOK (List.length acc + 1) = true := by unfold lenOK; exact decide_eq_true (by omega)
    cases hb : (b.2.2.1 != 0) with
    | true =>
      simp only [cond_true, List.length_cons, List.length_nil, Nat.zero_add, hlen]
      have := loop11 aw l hl hp k (i + 1) (acc ++ [row l b]) (by omega) (by simp [ha])
      rw [List.append_assoc, List.singleton_append] at this
      simp only [row, hb, cond_true] at this ⊢
      exact this
    | false =>
      simp only [cond_false, List.length_cons, List.length_nil, Nat.zero_add, hlen, cond_true]
      have := loop11 aw l hl hp k (i + 1) (acc ++ [row l b]) (by omega) (by simp [ha])
      rw [List.append_assoc, List.singleton_append] at this
      simp only [row, hb, cond_false] at this ⊢
      exact this
theorem has_OfR : Hs 11 FOf := by
  refine Has.cool2 (Has.fc2 (fn := Try.f11) ((env0.more has_Received37).more has_Waived37) (by kernel_rfl) (by kernel_rfl) (by kernel_rfl) (by kernel_rfl) fun aw l h => .run1 (e11 Tbl.none (fun l _ => smOK l) rcv (fun l _ => smOK l) wvd aw l) ?_)
  simp only [kOf, Bool.and_eq_true] at h
  exact loop11 aw l (lenOK_spec h.1) h.2 aw.length 0 [] (by omega) rfl

/-! equality of balances -/
theorem eqPo_self (x : Po.D) : eqD Po x x = true := by simp [eqD]
noncomputable def sameP : List Po.D → List Po.D → Bool
  | [], [] => true
  | x :: r, y :: s => eqD Po x y && sameP r s
  | _, _ => false
theorem sameP_self : ∀ l : List Po.D, sameP l l = true
  | [] => rfl
  | x :: r => by unfold sameP; rw [eqPo_self, sameP_self r]; rfl
theorem sameP_len : ∀ (a b : List Po.D), a.length ≠ b.length → sameP a b = false
  | [], [], h => (h rfl).elim
  | [], _ :: _, _ => rfl
  | _ :: _, [], _ => rfl
  | x :: r, y :: s, h => by
    unfold sameP; rw [sameP_len r s (fun e => h (by simp [e])), Bool.and_false]
noncomputable def FSameP := FC2 LP LP (fun a _ => lenOK (List.length a)) fun a b => .tv (B (sameP a b))
theorem loop9 (a b : List Po.D) (hl : a.length ≤ lenBound) (hab : a.length = b.length) : ∀ (k : Nat) (i : Nat), i + k = a.length →
    Goes Tbl.none T Try.f9.ntmps Try.f9.results.toList (.loop M9.body M9.kont (S9 a b i)) (.tv (B (sameP (a.drop i) (b.drop i))))
  | 0, i, h => by
    refine Goes.lp' (i9 Tbl.none a b i) ?_
    rw [decide_eq_false (show ¬ (i : Int) < ((a.length : Nat) : Int) by omega), drop_end (by omega), drop_end (by omega)]
    exact .ret _
  | k + 1, i, h => by
    refine Goes.lp' (i9 Tbl.none a b i) ?_
    have hi : (i : Int) < ((a.length : Nat) : Int) := by omega
    have hj : (i : Int) < ((b.length : Nat) : Int) := by omega
    rw [decide_eq_true hi, cond_true, decide_eq_true hj, cond_true, toNat_lt (by omega) hi, cond_true, toNat_lt (by omega) hj, cond_true, w_step (by omega) hi hl, Int.toNat_natCast, drop_cons a (0, 0, 0, 0, ()) i (by omega), drop_cons b (0, 0, 0, 0, ()) i (by omega)]
    generalize a.getD i (0, 0, 0, 0, ()) = x
    generalize b.getD i (0, 0, 0, 0, ()) = y
    unfold sameP
    cases h2 : eqD Po x y with
    | false => exact .ret _
    | true =>
      rw [Bool.true_and]
      exact loop9 a b hl hab k (i + 1) (by omega)
theorem has_Same : Hs 9 FSameP := by
  refine Has.fc2 (fn := Try.f9) env0 (by kernel_rfl) (by kernel_rfl) (by kernel_rfl) (by kernel_rfl) fun a b h => .run1 (e9 Tbl.none a b) ?_
  have hl := lenOK_spec h
  refine .bif (fun g => .ret' ?_) fun g => ?_
  · rw [sameP_len a b (by intro e; rw [e] at g; simp at g)]
  · have : List.length a = List.length b := Int.ofNat_inj.1 (by simpa using g)
    exact loop9 a b hl this (List.length a) 0 (by omega)

/-! amounts -/
def arrV (b : Po.D) : Int := maxI [0] (w (b.2.1 - b.2.2.1))
def overV (b : Po.D) : Int := maxI [0] (w ((w (b.2.2.1 - b.2.1)) - b.2.2.2.1))
def FArr := FC1 Po (fun _ => true) fun b => .tv (I (arrV b))
def FOver := FC1 Po (fun _ => true) fun b => .tv (I (overV b))
theorem has13 : Hs 13 FArr := Has.fc1 (fn := Try.f13) env0 (by kernel_rfl) (by kernel_rfl) (by kernel_rfl) (by kernel_rfl) fun b _ => .run1 (e13 Tbl.none b) (.ret _)
theorem has14 : Hs 14 FArr := Has.fc1 (fn := Try.f14) env0 (by kernel_rfl) (by kernel_rfl) (by kernel_rfl) (by kernel_rfl) fun b _ => .run1 (e14 Tbl.none b) (.ret _)
theorem has15 : Hs 15 FOver := Has.fc1 (fn := Try.f15) env0 (by kernel_rfl) (by kernel_rfl) (by kernel_rfl) (by kernel_rfl) fun b _ => .run1 (e15 Tbl.none b) (.ret _)
theorem has16 : Hs 16 FOver := Has.fc1 (fn := Try.f16) env0 (by kernel_rfl) (by kernel_rfl) (by kernel_rfl) (by kernel_rfl) fun b _ => .run1 (e16 Tbl.none b) (.ret _)
def withinV (b : Po.D) (m : Int) : Bool := ((((decide (b.2.1 ≥ w (0 - m)) && decide (b.2.1 ≤ m)) && decide (b.2.2.1 ≥ w (0 - m))) && decide (b.2.2.1 ≤ m)) && decide (b.2.2.2.1 ≥ w (0 - m))) && decide (b.2.2.2.1 ≤ m)
def FWithin := FC2 Po (.int .i64) (fun _ _ => true) fun b m => .tv (B (withinV b m))
theorem has12 : Hs 12 FWithin := by
  refine Has.fc2 (fn := Try.f12) env0 (by kernel_rfl) (by kernel_rfl) (by kernel_rfl) (by kernel_rfl) fun b (m : Int) _ => .run1 (e12 Tbl.none b m) ?_
  refine .ret' ?_
  unfold withinV
  rw [band_bif, band_bif, band_bif, band_bif, band_bif]

def tot (v : Po.D → Int) (l : List Po.D) (s : Int) : Int := l.foldl (fun s b => w (s + v b)) s
def FTot := FC1 LP (fun l => lenOK (List.length l)) fun l => .tup [.tv (I (tot arrV l 0)), .tv (I (tot overV l 0))]
def GTot : Tbl := (Tbl.none.add 13 FArr).add 15 FOver
theorem loop17 (l : List Po.D) (hl : l.length ≤ lenBound) : ∀ (k : Nat) (i : Nat) (s t : Int), i + k = l.length →
    Goes GTot T Try.f17.ntmps Try.f17.results.toList (.loop M17.body M17.kont (S17 s t l ((List.length l : Nat) : Int) i)) (.tup [.tv (I (tot arrV (l.drop i) s)), .tv (I (tot overV (l.drop i) t))])
  | 0, i, s, t, h => by
    refine Goes.lp' (i17 Tbl.none (fun _ => true) arrV (fun _ => true) overV s t l _ i) ?_
    rw [decide_eq_false (show ¬ (i : Int) < ((l.length : Nat) : Int) by omega), drop_end (by omega)]
    exact .ret _
  | k + 1, i, s, t, h => by
    refine Goes.lp' (i17 Tbl.none (fun _ => true) arrV (fun _ => true) overV s t l _ i) ?_
    have hi : (i : Int) < ((l.length : Nat) : Int) := by omega
    rw [decide_eq_true hi, cond_true, toNat_lt (by omega) hi, cond_true, w_step (by omega) hi hl, Int.toNat_natCast, drop_cons l (0, 0, 0, 0, ()) i (by omega)]
    generalize l.getD i (0, 0, 0, 0, ()) = b
    exact loop17 l hl k (i + 1) _ _ (by omega)
theorem has17 : Hs 17 FTot :=
  Has.fc1 (fn := Try.f17) ((env0.more has13).more has15) (by kernel_rfl) (by kernel_rfl) (by kernel_rfl) (by kernel_rfl) fun l h => .run1 (e17 Tbl.none (fun _ => true) arrV (fun _ => true) overV l) (loop17 l (lenOK_spec h) (List.length l) 0 0 0 (by omega))
def GTotR : Tbl := (Tbl.none.add 14 FArr).add 16 FOver
theorem loop18 (l : List Po.D) (hl : l.length ≤ lenBound) : ∀ (k : Nat) (i : Nat) (s t : Int), i + k = l.length →
    Goes GTotR T Try.f18.ntmps Try.f18.results.toList (.loop M18.body M18.kont (S18 l s t i)) (.tup [.tv (I (tot arrV (l.drop i) s)), .tv (I (tot overV (l.drop i) t))])
  | 0, i, s, t, h => by
    refine Goes.lp' (i18 Tbl.none (fun _ => true) arrV (fun _ => true) overV l s t i) ?_
    rw [decide_eq_false (show ¬ (i : Int) < ((l.length : Nat) : Int) by omega), drop_end (by omega)]
    exact .ret _
  | k + 1, i, s, t, h => by
    refine Goes.lp' (i18 Tbl.none (fun _ => true) arrV (fun _ => true) overV l s t i) ?_
    have hi : (i : Int) < ((l.length : Nat) : Int) := by omega
    rw [decide_eq_true hi, cond_true, toNat_lt (by omega) hi, cond_true, cond_true, cond_true, w_step (by omega) hi hl, Int.toNat_natCast, drop_cons l (0, 0, 0, 0, ()) i (by omega)]
    generalize l.getD i (0, 0, 0, 0, ()) = b
    exact loop18 l hl k (i + 1) _ _ (by omega)
theorem has18 : Hs 18 FTot :=
  Has.fc1 (fn := Try.f18) ((env0.more has14).more has16) (by kernel_rfl) (by kernel_rfl) (by kernel_rfl) (by kernel_rfl) fun l h => .run1 (e18 Tbl.none (fun _ => true) arrV (fun _ => true) overV l) (loop18 l (lenOK_spec h) (List.length l) 0 0 0 (by omega))
end Go.Lift.V38
set_option maxRecDepth 100000
set_option linter.unusedVariables false
set_option linter.unusedSimpArgs false
namespace Go.Lift.V38
open Go.Lift Go.Proofs

noncomputable def FAwake := FC0 true (.tv (B true))
theorem e8c : runL (((Tbl.none.add 10 FOf).add 13 FArr).add 15 FOver) [] Try.f8 1000 (bod Try.f8) (entry []) = .ret (.tv (B true)) := by kernel_rfl
theorem has8 : Hs 8 FAwake :=
  Has.fc0 (fn := Try.f8) (((env0.more has_Of).more has13).more has15) (by kernel_rfl) (by kernel_rfl) (by kernel_rfl) (by kernel_rfl) fun _ => .run1 e8c (.ret _)
noncomputable def M3 : Leaf := .loop (cAt Try.f3 [1, 1, 0, 1, 0, 0]) [.inBlock 0, .code (cAt Try.f3 [1, 1, 1])] ⟨[], []⟩
def S3 (s0 : (List (Ty.D Aw))) (s1 : (List (Ty.D Po))) (s5 : Int) : St := ⟨[(0, .tv (TD.mk LA s0)), (1, .tv (TD.mk LP s1)), (5, .tv (I s5))], []⟩
theorem i3 (G : Tbl) (k8 : Bool) (r8 : Bool) (k9 : (List (Ty.D Po)) → (List (Ty.D Po)) → Bool) (r9 : (List (Ty.D Po)) → (List (Ty.D Po)) → Bool) (k10 : (List (Ty.D Aw)) → (List (Ty.D Po)) → Bool) (r10 : (List (Ty.D Aw)) → (List (Ty.D Po)) → (List (Ty.D Po))) (k11 : (List (Ty.D Aw)) → (List (Ty.D Po)) → Bool) (r11 : (List (Ty.D Aw)) → (List (Ty.D Po)) → (List (Ty.D Po))) (s0 : (List (Ty.D Aw))) (s1 : (List (Ty.D Po))) (s5 : Int) :
    runL ((((G.add 8 (FC0  k8 (.tv (B r8)))).add 9 (FC2 LP LP k9 (fun x0 x1 => .tv (B (r9 x0 x1))))).add 10 (FC2 LA LP k10 (fun x0 x1 => .tv (TD.mk LP (r10 x0 x1))))).add 11 (FC2 LA LP k11 (fun x0 x1 => .tv (TD.mk LP (r11 x0 x1))))) [(258, [0, 1, 5])] Try.f3 1000 M3.round (S3 s0 s1 s5) =
  bif (decide (s5 < ((List.length s1 : Nat) : Int))) then
    bif (inB s5 (List.length s1)) then
      bif ((inB s5 (List.length s1)) || (!(!(decide (((List.getD s1 (Int.toNat s5) (0, 0, 0, 0, ()))).2.2.2.1 < 0))))) then
        bif (bif (decide (((List.getD s1 (Int.toNat s5) (0, 0, 0, 0, ()))).2.2.2.1 < 0)) then true else (decide (((List.getD s1 (Int.toNat s5) (0, 0, 0, 0, ()))).2.2.2.1 > 1000000000000000))) then
          bif k8 then
            .ret (.tv (B r8))
          else
            .fail
        else
          .loop M3.body M3.kont (S3 s0 s1 (w (s5 + 1)))
      else
        .fail
    else
      .fail
  else
    bif (k10 s0 s1) then
      bif (k11 s0 s1) then
        bif (k9 (r10 s0 s1) (r11 s0 s1)) then
          bif (k8 || (!(r9 (r10 s0 s1) (r11 s0 s1)))) then
            .ret (.tv (B (bif (r9 (r10 s0 s1) (r11 s0 s1)) then r8 else false)))
          else
            .fail
        else
          .fail
      else
        .fail
    else
      .fail := by kernel_rfl
theorem e3 (G : Tbl) (k8 : Bool) (r8 : Bool) (k9 : (List (Ty.D Po)) → (List (Ty.D Po)) → Bool) (r9 : (List (Ty.D Po)) → (List (Ty.D Po)) → Bool) (k10 : (List (Ty.D Aw)) → (List (Ty.D Po)) → Bool) (r10 : (List (Ty.D Aw)) → (List (Ty.D Po)) → (List (Ty.D Po))) (k11 : (List (Ty.D Aw)) → (List (Ty.D Po)) → Bool) (r11 : (List (Ty.D Aw)) → (List (Ty.D Po)) → (List (Ty.D Po))) (a0 : (List (Ty.D Aw))) (a1 : (List (Ty.D Po))) :
    runL ((((G.add 8 (FC0  k8 (.tv (B r8)))).add 9 (FC2 LP LP k9 (fun x0 x1 => .tv (B (r9 x0 x1))))).add 10 (FC2 LA LP k10 (fun x0 x1 => .tv (TD.mk LP (r10 x0 x1))))).add 11 (FC2 LA LP k11 (fun x0 x1 => .tv (TD.mk LP (r11 x0 x1))))) [(258, [0, 1, 5])] Try.f3 1000 (bod Try.f3) (entry [(TD.mk LA a0), (TD.mk LP a1)]) =
  bif (bif (decide (((List.length a0 : Nat) : Int) > 200)) then true else (decide (((List.length a1 : Nat) : Int) > 500))) then
    bif k8 then
      .ret (.tv (B r8))
    else
      .fail
  else
    .loop M3.body M3.kont (S3 a0 a1 0) := by kernel_rfl

theorem e4 (G : Tbl) (k8 : Bool) (r8 : Bool) (k12 : (Ty.D Po) → Int → Bool) (r12 : (Ty.D Po) → Int → Bool) (k13 : (Ty.D Po) → Bool) (r13 : (Ty.D Po) → Int) (k14 : (Ty.D Po) → Bool) (r14 : (Ty.D Po) → Int) (k15 : (Ty.D Po) → Bool) (r15 : (Ty.D Po) → Int) (k16 : (Ty.D Po) → Bool) (r16 : (Ty.D Po) → Int) (a0 : (Ty.D Po)) :
    runL ((((((G.add 8 (FC0  k8 (.tv (B r8)))).add 12 (FC2 Po (.int .i64) k12 (fun x0 x1 => .tv (B (r12 x0 x1))))).add 13 (FC1 Po k13 (fun x0 => .tv (I (r13 x0))))).add 14 (FC1 Po k14 (fun x0 => .tv (I (r14 x0))))).add 15 (FC1 Po k15 (fun x0 => .tv (I (r15 x0))))).add 16 (FC1 Po k16 (fun x0 => .tv (I (r16 x0))))) [] Try.f4 1000 (bod Try.f4) (entry [(TD.mk Po a0)]) =
  bif (k12 a0 1152921504606846976) then
    bif (!(r12 a0 1152921504606846976)) then
      bif k8 then
        .ret (.tv (B r8))
      else
        .fail
    else
      bif (k13 a0) then
        bif (k14 a0) then
          bif ((k15 a0) || (!((r13 a0) == (r14 a0)))) then
            bif ((k16 a0) || (!((r13 a0) == (r14 a0)))) then
              bif (k8 || (!(bif ((r13 a0) == (r14 a0)) then ((r15 a0) == (r16 a0)) else false))) then
                .ret (.tv (B (bif (bif ((r13 a0) == (r14 a0)) then ((r15 a0) == (r16 a0)) else false) then r8 else false)))
              else
                .fail
            else
              .fail
          else
            .fail
        else
          .fail
      else
        .fail
  else
    .fail := by kernel_rfl

theorem e5 (G : Tbl) (k8 : Bool) (r8 : Bool) (k12 : (Ty.D Po) → Int → Bool) (r12 : (Ty.D Po) → Int → Bool) (k13 : (Ty.D Po) → Bool) (r13 : (Ty.D Po) → Int) (k15 : (Ty.D Po) → Bool) (r15 : (Ty.D Po) → Int) (a0 : (Ty.D Po)) :
    runL ((((G.add 8 (FC0  k8 (.tv (B r8)))).add 12 (FC2 Po (.int .i64) k12 (fun x0 x1 => .tv (B (r12 x0 x1))))).add 13 (FC1 Po k13 (fun x0 => .tv (I (r13 x0))))).add 15 (FC1 Po k15 (fun x0 => .tv (I (r15 x0))))) [] Try.f5 1000 (bod Try.f5) (entry [(TD.mk Po a0)]) =
  bif (k12 a0 1152921504606846976) then
    bif (bif (!(r12 a0 1152921504606846976)) then true else (decide (a0.2.2.2.1 < 0))) then
      bif k8 then
        .ret (.tv (B r8))
      else
        .fail
    else
      bif (k13 a0) then
        bif (k15 a0) then
          bif (bif (bif (decide ((r13 a0) < 0)) then true else (decide ((r15 a0) < 0))) then true else (bif (decide ((r13 a0) > 0)) then (decide ((r15 a0) > 0)) else false)) then
            .ret (.tv (B false))
          else
            bif (k15 (a0.1, a0.2.1, a0.2.2.1, 0, ())) then
              bif (k13 (a0.1, a0.2.1, a0.2.2.1, 0, ())) then
                bif (k8 || (!((w (a0.2.1 + (r15 (a0.1, a0.2.1, a0.2.2.1, 0, ())))) == (w (a0.2.2.1 + (r13 (a0.1, a0.2.1, a0.2.2.1, 0, ()))))))) then
                  .ret (.tv (B (bif ((w (a0.2.1 + (r15 (a0.1, a0.2.1, a0.2.2.1, 0, ())))) == (w (a0.2.2.1 + (r13 (a0.1, a0.2.1, a0.2.2.1, 0, ()))))) then r8 else false)))
                else
                  .fail
              else
                .fail
            else
              .fail
        else
          .fail
      else
        .fail
  else
    .fail := by kernel_rfl

noncomputable def M6 : Leaf := .loop (cAt Try.f6 [1, 1, 0, 1, 0, 0]) [.inBlock 0, .code (cAt Try.f6 [1, 1, 1])] ⟨[], []⟩
def S6 (s0 : (List (Ty.D Aw))) (s1 : (List (Ty.D Po))) (s5 : Int) : St := ⟨[(0, .tv (TD.mk LA s0)), (1, .tv (TD.mk LP s1)), (5, .tv (I s5))], []⟩
noncomputable def M6a : Leaf := .loop (cAt Try.f6 [1, 1, 1, 1, 1, 0, 1, 0, 0]) [.inBlock 2, .code (cAt Try.f6 [1, 1, 1, 1, 1, 1])] ⟨[], []⟩
def S6a (s0 : (List (Ty.D Aw))) (s6 : (List (Ty.D Po))) (s7 : Int) : St := ⟨[(0, .tv (TD.mk LA s0)), (6, .tv (TD.mk LP s6)), (7, .tv (I s7))], []⟩
theorem i6 (G : Tbl) (k8 : Bool) (r8 : Bool) (k10 : (List (Ty.D Aw)) → (List (Ty.D Po)) → Bool) (r10 : (List (Ty.D Aw)) → (List (Ty.D Po)) → (List (Ty.D Po))) (k13 : (Ty.D Po) → Bool) (r13 : (Ty.D Po) → Int) (s0 : (List (Ty.D Aw))) (s1 : (List (Ty.D Po))) (s5 : Int) :
    runL (((G.add 8 (FC0  k8 (.tv (B r8)))).add 10 (FC2 LA LP k10 (fun x0 x1 => .tv (TD.mk LP (r10 x0 x1))))).add 13 (FC1 Po k13 (fun x0 => .tv (I (r13 x0))))) [(258, [0, 1, 5]), (770, [0, 6, 7])] Try.f6 1000 M6.round (S6 s0 s1 s5) =
  bif (decide (s5 < ((List.length s1 : Nat) : Int))) then
    bif (inB s5 (List.length s1)) then
      bif ((inB s5 (List.length s1)) || (!(!(decide (((List.getD s1 (Int.toNat s5) (0, 0, 0, 0, ()))).2.2.2.1 < 0))))) then
        bif (bif (decide (((List.getD s1 (Int.toNat s5) (0, 0, 0, 0, ()))).2.2.2.1 < 0)) then true else (decide (((List.getD s1 (Int.toNat s5) (0, 0, 0, 0, ()))).2.2.2.1 > 1000000000000000))) then
          bif k8 then
            .ret (.tv (B r8))
          else
            .fail
        else
          .loop M6.body M6.kont (S6 s0 s1 (w (s5 + 1)))
      else
        .fail
    else
      .fail
  else
    bif (k10 s0 s1) then
      bif (((List.length (r10 s0 s1) : Nat) : Int) != ((List.length s0 : Nat) : Int)) then
        .ret (.tv (B false))
      else
        .loop M6a.body M6a.kont (S6a s0 (r10 s0 s1) 0)
    else
      .fail := by kernel_rfl
theorem i6a (G : Tbl) (k8 : Bool) (r8 : Bool) (k10 : (List (Ty.D Aw)) → (List (Ty.D Po)) → Bool) (r10 : (List (Ty.D Aw)) → (List (Ty.D Po)) → (List (Ty.D Po))) (k13 : (Ty.D Po) → Bool) (r13 : (Ty.D Po) → Int) (s0 : (List (Ty.D Aw))) (s6 : (List (Ty.D Po))) (s7 : Int) :
    runL (((G.add 8 (FC0  k8 (.tv (B r8)))).add 10 (FC2 LA LP k10 (fun x0 x1 => .tv (TD.mk LP (r10 x0 x1))))).add 13 (FC1 Po k13 (fun x0 => .tv (I (r13 x0))))) [(258, [0, 1, 5]), (770, [0, 6, 7])] Try.f6 1000 M6a.round (S6a s0 s6 s7) =
  bif (decide (s7 < ((List.length s6 : Nat) : Int))) then
    bif (inB s7 (List.length s6)) then
      bif (inB s7 (List.length s0)) then
        bif ((inB s7 (List.length s0)) || (!(!((((List.getD s6 (Int.toNat s7) (0, 0, 0, 0, ()))).1) != (((List.getD s0 (Int.toNat s7) (0, 0, 0, ()))).1))))) then
          bif ((inB s7 (List.length s6)) || (!((!((((List.getD s6 (Int.toNat s7) (0, 0, 0, 0, ()))).1) != (((List.getD s0 (Int.toNat s7) (0, 0, 0, ()))).1))) && ((((List.getD s0 (Int.toNat s7) (0, 0, 0, ()))).2.2.1) != 0)))) then
            bif ((k13 (List.getD s6 (Int.toNat s7) (0, 0, 0, 0, ()))) || (!((!((((List.getD s6 (Int.toNat s7) (0, 0, 0, 0, ()))).1) != (((List.getD s0 (Int.toNat s7) (0, 0, 0, ()))).1))) && ((((List.getD s0 (Int.toNat s7) (0, 0, 0, ()))).2.2.1) != 0)))) then
              bif ((inB s7 (List.length s0)) || (!(!(bif ((((List.getD s6 (Int.toNat s7) (0, 0, 0, 0, ()))).1) != (((List.getD s0 (Int.toNat s7) (0, 0, 0, ()))).1)) then true else (bif ((((List.getD s0 (Int.toNat s7) (0, 0, 0, ()))).2.2.1) != 0) then ((r13 (List.getD s6 (Int.toNat s7) (0, 0, 0, 0, ()))) != 0) else false))))) then
                bif ((inB s7 (List.length s6)) || (!((!(bif ((((List.getD s6 (Int.toNat s7) (0, 0, 0, 0, ()))).1) != (((List.getD s0 (Int.toNat s7) (0, 0, 0, ()))).1)) then true else (bif ((((List.getD s0 (Int.toNat s7) (0, 0, 0, ()))).2.2.1) != 0) then ((r13 (List.getD s6 (Int.toNat s7) (0, 0, 0, 0, ()))) != 0) else false))) && ((((List.getD s0 (Int.toNat s7) (0, 0, 0, ()))).2.2.1) == 0)))) then
                  bif ((inB s7 (List.length s0)) || (!((!(bif ((((List.getD s6 (Int.toNat s7) (0, 0, 0, 0, ()))).1) != (((List.getD s0 (Int.toNat s7) (0, 0, 0, ()))).1)) then true else (bif ((((List.getD s0 (Int.toNat s7) (0, 0, 0, ()))).2.2.1) != 0) then ((r13 (List.getD s6 (Int.toNat s7) (0, 0, 0, 0, ()))) != 0) else false))) && ((((List.getD s0 (Int.toNat s7) (0, 0, 0, ()))).2.2.1) == 0)))) then
                    bif (bif (bif ((((List.getD s6 (Int.toNat s7) (0, 0, 0, 0, ()))).1) != (((List.getD s0 (Int.toNat s7) (0, 0, 0, ()))).1)) then true else (bif ((((List.getD s0 (Int.toNat s7) (0, 0, 0, ()))).2.2.1) != 0) then ((r13 (List.getD s6 (Int.toNat s7) (0, 0, 0, 0, ()))) != 0) else false)) then true else (bif ((((List.getD s0 (Int.toNat s7) (0, 0, 0, ()))).2.2.1) == 0) then ((((List.getD s6 (Int.toNat s7) (0, 0, 0, 0, ()))).2.1) != (((List.getD s0 (Int.toNat s7) (0, 0, 0, ()))).2.1)) else false)) then
                      .ret (.tv (B false))
                    else
                      .loop M6a.body M6a.kont (S6a s0 s6 (w (s7 + 1)))
                  else
                    .fail
                else
                  .fail
              else
                .fail
            else
              .fail
          else
            .fail
        else
          .fail
      else
        .fail
    else
      .fail
  else
    bif k8 then
      .ret (.tv (B r8))
    else
      .fail := by kernel_rfl
theorem e6 (G : Tbl) (k8 : Bool) (r8 : Bool) (k10 : (List (Ty.D Aw)) → (List (Ty.D Po)) → Bool) (r10 : (List (Ty.D Aw)) → (List (Ty.D Po)) → (List (Ty.D Po))) (k13 : (Ty.D Po) → Bool) (r13 : (Ty.D Po) → Int) (a0 : (List (Ty.D Aw))) (a1 : (List (Ty.D Po))) :
    runL (((G.add 8 (FC0  k8 (.tv (B r8)))).add 10 (FC2 LA LP k10 (fun x0 x1 => .tv (TD.mk LP (r10 x0 x1))))).add 13 (FC1 Po k13 (fun x0 => .tv (I (r13 x0))))) [(258, [0, 1, 5]), (770, [0, 6, 7])] Try.f6 1000 (bod Try.f6) (entry [(TD.mk LA a0), (TD.mk LP a1)]) =
  bif (bif (decide (((List.length a0 : Nat) : Int) > 200)) then true else (decide (((List.length a1 : Nat) : Int) > 500))) then
    bif k8 then
      .ret (.tv (B r8))
    else
      .fail
  else
    .loop M6.body M6.kont (S6 a0 a1 0) := by kernel_rfl

noncomputable def M7 : Leaf := .loop (cAt Try.f7 [1, 1, 0, 1, 0, 0]) [.inBlock 0, .code (cAt Try.f7 [1, 1, 1])] ⟨[], []⟩
def S7 (s0 : (List (Ty.D Po))) (s3 : Int) : St := ⟨[(0, .tv (TD.mk LP s0)), (3, .tv (I s3))], []⟩
theorem i7 (G : Tbl) (k8 : Bool) (r8 : Bool) (k12 : (Ty.D Po) → Int → Bool) (r12 : (Ty.D Po) → Int → Bool) (k17 : (List (Ty.D Po)) → Bool) (r17_0 : (List (Ty.D Po)) → Int) (r17_1 : (List (Ty.D Po)) → Int) (k18 : (List (Ty.D Po)) → Bool) (r18_0 : (List (Ty.D Po)) → Int) (r18_1 : (List (Ty.D Po)) → Int) (s0 : (List (Ty.D Po))) (s3 : Int) :
    runL ((((G.add 8 (FC0  k8 (.tv (B r8)))).add 12 (FC2 Po (.int .i64) k12 (fun x0 x1 => .tv (B (r12 x0 x1))))).add 17 (FC1 LP k17 (fun x0 => .tup [.tv (I (r17_0 x0)), .tv (I (r17_1 x0))]))).add 18 (FC1 LP k18 (fun x0 => .tup [.tv (I (r18_0 x0)), .tv (I (r18_1 x0))]))) [(258, [0, 3])] Try.f7 1000 M7.round (S7 s0 s3) =
  bif (decide (s3 < ((List.length s0 : Nat) : Int))) then
    bif (inB s3 (List.length s0)) then
      bif (k12 (List.getD s0 (Int.toNat s3) (0, 0, 0, 0, ())) 4503599627370496) then
        bif (!(r12 (List.getD s0 (Int.toNat s3) (0, 0, 0, 0, ())) 4503599627370496)) then
          bif k8 then
            .ret (.tv (B r8))
          else
            .fail
        else
          .loop M7.body M7.kont (S7 s0 (w (s3 + 1)))
      else
        .fail
    else
      .fail
  else
    bif (k17 s0) then
      bif (k18 s0) then
        bif (k8 || (!(bif ((r17_0 s0) == (r18_0 s0)) then ((r17_1 s0) == (r18_1 s0)) else false))) then
          .ret (.tv (B (bif (bif ((r17_0 s0) == (r18_0 s0)) then ((r17_1 s0) == (r18_1 s0)) else false) then r8 else false)))
        else
          .fail
      else
        .fail
    else
      .fail := by kernel_rfl
theorem e7 (G : Tbl) (k8 : Bool) (r8 : Bool) (k12 : (Ty.D Po) → Int → Bool) (r12 : (Ty.D Po) → Int → Bool) (k17 : (List (Ty.D Po)) → Bool) (r17_0 : (List (Ty.D Po)) → Int) (r17_1 : (List (Ty.D Po)) → Int) (k18 : (List (Ty.D Po)) → Bool) (r18_0 : (List (Ty.D Po)) → Int) (r18_1 : (List (Ty.D Po)) → Int) (a0 : (List (Ty.D Po))) :
    runL ((((G.add 8 (FC0  k8 (.tv (B r8)))).add 12 (FC2 Po (.int .i64) k12 (fun x0 x1 => .tv (B (r12 x0 x1))))).add 17 (FC1 LP k17 (fun x0 => .tup [.tv (I (r17_0 x0)), .tv (I (r17_1 x0))]))).add 18 (FC1 LP k18 (fun x0 => .tup [.tv (I (r18_0 x0)), .tv (I (r18_1 x0))]))) [(258, [0, 3])] Try.f7 1000 (bod Try.f7) (entry [(TD.mk LP a0)]) =
  bif (decide (((List.length a0 : Nat) : Int) > 256)) then
    bif k8 then
      .ret (.tv (B r8))
    else
      .fail
  else
    .loop M7.body M7.kont (S7 a0 0) := by kernel_rfl


/-! the laws -/
theorem maxI1 (a b : Int) : maxI [b] a = max a b := by show (if b > a then b else a) = _; omega
noncomputable def G3 : Tbl := (((Tbl.none.add 8 FAwake).add 9 FSameP).add 10 FOf).add 11 FOf
theorem loop3 (aw : List Aw.D) (l : List Po.D) (hl : l.length ≤ lenBound) (hk : kOf aw l = true) : ∀ (k : Nat) (i : Nat), i + k = l.length →
    Goes G3 T Try.f3.ntmps Try.f3.results.toList (.loop M3.body M3.kont (S3 aw l i)) (.tv (B true))
  | 0, i, h => by
    refine Goes.lp' (i3 Tbl.none true true (fun a _ => lenOK (List.length a)) sameP kOf ofV kOf ofV aw l i) ?_
    have h9 : lenOK (List.length (ofV aw l)) = true := by
      simp only [kOf, Bool.and_eq_true] at hk
      unfold ofV; rw [List.length_map]; exact hk.1
    rw [decide_eq_false (show ¬ (i : Int) < ((l.length : Nat) : Int) by omega), hk, h9, sameP_self]
    exact .ret _
  | k + 1, i, h => by
    refine Goes.lp' (i3 Tbl.none true true (fun a _ => lenOK (List.length a)) sameP kOf ofV kOf ofV aw l i) ?_
    have hi : (i : Int) < ((l.length : Nat) : Int) := by omega
    rw [decide_eq_true hi, cond_true, toNat_lt (by omega) hi, cond_true, Bool.true_or, cond_true, w_step (by omega) hi hl, bor_bif]
    refine .bif (fun _ => .ret _) fun _ => ?_
    exact loop3 aw l hl hk k (i + 1) (by omega)
theorem small {n : Nat} {m : Int} (h : decide (((n : Nat) : Int) > m) = false) (hm : m ≤ 500) : lenOK n = true := by
  have := of_decide_eq_false h
  refine decide_eq_true ?_
  show n ≤ 68719476736
  omega
noncomputable def FLaw3 := FC2 LA LP (fun _ _ => true) fun _ _ => .tv (B true)
theorem has3 : Hs 3 FLaw3 := by
  refine Has.fc2 (fn := Try.f3) ((((env0.more has8).more has_Same).more has_Of).more has_OfR) (by kernel_rfl) (by kernel_rfl) (by kernel_rfl) (by kernel_rfl) fun aw l _ => .run1 (e3 Tbl.none true true (fun a _ => lenOK (List.length a)) sameP kOf ofV kOf ofV aw l) ?_
  rw [bor_bif]
  refine .bif (fun _ => .ret _) fun g => ?_
  obtain ⟨g1, g2⟩ := Bool.or_eq_false_iff.1 g
  have h1 := small g1 (by omega)
  have h2 := small g2 (by omega)
  exact loop3 aw l (lenOK_spec h2) (by unfold kOf smOK; rw [h1, h2]; rfl) (List.length l) 0 (by omega)

noncomputable def FLaw4 := FC1 Po (fun _ => true) fun _ => .tv (B true)
theorem has4 : Hs 4 FLaw4 := by
  refine Has.fc1 (fn := Try.f4) ((((((env0.more has8).more has12).more has13).more has14).more has15).more has16) (by kernel_rfl) (by kernel_rfl) (by kernel_rfl) (by kernel_rfl) fun b _ => .run1 (e4 Tbl.none true true (fun _ _ => true) withinV (fun _ => true) arrV (fun _ => true) arrV (fun _ => true) overV (fun _ => true) overV b) ?_
  rw [cond_true]
  refine .bif (fun _ => .ret _) fun _ => ?_
  simp only [beq_self_eq_true, cond_true, Bool.true_or]
  exact .ret _

theorem withinE {b : Po.D} (h : withinV b 1152921504606846976 = true) : -1152921504606846976 ≤ b.2.1 ∧ b.2.1 ≤ 1152921504606846976 ∧ -1152921504606846976 ≤ b.2.2.1 ∧ b.2.2.1 ≤ 1152921504606846976 ∧ -1152921504606846976 ≤ b.2.2.2.1 ∧ b.2.2.2.1 ≤ 1152921504606846976 := by
  unfold withinV at h
  rw [show w (0 - 1152921504606846976) = -1152921504606846976 by kernel_rfl] at h
  simp only [Bool.and_eq_true, decide_eq_true_eq] at h
  obtain ⟨⟨⟨⟨⟨a1, a2⟩, a3⟩, a4⟩, a5⟩, a6⟩ := h
  exact ⟨a1, a2, a3, a4, a5, a6⟩
theorem ident {du re wa : Int} (h : -1152921504606846976 ≤ du ∧ du ≤ 1152921504606846976 ∧ -1152921504606846976 ≤ re ∧ re ≤ 1152921504606846976 ∧ -1152921504606846976 ≤ wa ∧ wa ≤ 1152921504606846976) (hwa : ¬ wa < 0) :
    (decide (maxI [0] (w (du - re)) < 0) || decide (maxI [0] (w (w (re - du) - wa)) < 0) || (decide (maxI [0] (w (du - re)) > 0) && decide (maxI [0] (w (w (re - du) - wa)) > 0))) = false ∧
    (w (du + maxI [0] (w (w (re - du) - 0))) == w (re + maxI [0] (w (du - re)))) = true := by
  rw [show w (du - re) = du - re from wrap_id (by omega) (by omega), show w (re - du) = re - du from wrap_id (by omega) (by omega), show w (re - du - wa) = re - du - wa from wrap_id (by omega) (by omega), show w (re - du - 0) = re - du - 0 from wrap_id (by omega) (by omega)]
  simp only [maxI1]
  rw [show w (du + max (re - du - 0) 0) = du + max (re - du - 0) 0 from wrap_id (by omega) (by omega), show w (re + max (du - re) 0) = re + max (du - re) 0 from wrap_id (by omega) (by omega)]
  constructor
  · simp only [Bool.or_eq_false_iff, Bool.and_eq_false_iff, decide_eq_false_iff_not]
    omega
  · rw [beq_iff_eq]; omega
theorem has5 : Hs 5 FLaw4 := by
  refine Has.fc1 (fn := Try.f5) ((((env0.more has8).more has12).more has13).more has15) (by kernel_rfl) (by kernel_rfl) (by kernel_rfl) (by kernel_rfl) fun b _ => .run1 (e5 Tbl.none true true (fun _ _ => true) withinV (fun _ => true) arrV (fun _ => true) overV b) ?_
  obtain ⟨mo, du, re, wa, u⟩ := b
  simp only [cond_true, bor_bif, band_bif, Bool.true_or]
  refine .bif (fun _ => .ret _) fun g => ?_
  obtain ⟨g1, g2⟩ := Bool.or_eq_false_iff.1 g
  obtain ⟨i1, i2⟩ := ident (withinE (b := (mo, du, re, wa, u)) (by simpa using g1)) (of_decide_eq_false g2)
  refine .bif (fun g => absurd (g.symm.trans i1) (by simp)) fun _ => .ret' ?_
  rw [Bool.and_true]
  exact congrArg (fun b => SV.tv (B b)) i2

noncomputable def G6 : Tbl := ((Tbl.none.add 8 FAwake).add 10 FOf).add 13 FArr
theorem ofV_getD (aw : List Aw.D) (l : List Po.D) (i : Nat) (h : i < aw.length) : (ofV aw l).getD i (0, 0, 0, 0, ()) = row l (aw.getD i (0, 0, 0, ())) := by
  unfold ofV
  simp [List.getD, h]
theorem loop6a (aw : List Aw.D) (l : List Po.D) (hl : aw.length ≤ lenBound) : ∀ (k : Nat) (i : Nat), i + k = aw.length →
    Goes G6 T Try.f6.ntmps Try.f6.results.toList (.loop M6a.body M6a.kont (S6a aw (ofV aw l) i)) (.tv (B true))
  | 0, i, h => by
    refine Goes.lp' (i6a Tbl.none true true kOf ofV (fun _ => true) arrV aw (ofV aw l) i) ?_
    have hlen : (ofV aw l).length = aw.length := by unfold ofV; simp
    rw [decide_eq_false (show ¬ (i : Int) < (((ofV aw l).length : Nat) : Int) by omega)]
    exact .ret _
  | k + 1, i, h => by
    refine Goes.lp' (i6a Tbl.none true true kOf ofV (fun _ => true) arrV aw (ofV aw l) i) ?_
    have hlen : (ofV aw l).length = aw.length := by unfold ofV; simp
    have hi : (i : Int) < ((aw.length : Nat) : Int) := by omega
    have hj : (i : Int) < (((ofV aw l).length : Nat) : Int) := by omega
    rw [decide_eq_true hj, cond_true, toNat_lt (by omega) hj, cond_true, toNat_lt (by omega) hi, cond_true, Int.toNat_natCast, ofV_getD aw l i (by omega)]
    rw [w_step (by omega) hi hl]
    generalize aw.getD i (0, 0, 0, ()) = b
    simp only [Bool.true_or, cond_true]
    have e1 : (row l b).1 = b.1 := by unfold row; cases (b.2.2.1 != 0) <;> rfl
    rw [e1]
    have hne : (b.1 != b.1) = false := by simp
    rw [hne, cond_false]
    cases hb : (b.2.2.1 != 0) with
    | true =>
      have hz : (b.2.2.1 == 0) = false := by simpa using hb
      have ha : arrV (row l b) = 0 := by
        unfold row; rw [hb]; unfold arrV
        simp only [cond_true]
        rw [maxI1, Int.sub_self]; rfl
      rw [ha, hz]
      exact loop6a aw l hl k (i + 1) (by omega)
    | false =>
      have hz : (b.2.2.1 == 0) = true := by simpa using hb
      have hd : (row l b).2.1 = b.2.1 := by unfold row; rw [hb]; rfl
      rw [hz, hd]
      have hne2 : (b.2.1 != b.2.1) = false := by simp
      rw [hne2]
      exact loop6a aw l hl k (i + 1) (by omega)
theorem loop6 (aw : List Aw.D) (l : List Po.D) (hl : l.length ≤ lenBound) (ha : aw.length ≤ lenBound) (hk : kOf aw l = true) : ∀ (k : Nat) (i : Nat), i + k = l.length →
    Goes G6 T Try.f6.ntmps Try.f6.results.toList (.loop M6.body M6.kont (S6 aw l i)) (.tv (B true))
  | 0, i, h => by
    refine Goes.lp' (i6 Tbl.none true true kOf ofV (fun _ => true) arrV aw l i) ?_
    have hlen : (ofV aw l).length = aw.length := by unfold ofV; simp
    rw [decide_eq_false (show ¬ (i : Int) < ((l.length : Nat) : Int) by omega), hk, hlen]
    simp only [cond_false, cond_true, bne_self_eq_false]
    exact loop6a aw l ha aw.length 0 (by omega)
  | k + 1, i, h => by
    refine Goes.lp' (i6 Tbl.none true true kOf ofV (fun _ => true) arrV aw l i) ?_
    have hi : (i : Int) < ((l.length : Nat) : Int) := by omega
    rw [decide_eq_true hi, cond_true, toNat_lt (by omega) hi, cond_true, Bool.true_or, cond_true, w_step (by omega) hi hl, bor_bif]
    refine .bif (fun _ => .ret _) fun _ => ?_
    exact loop6 aw l hl ha hk k (i + 1) (by omega)
theorem has6 : Hs 6 FLaw3 := by
  refine Has.fc2 (fn := Try.f6) (((env0.more has8).more has_Of).more has13) (by kernel_rfl) (by kernel_rfl) (by kernel_rfl) (by kernel_rfl) fun aw l _ => .run1 (e6 Tbl.none true true kOf ofV (fun _ => true) arrV aw l) ?_
  rw [bor_bif]
  refine .bif (fun _ => .ret _) fun g => ?_
  obtain ⟨g1, g2⟩ := Bool.or_eq_false_iff.1 g
  have h1 := small g1 (by omega)
  have h2 := small g2 (by omega)
  exact loop6 aw l (lenOK_spec h2) (lenOK_spec h1) (by unfold kOf smOK; rw [h1, h2]; rfl) (List.length l) 0 (by omega)

noncomputable def G7 : Tbl := (((Tbl.none.add 8 FAwake).add 12 FWithin).add 17 FTot).add 18 FTot
theorem loop7 (l : List Po.D) (hl : l.length ≤ lenBound) : ∀ (k : Nat) (i : Nat), i + k = l.length →
    Goes G7 T Try.f7.ntmps Try.f7.results.toList (.loop M7.body M7.kont (S7 l i)) (.tv (B true))
  | 0, i, h => by
    refine Goes.lp' (i7 Tbl.none true true (fun _ _ => true) withinV (fun l => lenOK (List.length l)) (fun l => tot arrV l 0) (fun l => tot overV l 0) (fun l => lenOK (List.length l)) (fun l => tot arrV l 0) (fun l => tot overV l 0) l i) ?_
    have hlo : lenOK (List.length l) = true := decide_eq_true hl
    rw [decide_eq_false (show ¬ (i : Int) < ((l.length : Nat) : Int) by omega), hlo]
    simp only [beq_self_eq_true, cond_true, cond_false, Bool.true_or]
    exact .ret _
  | k + 1, i, h => by
    refine Goes.lp' (i7 Tbl.none true true (fun _ _ => true) withinV (fun l => lenOK (List.length l)) (fun l => tot arrV l 0) (fun l => tot overV l 0) (fun l => lenOK (List.length l)) (fun l => tot arrV l 0) (fun l => tot overV l 0) l i) ?_
    have hi : (i : Int) < ((l.length : Nat) : Int) := by omega
    rw [decide_eq_true hi, cond_true, toNat_lt (by omega) hi, cond_true, cond_true, w_step (by omega) hi hl]
    refine .bif (fun _ => .ret _) fun _ => ?_
    exact loop7 l hl k (i + 1) (by omega)
noncomputable def FLaw7 := FC1 LP (fun _ => true) fun _ => .tv (B true)
theorem has7 : Hs 7 FLaw7 := by
  refine Has.fc1 (fn := Try.f7) ((((env0.more has8).more has12).more has17).more has18) (by kernel_rfl) (by kernel_rfl) (by kernel_rfl) (by kernel_rfl) fun l _ => .run1 (e7 Tbl.none true true (fun _ _ => true) withinV (fun l => lenOK (List.length l)) (fun l => tot arrV l 0) (fun l => tot overV l 0) (fun l => lenOK (List.length l)) (fun l => tot arrV l 0) (fun l => tot overV l 0) l) ?_
  refine .bif (fun _ => .ret _) fun g => ?_
  exact loop7 l (lenOK_spec (small g (by omega))) (List.length l) 0 (by omega)
end Go.Lift.V38
