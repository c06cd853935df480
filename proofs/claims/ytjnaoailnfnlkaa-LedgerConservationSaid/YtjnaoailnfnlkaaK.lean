/- A part of the proof that the law returns true for every input: no condition. -/
import Derived.Test.YtjnaoailnfnlkaaJ
import Derived.Shelf.Spec.SlicesInsertGrow
set_option maxRecDepth 100000
set_option linter.unusedVariables false
set_option linter.unusedSimpArgs false
namespace Go.Lift.V37
open Go.Lift Go.Proofs

abbrev Rg : Ty := .cons (.int .i64) (.cons (.int .i64) .nil)
noncomputable def M9k : Leaf := .loop (cAt Try.f9 [1, 1, 1, 0, 1, 0, 0]) [.inBlock 0, .code (cAt Try.f9 [1, 1, 1, 1])] ⟨[], []⟩
def S9k (s0 : (List (Ty.D Po))) (s11 : (List (Ty.D Po))) (s12 : Int) (s13 : Int) (b4 : (List (Int × Int))) : St := ⟨[(0, .tv (TD.mk LP s0)), (4, .mref 4), (11, .tv (TD.mk LP s11)), (12, .tv (I s12)), (13, .tv (I s13))], [(4, .mp 40 b4)]⟩
noncomputable def c9_18  (s0 : (List (Ty.D Po))) (s11 : (List (Ty.D Po))) (s12 : Int) (s13 : Int) (s5 : Int) (b4 : (List (Int × Int))) (b6 : (Ty.D Po)) : Leaf :=
  bif ((inB (w (s5 - 1)) (List.length s0)) || (!(decide (s5 > 0)))) then
    bif (bif (decide (s5 > 0)) then (decide (b6.1 < ((List.getD s0 (Int.toNat (w (s5 - 1))) (0, 0, 0, 0, ()))).1)) else false) then
      .ret (.tup [.tv (I s5), .tv (I 9)])
    else
      bif (decide ((mget b4 b6.2.1) < 0)) then
        .ret (.tup [.tv (I s5), .tv (I 13)])
      else
        .loop M9k.body M9k.kont (S9k s0 s11 s12 (w (s13 + 1)) b4)
  else
    .fail
noncomputable def c9_15  (s0 : (List (Ty.D Po))) (s11 : (List (Ty.D Po))) (s12 : Int) (s13 : Int) (s5 : Int) (b4 : (List (Int × Int))) (b6 : (Ty.D Po)) : Leaf :=
  bif (decide (b6.2.2.1 < 1)) then
    bif (decide (b6.2.2.1 < 1)) then
      .ret (.tup [.tv (I s5), .tv (I 1)])
    else
      c9_18  s0 s11 s12 s13 s5 b4 b6
  else
    bif (decide (b6.2.2.1 > 4)) then
      .ret (.tup [.tv (I s5), .tv (I 1)])
    else
      c9_18  s0 s11 s12 s13 s5 b4 b6
theorem i9k (G : Tbl) (k20 : (Ty.D Po) → Bool) (r20 : (Ty.D Po) → Int) (s0 : (List (Ty.D Po))) (s11 : (List (Ty.D Po))) (s12 : Int) (s13 : Int) (b4 : (List (Int × Int))) :
    runL ((G.add 20 (FC1 Po k20 (fun x0 => .tv (I (r20 x0))))).addM 40) [(322, [0, 4, 11, 12, 13])] Try.f9 1000 M9k.round (S9k s0 s11 s12 s13 b4) =
  bif (decide (s13 < s12)) then
    bif (inB s13 (List.length s11)) then
      bif (k20 (List.getD s11 (Int.toNat s13) (0, 0, 0, 0, ()))) then
        bif (decide (((List.getD s11 (Int.toNat s13) (0, 0, 0, 0, ()))).1 < 0)) then
          bif (decide (((List.getD s11 (Int.toNat s13) (0, 0, 0, 0, ()))).1 < 0)) then
            .ret (.tup [.tv (I s13), .tv (I 3)])
          else
            c9_15  s0 s11 s12 s13 s13 (mput b4 (((List.getD s11 (Int.toNat s13) (0, 0, 0, 0, ()))).2.1) (w ((mget b4 (((List.getD s11 (Int.toNat s13) (0, 0, 0, 0, ()))).2.1)) + (r20 (List.getD s11 (Int.toNat s13) (0, 0, 0, 0, ())))))) (List.getD s11 (Int.toNat s13) (0, 0, 0, 0, ()))
        else
          bif (decide (((List.getD s11 (Int.toNat s13) (0, 0, 0, 0, ()))).1 > 109572)) then
            bif (decide (((List.getD s11 (Int.toNat s13) (0, 0, 0, 0, ()))).1 > 109572)) then
              .ret (.tup [.tv (I s13), .tv (I 3)])
            else
              c9_15  s0 s11 s12 s13 s13 (mput b4 (((List.getD s11 (Int.toNat s13) (0, 0, 0, 0, ()))).2.1) (w ((mget b4 (((List.getD s11 (Int.toNat s13) (0, 0, 0, 0, ()))).2.1)) + (r20 (List.getD s11 (Int.toNat s13) (0, 0, 0, 0, ())))))) (List.getD s11 (Int.toNat s13) (0, 0, 0, 0, ()))
          else
            bif (decide (((List.getD s11 (Int.toNat s13) (0, 0, 0, 0, ()))).2.1 < 0)) then
              bif (decide (((List.getD s11 (Int.toNat s13) (0, 0, 0, 0, ()))).2.1 < 0)) then
                .ret (.tup [.tv (I s13), .tv (I 3)])
              else
                c9_15  s0 s11 s12 s13 s13 (mput b4 (((List.getD s11 (Int.toNat s13) (0, 0, 0, 0, ()))).2.1) (w ((mget b4 (((List.getD s11 (Int.toNat s13) (0, 0, 0, 0, ()))).2.1)) + (r20 (List.getD s11 (Int.toNat s13) (0, 0, 0, 0, ())))))) (List.getD s11 (Int.toNat s13) (0, 0, 0, 0, ()))
            else
              bif (decide (((List.getD s11 (Int.toNat s13) (0, 0, 0, 0, ()))).2.1 > 3599)) then
                bif (decide (((List.getD s11 (Int.toNat s13) (0, 0, 0, 0, ()))).2.1 > 3599)) then
                  .ret (.tup [.tv (I s13), .tv (I 3)])
                else
                  c9_15  s0 s11 s12 s13 s13 (mput b4 (((List.getD s11 (Int.toNat s13) (0, 0, 0, 0, ()))).2.1) (w ((mget b4 (((List.getD s11 (Int.toNat s13) (0, 0, 0, 0, ()))).2.1)) + (r20 (List.getD s11 (Int.toNat s13) (0, 0, 0, 0, ())))))) (List.getD s11 (Int.toNat s13) (0, 0, 0, 0, ()))
              else
                bif (decide (((List.getD s11 (Int.toNat s13) (0, 0, 0, 0, ()))).2.2.2.1 < 1)) then
                  bif (decide (((List.getD s11 (Int.toNat s13) (0, 0, 0, 0, ()))).2.2.2.1 < 1)) then
                    .ret (.tup [.tv (I s13), .tv (I 3)])
                  else
                    c9_15  s0 s11 s12 s13 s13 (mput b4 (((List.getD s11 (Int.toNat s13) (0, 0, 0, 0, ()))).2.1) (w ((mget b4 (((List.getD s11 (Int.toNat s13) (0, 0, 0, 0, ()))).2.1)) + (r20 (List.getD s11 (Int.toNat s13) (0, 0, 0, 0, ())))))) (List.getD s11 (Int.toNat s13) (0, 0, 0, 0, ()))
                else
                  bif (decide (((List.getD s11 (Int.toNat s13) (0, 0, 0, 0, ()))).2.2.2.1 > 1000000000000000)) then
                    .ret (.tup [.tv (I s13), .tv (I 3)])
                  else
                    c9_15  s0 s11 s12 s13 s13 (mput b4 (((List.getD s11 (Int.toNat s13) (0, 0, 0, 0, ()))).2.1) (w ((mget b4 (((List.getD s11 (Int.toNat s13) (0, 0, 0, 0, ()))).2.1)) + (r20 (List.getD s11 (Int.toNat s13) (0, 0, 0, 0, ())))))) (List.getD s11 (Int.toNat s13) (0, 0, 0, 0, ()))
      else
        .fail
    else
      .fail
  else
    .ret (.tup [.tv (I 0), .tv (I 0)]) := by kernel_rfl
theorem e9k (G : Tbl) (k20 : (Ty.D Po) → Bool) (r20 : (Ty.D Po) → Int) (a0 : (List (Ty.D Po))) :
    runL ((G.add 20 (FC1 Po k20 (fun x0 => .tv (I (r20 x0))))).addM 40) [(322, [0, 4, 11, 12, 13])] Try.f9 1000 (bod Try.f9) (entry [(TD.mk LP a0)]) =
  bif (decide (((List.length a0 : Nat) : Int) > 4096)) then
    .ret (.tup [.tv (I 4096), .tv (I 4)])
  else
    .loop M9k.body M9k.kont (S9k a0 a0 ((List.length a0 : Nat) : Int) 0 []) := by kernel_rfl

noncomputable def M10k : Leaf := .loop (cAt Try.f10 [1, 1, 0, 1, 0, 0]) [.inBlock 0, .code (cAt Try.f10 [1, 1, 1])] ⟨[], []⟩
def S10k (s0 : (List (Ty.D Po))) (s4 : Int) : St := ⟨[(0, .tv (TD.mk LP s0)), (4, .tv (I s4))], []⟩
theorem i10k (G : Tbl) (k12 : (List (Ty.D Po)) → Int → Bool) (r12 : (List (Ty.D Po)) → Int → Int) (s0 : (List (Ty.D Po))) (s4 : Int) :
    runL (G.add 12 (FC2 LP (.int .i64) k12 (fun x0 x1 => .tv (I (r12 x0 x1))))) [(258, [0, 4])] Try.f10 1000 M10k.round (S10k s0 s4) =
  bif (decide (s4 < ((List.length s0 : Nat) : Int))) then
    bif (inB s4 (List.length s0)) then
      bif (bif (bif (bif (bif (bif (decide (((List.getD s0 (Int.toNat s4) (0, 0, 0, 0, ()))).1 < 0)) then true else (decide (((List.getD s0 (Int.toNat s4) (0, 0, 0, 0, ()))).1 > 109572))) then true else (decide (((List.getD s0 (Int.toNat s4) (0, 0, 0, 0, ()))).2.1 < 0))) then true else (decide (((List.getD s0 (Int.toNat s4) (0, 0, 0, 0, ()))).2.1 > 3599))) then true else (decide (((List.getD s0 (Int.toNat s4) (0, 0, 0, 0, ()))).2.2.2.1 < 1))) then true else (decide (((List.getD s0 (Int.toNat s4) (0, 0, 0, 0, ()))).2.2.2.1 > 1000000000000000))) then
        .ret (.tup [.tv (I s4), .tv (I 3)])
      else
        bif (bif (decide (((List.getD s0 (Int.toNat s4) (0, 0, 0, 0, ()))).2.2.1 < 1)) then true else (decide (((List.getD s0 (Int.toNat s4) (0, 0, 0, 0, ()))).2.2.1 > 4))) then
          .ret (.tup [.tv (I s4), .tv (I 1)])
        else
          bif ((inB (w (s4 - 1)) (List.length s0)) || (!(decide (s4 > 0)))) then
            bif (bif (decide (s4 > 0)) then (decide (((List.getD s0 (Int.toNat s4) (0, 0, 0, 0, ()))).1 < ((List.getD s0 (Int.toNat (w (s4 - 1))) (0, 0, 0, 0, ()))).1)) else false) then
              .ret (.tup [.tv (I s4), .tv (I 9)])
            else
              bif (decide (0 ≤ 0) && decide (0 ≤ (w (s4 + 1))) && decide ((w (s4 + 1)) ≤ ((List.length s0 : Nat) : Int))) then
                bif (k12 (tail s0 0 (Int.toNat (w (s4 + 1)))) (((List.getD s0 (Int.toNat s4) (0, 0, 0, 0, ()))).2.1)) then
                  bif (decide ((r12 (tail s0 0 (Int.toNat (w (s4 + 1)))) (((List.getD s0 (Int.toNat s4) (0, 0, 0, 0, ()))).2.1)) < 0)) then
                    .ret (.tup [.tv (I s4), .tv (I 13)])
                  else
                    .loop M10k.body M10k.kont (S10k s0 (w (s4 + 1)))
                else
                  .fail
              else
                .fail
          else
            .fail
    else
      .fail
  else
    .ret (.tup [.tv (I 0), .tv (I 0)]) := by kernel_rfl
theorem e10k (G : Tbl) (k12 : (List (Ty.D Po)) → Int → Bool) (r12 : (List (Ty.D Po)) → Int → Int) (a0 : (List (Ty.D Po))) :
    runL (G.add 12 (FC2 LP (.int .i64) k12 (fun x0 x1 => .tv (I (r12 x0 x1))))) [(258, [0, 4])] Try.f10 1000 (bod Try.f10) (entry [(TD.mk LP a0)]) =
  bif (decide (((List.length a0 : Nat) : Int) > 4096)) then
    .ret (.tup [.tv (I 4096), .tv (I 4)])
  else
    .loop M10k.body M10k.kont (S10k a0 0) := by kernel_rfl

theorem e26k (G : Tbl)  (a0 : (Ty.D Po)) (a1 : (Ty.D (.ptr (.cons (.int .i64) (.cons (.int .i64) (.nil)))))) :
    runL G [] Try.f26 1000 (bod Try.f26) (entry [(TD.mk Po a0), (TD.mk (.ptr (.cons (.int .i64) (.cons (.int .i64) (.nil)))) a1)]) =
  bif a1.1 then
    bif (a1.1 || (!(decide (a1.2.1 ≤ a0.1)))) then
      .ret (.tv (B (bif (decide (a1.2.1 ≤ a0.1)) then (decide (a0.1 < a1.2.2.1)) else false)))
    else
      .fail
  else
    .fail := by kernel_rfl

theorem e15k (G : Tbl) (k21 : (Ty.D (.seq (.cons (.int .i64) (.cons (.int .i64) (.cons (.int .i64) (.cons (.int .i64) (.nil))))))) → Bool) (r21 : (Ty.D (.seq (.cons (.int .i64) (.cons (.int .i64) (.cons (.int .i64) (.cons (.int .i64) (.nil))))))) → Int) (k22 : (List (Ty.D Po)) → (Ty.D (.fn (.cons (.cons (.int .i64) (.cons (.int .i64) (.cons (.int .i64) (.cons (.int .i64) (.nil))))) (.nil)) (.bool))) → Bool) (r22 : (List (Ty.D Po)) → (Ty.D (.fn (.cons (.cons (.int .i64) (.cons (.int .i64) (.cons (.int .i64) (.cons (.int .i64) (.nil))))) (.nil)) (.bool))) → (Ty.D (.seq (.cons (.int .i64) (.cons (.int .i64) (.cons (.int .i64) (.cons (.int .i64) (.nil)))))))) (k26 : (Ty.D Po) → (Ty.D (.ptr (.cons (.int .i64) (.cons (.int .i64) (.nil))))) → Bool) (r26 : (Ty.D Po) → (Ty.D (.ptr (.cons (.int .i64) (.cons (.int .i64) (.nil))))) → Bool) (a0 : (List (Ty.D Po))) (a1 : (Ty.D Rg)) :
    runL (((G.add 21 (FC1 (.seq (.cons (.int .i64) (.cons (.int .i64) (.cons (.int .i64) (.cons (.int .i64) (.nil)))))) k21 (fun x0 => .tv (I (r21 x0))))).add 22 (FC2 LP (.fn (.cons (.cons (.int .i64) (.cons (.int .i64) (.cons (.int .i64) (.cons (.int .i64) (.nil))))) (.nil)) (.bool)) k22 (fun x0 x1 => .tv (TD.mk (.seq (.cons (.int .i64) (.cons (.int .i64) (.cons (.int .i64) (.cons (.int .i64) (.nil)))))) (r22 x0 x1))))).add 26 (FC2 Po (.ptr (.cons (.int .i64) (.cons (.int .i64) (.nil)))) k26 (fun x0 x1 => .tv (B (r26 x0 x1))))) [] Try.f15 1000 (bod Try.f15) (entry [(TD.mk LP a0), (TD.mk Rg a1)]) =
  bif (bif (bif (decide (a1.1 < 0)) then true else (decide (a1.1 > a1.2.1))) then true else (decide (a1.2.1 > 109573))) then
    .ret (.tv (I 0))
  else
    bif (k22 a0 (fun z => (k26 z.1 (true, a1), r26 z.1 (true, a1)))) then
      bif (k21 (r22 a0 (fun z => (k26 z.1 (true, a1), r26 z.1 (true, a1))))) then
        .ret (.tv (I (r21 (r22 a0 (fun z => (k26 z.1 (true, a1), r26 z.1 (true, a1)))))))
      else
        .fail
    else
      .fail := by kernel_rfl

noncomputable def M16k : Leaf := .loop (cAt Try.f16 [1, 1, 1, 0, 1, 0, 0]) [.inBlock 0, .code (cAt Try.f16 [1, 1, 1, 1])] ⟨[], []⟩
def S16k (s0 : (List (Ty.D Po))) (s5 : Int) (s6 : Int) (b3 : (Ty.D Rg)) : St := ⟨[(0, .tv (TD.mk LP s0)), (3, .ptr 3 none []), (5, .tv (I s5)), (6, .tv (I s6))], [(3, .var (TD.mk Rg b3))]⟩
theorem i16k (G : Tbl) (k24 : (Ty.D Po) → Bool) (r24 : (Ty.D Po) → Int) (s0 : (List (Ty.D Po))) (s5 : Int) (s6 : Int) (b3 : (Ty.D Rg)) :
    runL (G.add 24 (FC1 Po k24 (fun x0 => .tv (I (r24 x0))))) [(322, [0, 3, 5, 6])] Try.f16 1000 M16k.round (S16k s0 s5 s6 b3) =
  bif (decide (s6 < ((List.length s0 : Nat) : Int))) then
    bif (inB s6 (List.length s0)) then
      bif ((inB s6 (List.length s0)) || (!(decide (((List.getD s0 (Int.toNat s6) (0, 0, 0, 0, ()))).1 ≥ b3.1)))) then
        bif (bif (decide (((List.getD s0 (Int.toNat s6) (0, 0, 0, 0, ()))).1 ≥ b3.1)) then (decide (((List.getD s0 (Int.toNat s6) (0, 0, 0, 0, ()))).1 < b3.2.1)) else false) then
          bif (inB s6 (List.length s0)) then
            bif (k24 (List.getD s0 (Int.toNat s6) (0, 0, 0, 0, ()))) then
              .loop M16k.body M16k.kont (S16k s0 (w (s5 + (r24 (List.getD s0 (Int.toNat s6) (0, 0, 0, 0, ()))))) (w (s6 + 1)) b3)
            else
              .fail
          else
            .fail
        else
          .loop M16k.body M16k.kont (S16k s0 s5 (w (s6 + 1)) b3)
      else
        .fail
    else
      .fail
  else
    .ret (.tv (I s5)) := by kernel_rfl
theorem e16k (G : Tbl) (k24 : (Ty.D Po) → Bool) (r24 : (Ty.D Po) → Int) (a0 : (List (Ty.D Po))) (a1 : (Ty.D Rg)) :
    runL (G.add 24 (FC1 Po k24 (fun x0 => .tv (I (r24 x0))))) [(322, [0, 3, 5, 6])] Try.f16 1000 (bod Try.f16) (entry [(TD.mk LP a0), (TD.mk Rg a1)]) =
  bif (bif (bif (decide (a1.1 < 0)) then true else (decide (a1.1 > a1.2.1))) then true else (decide (a1.2.1 > 109573))) then
    .ret (.tv (I 0))
  else
    .loop M16k.body M16k.kont (S16k a0 0 0 a1) := by kernel_rfl

noncomputable def M17k : Leaf := .loop (cAt Try.f17 [1, 1, 0, 1, 0, 0]) [.inBlock 0, .code (cAt Try.f17 [1, 1, 1])] ⟨[], []⟩
def S17k (s0 : (List Int)) (s1 : (List Int)) (s5 : Int) : St := ⟨[(0, .tv (TD.mk (.slice (.int .i64)) s0)), (1, .tv (TD.mk (.slice (.int .i64)) s1)), (5, .tv (I s5))], []⟩
theorem i17k (G : Tbl)  (s0 : (List Int)) (s1 : (List Int)) (s5 : Int) :
    runL G [(258, [0, 1, 5])] Try.f17 1000 M17k.round (S17k s0 s1 s5) =
  bif (bif (decide (s5 < ((List.length s0 : Nat) : Int))) then (decide (s5 < ((List.length s1 : Nat) : Int))) else false) then
    bif (inB s5 (List.length s0)) then
      bif (inB s5 (List.length s1)) then
        bif ((List.getD s0 (Int.toNat s5) 0) != (List.getD s1 (Int.toNat s5) 0)) then
          .ret (.tv (B false))
        else
          .loop M17k.body M17k.kont (S17k s0 s1 (w (s5 + 1)))
      else
        .fail
    else
      .fail
  else
    .ret (.tv (B true)) := by kernel_rfl
theorem e17k (G : Tbl)  (a0 : (List Int)) (a1 : (List Int)) :
    runL G [(258, [0, 1, 5])] Try.f17 1000 (bod Try.f17) (entry [(TD.mk (.slice (.int .i64)) a0), (TD.mk (.slice (.int .i64)) a1)]) =
  bif (((List.length a0 : Nat) : Int) != ((List.length a1 : Nat) : Int)) then
    .ret (.tv (B false))
  else
    .loop M17k.body M17k.kont (S17k a0 a1 0) := by kernel_rfl

noncomputable def M19k : Leaf := .loop (cAt Try.f19 [1, 1, 0, 1, 0, 0]) [.inBlock 0, .code (cAt Try.f19 [1, 1, 1])] ⟨[], []⟩
def S19k (s0 : (List (Ty.D Po))) (s4 : Int) (b3 : (List Int)) : St := ⟨[(0, .tv (TD.mk LP s0)), (3, .ref 3), (4, .tv (I s4))], [(3, .vec (.int .i64) b3)]⟩
noncomputable def M19ak : Leaf := .loop (cAt Try.f19 [1, 1, 0, 1, 0, 0, 1, 0, 0, 1, 1, 0, 1, 0, 0]) [.inBlock 2, .code (cAt Try.f19 [1, 1, 0, 1, 0, 0, 1, 0, 0, 1, 1, 1]), .inBlock 1, .code (cAt Try.f19 [1, 1, 0, 1, 0, 0, 1, 1]), .inLoop (cAt Try.f19 [1, 1, 0, 1, 0, 0]), .inBlock 0, .code (cAt Try.f19 [1, 1, 1])] ⟨[], []⟩
def S19ak (s0 : (List (Ty.D Po))) (s4 : Int) (s6 : Bool) (s7 : Int) (b3 : (List Int)) (b5 : (List Int)) : St := ⟨[(0, .tv (TD.mk LP s0)), (3, .ref 3), (4, .tv (I s4)), (5, .ref 5), (6, .tv (B s6)), (7, .tv (I s7))], [(3, .vec (.int .i64) b3), (5, .vec (.int .i64) b5)]⟩
theorem i19k (G : Tbl)  (s0 : (List (Ty.D Po))) (s4 : Int) (b3 : (List Int)) :
    runL G [(194, [0, 3, 4]), (519, [0, 3, 4, 5, 6, 7])] Try.f19 1000 M19k.round (S19k s0 s4 b3) =
  bif (decide (s4 < ((List.length s0 : Nat) : Int))) then
    .loop M19ak.body M19ak.kont (S19ak s0 s4 false 0 b3 [])
  else
    .ret (.own (.int .i64) b3) := by kernel_rfl
theorem i19ak (G : Tbl)  (s0 : (List (Ty.D Po))) (s4 : Int) (s6 : Bool) (s7 : Int) (b3 : (List Int)) (b5 : (List Int)) :
    runL G [(194, [0, 3, 4]), (519, [0, 3, 4, 5, 6, 7])] Try.f19 1000 M19ak.round (S19ak s0 s4 s6 s7 b3 b5) =
  bif (decide (s7 < ((List.length b3 : Nat) : Int))) then
    bif ((inB s7 (List.length b3)) || (!(!s6))) then
      bif ((inB s4 (List.length s0)) || (!(!s6))) then
        bif (bif (!s6) then (decide ((List.getD b3 (Int.toNat s7) 0) ≥ ((List.getD s0 (Int.toNat s4) (0, 0, 0, 0, ()))).2.1)) else false) then
          bif (inB s7 (List.length b3)) then
            bif (inB s4 (List.length s0)) then
              bif (decide ((List.getD b3 (Int.toNat s7) 0) > ((List.getD s0 (Int.toNat s4) (0, 0, 0, 0, ()))).2.1)) then
                bif (inB s4 (List.length s0)) then
                  bif (lenOK ((List.length b5) + (List.length [((List.getD s0 (Int.toNat s4) (0, 0, 0, 0, ()))).2.1]))) then
                    bif (inB s7 (List.length b3)) then
                      bif (lenOK ((List.length (b5 ++ [((List.getD s0 (Int.toNat s4) (0, 0, 0, 0, ()))).2.1])) + (List.length [(List.getD b3 (Int.toNat s7) 0)]))) then
                        .loop M19ak.body M19ak.kont (S19ak s0 s4 true (w (s7 + 1)) b3 ((b5 ++ [((List.getD s0 (Int.toNat s4) (0, 0, 0, 0, ()))).2.1]) ++ [(List.getD b3 (Int.toNat s7) 0)]))
                      else
                        .fail
                    else
                      .fail
                  else
                    .fail
                else
                  .fail
              else
                bif (inB s7 (List.length b3)) then
                  bif (lenOK ((List.length b5) + (List.length [(List.getD b3 (Int.toNat s7) 0)]))) then
                    .loop M19ak.body M19ak.kont (S19ak s0 s4 true (w (s7 + 1)) b3 (b5 ++ [(List.getD b3 (Int.toNat s7) 0)]))
                  else
                    .fail
                else
                  .fail
            else
              .fail
          else
            .fail
        else
          bif (inB s7 (List.length b3)) then
            bif (lenOK ((List.length b5) + (List.length [(List.getD b3 (Int.toNat s7) 0)]))) then
              .loop M19ak.body M19ak.kont (S19ak s0 s4 s6 (w (s7 + 1)) b3 (b5 ++ [(List.getD b3 (Int.toNat s7) 0)]))
            else
              .fail
          else
            .fail
      else
        .fail
    else
      .fail
  else
    bif (!s6) then
      bif (inB s4 (List.length s0)) then
        bif (lenOK ((List.length b5) + (List.length [((List.getD s0 (Int.toNat s4) (0, 0, 0, 0, ()))).2.1]))) then
          .loop M19k.body M19k.kont (S19k s0 (w (s4 + 1)) (b5 ++ [((List.getD s0 (Int.toNat s4) (0, 0, 0, 0, ()))).2.1]))
        else
          .fail
      else
        .fail
    else
      .loop M19k.body M19k.kont (S19k s0 (w (s4 + 1)) b5) := by kernel_rfl
theorem e19k (G : Tbl)  (a0 : (List (Ty.D Po))) :
    runL G [(194, [0, 3, 4]), (519, [0, 3, 4, 5, 6, 7])] Try.f19 1000 (bod Try.f19) (entry [(TD.mk LP a0)]) =
  .loop M19k.body M19k.kont (S19k a0 0 []) := by kernel_rfl

theorem e31k (G : Tbl)  (a0 : Int) :
    runL G [] Try.f31 1000 (bod Try.f31) (entry [(I a0)]) =
  .ret (.tv (B (a0 != a0))) := by kernel_rfl

noncomputable def M27k : Leaf := .loop (cAt Try.f27 [1, 1, 1, 0, 0, 0]) [.inBlock 0, .code (cAt Try.f27 [1, 1, 1, 1])] ⟨[], []⟩
def S27k (s0 : (List Int)) (s1 : Int) (s6 : Int) (s7 : Int) (s8 : Int) : St := ⟨[(0, .tv (TD.mk (.slice (.int .i64)) s0)), (1, .tv (I s1)), (6, .tv (I s6)), (7, .tv (I s7)), (8, .tv (I s8))], []⟩
theorem i27k (G : Tbl) (k30 : Int → Int → Bool) (r30 : Int → Int → Bool) (k31 : Int → Bool) (r31 : Int → Bool) (s0 : (List Int)) (s1 : Int) (s6 : Int) (s7 : Int) (s8 : Int) :
    runL ((G.add 30 (FC2 (.int .i64) (.int .i64) k30 (fun x0 x1 => .tv (B (r30 x0 x1))))).add 31 (FC1 (.int .i64) k31 (fun x0 => .tv (B (r31 x0))))) [(194, [0, 1, 6, 7, 8])] Try.f27 1000 M27k.round (S27k s0 s1 s6 s7 s8) =
  bif (decide (s7 < s8)) then
    bif (inB (w (Int.fdiv (w64 (w (s7 + s8))) (2 ^ (min (Int.toNat 1) 64)))) (List.length s0)) then
      bif (k30 (List.getD s0 (Int.toNat (w (Int.fdiv (w64 (w (s7 + s8))) (2 ^ (min (Int.toNat 1) 64))))) 0) s1) then
        bif (r30 (List.getD s0 (Int.toNat (w (Int.fdiv (w64 (w (s7 + s8))) (2 ^ (min (Int.toNat 1) 64))))) 0) s1) then
          .loop M27k.body M27k.kont (S27k s0 s1 s6 (w ((w (Int.fdiv (w64 (w (s7 + s8))) (2 ^ (min (Int.toNat 1) 64)))) + 1)) s8)
        else
          .loop M27k.body M27k.kont (S27k s0 s1 s6 s7 (w (Int.fdiv (w64 (w (s7 + s8))) (2 ^ (min (Int.toNat 1) 64)))))
      else
        .fail
    else
      .fail
  else
    bif ((inB s7 (List.length s0)) || (!(decide (s7 < s6)))) then
      bif ((inB s7 (List.length s0)) || (!((decide (s7 < s6)) && (!((List.getD s0 (Int.toNat s7) 0) == s1))))) then
        bif ((k31 (List.getD s0 (Int.toNat s7) 0)) || (!((decide (s7 < s6)) && (!((List.getD s0 (Int.toNat s7) 0) == s1))))) then
          bif ((k31 s1) || (!(((decide (s7 < s6)) && (!((List.getD s0 (Int.toNat s7) 0) == s1))) && (r31 (List.getD s0 (Int.toNat s7) 0))))) then
            .ret (.tup [.tv (I s7), .tv (B (bif (decide (s7 < s6)) then (bif ((List.getD s0 (Int.toNat s7) 0) == s1) then true else (bif (r31 (List.getD s0 (Int.toNat s7) 0)) then (r31 s1) else false)) else false))])
          else
            .fail
        else
          .fail
      else
        .fail
    else
      .fail := by kernel_rfl
theorem e27k (G : Tbl) (k30 : Int → Int → Bool) (r30 : Int → Int → Bool) (k31 : Int → Bool) (r31 : Int → Bool) (a0 : (List Int)) (a1 : Int) :
    runL ((G.add 30 (FC2 (.int .i64) (.int .i64) k30 (fun x0 x1 => .tv (B (r30 x0 x1))))).add 31 (FC1 (.int .i64) k31 (fun x0 => .tv (B (r31 x0))))) [(194, [0, 1, 6, 7, 8])] Try.f27 1000 (bod Try.f27) (entry [(TD.mk (.slice (.int .i64)) a0), (I a1)]) =
  .loop M27k.body M27k.kont (S27k a0 a1 ((List.length a0 : Nat) : Int) 0 ((List.length a0 : Nat) : Int)) := by kernel_rfl

end Go.Lift.V37
set_option maxRecDepth 100000
set_option linter.unusedVariables false
set_option linter.unusedSimpArgs false
namespace Go.Lift.V37
open Go.Lift Go.Proofs

theorem band_bif {a b : Bool} : (bif a then b else false) = (a && b) := by cases a <;> rfl
theorem bor_bif {a b : Bool} : (bif a then true else b) = (a || b) := by cases a <;> rfl

/-! validity -/
abbrev zP : Po.D := (0, 0, 0, 0, ())
def bad3 (x : Po.D) : Bool := decide (x.1 < 0) || decide (x.1 > 109572) || decide (x.2.1 < 0) || decide (x.2.1 > 3599) || decide (x.2.2.2.1 < 1) || decide (x.2.2.2.1 > 1000000000000000)
def badK (x : Po.D) : Bool := decide (x.2.2.1 < 1) || decide (x.2.2.1 > 4)
def early (l : List Po.D) (i : Nat) (x : Po.D) : Bool := bif decide ((i : Int) > 0) then decide (x.1 < (l.getD (i - 1) zP).1) else false
noncomputable def valR (l : List Po.D) : Nat → Nat → Int × Int
  | 0, _ => (0, 0)
  | k + 1, i => bif bad3 (l.getD i zP) then ((i : Int), 3) else bif badK (l.getD i zP) then ((i : Int), 1) else bif early l i (l.getD i zP) then ((i : Int), 9) else
      bif decide (rcv (l.take (i + 1)) (l.getD i zP).2.1 < 0) then ((i : Int), 13) else valR l k (i + 1)
noncomputable def valV (l : List Po.D) : Int × Int := bif decide (((List.length l : Nat) : Int) > 4096) then (4096, 4) else valR l (List.length l) 0
noncomputable def pairV (p : Int × Int) : SV := .tup [.tv (I p.1), .tv (I p.2)]
noncomputable def FVal := FC1 LP (fun _ => true) fun l => pairV (valV l)

theorem len4096 {l : LP.D} (h : decide (((List.length l : Nat) : Int) > 4096) = false) : List.length l ≤ 4096 := by
  have := of_decide_eq_false h
  exact Nat.le_of_not_lt fun h2 => this (by exact_mod_cast h2)
theorem le_bound {n : Nat} (h : n ≤ 4096) : n ≤ lenBound := Nat.le_trans h (by decide)

theorem prev_ok {l : List Po.D} {i : Nat} (h : i < l.length) (hl : l.length ≤ lenBound) : (inB (w ((i : Int) - 1)) (List.length l) || !(decide ((i : Int) > 0))) = true := by
  have hb : l.length ≤ 68719476736 := hl
  by_cases h0 : i = 0
  · subst h0; simp
  · have e : w ((i : Int) - 1) = (i : Int) - 1 := wrap_id (by omega) (by omega)
    rw [e, toNat_lt (by omega) (by omega)]; rfl
theorem early_eq {l : List Po.D} {i : Nat} (h : i < l.length) (hl : l.length ≤ lenBound) (x : Po.D) : (bif decide ((i : Int) > 0) then decide (x.1 < (List.getD l (Int.toNat (w ((i : Int) - 1))) zP).1) else false) = early l i x := by
  have hb : l.length ≤ 68719476736 := hl
  unfold early
  by_cases h0 : i = 0
  · subst h0; rfl
  · have e : w ((i : Int) - 1) = (i : Int) - 1 := wrap_id (by omega) (by omega)
    rw [e, show Int.toNat ((i : Int) - 1) = i - 1 by omega]

noncomputable def G10k : Tbl := Tbl.none.add 12 FRcv
theorem loop10k (l : List Po.D) (hl : l.length ≤ lenBound) : ∀ (k : Nat) (i : Nat), i + k = l.length →
    Goes G10k T Try.f10.ntmps Try.f10.results.toList (.loop M10k.body M10k.kont (S10k l i)) (pairV (valR l k i))
  | 0, i, h => by
    refine Goes.lp' (i10k Tbl.none (fun l _ => smOK l) rcv l i) ?_
    rw [decide_eq_false (show ¬ (i : Int) < ((l.length : Nat) : Int) by omega)]
    exact .ret _
  | k + 1, i, h => by
    refine Goes.lp' (i10k Tbl.none (fun l _ => smOK l) rcv l i) ?_
    have hi : (i : Int) < ((l.length : Nat) : Int) := by omega
    have hn := loop10k l hl k (i + 1) (by omega)
    have hs : smOK (l.take (i + 1)) = true := decide_eq_true (by show (l.take (i + 1)).length ≤ lenBound; rw [List.length_take]; exact Nat.le_trans (Nat.min_le_right _ _) hl)
    have ht : tail l 0 (i + 1) = l.take (i + 1) := by unfold tail; rw [List.drop_zero]
    rw [decide_eq_true hi, cond_true, toNat_lt (by omega) hi, cond_true, prev_ok (by omega) hl, cond_true, early_eq (by omega) hl, w_step (by omega) hi hl, Int.toNat_natCast]
    rw [show ((i : Int) + 1) = ((i + 1 : Nat) : Int) by omega, Int.toNat_natCast, ht, hs, cond_true]
    simp only [bor_bif]
    unfold valR
    show Goes _ _ _ _ (bif bad3 (l.getD i zP) then _ else bif badK (l.getD i zP) then _ else _) _
    cases h1 : bad3 (l.getD i zP) with
    | true => exact .ret _
    | false =>
      cases h2 : badK (l.getD i zP) with
      | true => exact .ret _
      | false =>
        simp only [cond_false]
        cases h3 : early l i (l.getD i zP) with
        | true => exact .ret _
        | false =>
          simp only [cond_false]
          refine .bif (fun _ => ?_) fun g => by exfalso; simp only [Bool.and_eq_false_iff, decide_eq_false_iff_not] at g; omega
          show Goes _ _ _ _ (bif decide (rcv (l.take (i + 1)) (l.getD i zP).2.1 < 0) then _ else _) _
          cases h4 : decide (rcv (l.take (i + 1)) (l.getD i zP).2.1 < 0) with
          | true => exact .ret _
          | false => exact hn
theorem has10k : Hs 10 FVal := by
  refine Has.fc1 (fn := Try.f10) (env0.more has_Received37) (by kernel_rfl) (by kernel_rfl) (by kernel_rfl) (by kernel_rfl) fun l _ => .run1 (e10k Tbl.none (fun l _ => smOK l) rcv l) ?_
  unfold valV
  cases h : decide (((List.length l : Nat) : Int) > 4096) with
  | true => exact .ret _
  | false => exact loop10k l (le_bound (len4096 h)) (List.length l) 0 (by omega)

/-! the same with a map of sums -/
theorem mget_mput (k v m : Int) : ∀ l : List (Int × Int), mget (mput l k v) m = bif decide (m = k) then v else mget l m
  | [] => by
    by_cases h : m = k
    · subst h; simp [mput, mget]
    · simp [mput, mget, h]
  | (j, u) :: l => by
    by_cases hk : k = j
    · subst hk
      by_cases h : m = k
      · subst h; simp [mput, mget]
      · simp [mput, mget, h]
    · simp only [mput, decide_eq_false hk, cond_false, mget, mget_mput k v m l]
      by_cases hm : m = j
      · subst hm
        have : ¬ m = k := fun e => hk e.symm
        simp [this]
      · simp [hm]

theorem rcv_next {l : List Po.D} {i : Nat} (h : i < l.length) (m : Int) : rcv (l.take (i + 1)) m = bif decide (m = (l.getD i zP).2.1) then w (rcv (l.take i) m + sgn (l.getD i zP)) else rcv (l.take i) m := by
  have hx : l[i]? = some (l.getD i zP) := by simp [List.getD, h]
  unfold rcv sumS
  rw [take_next hx, List.filter_append]
  generalize l.getD i zP = x
  by_cases e : m = x.2.1
  · rw [decide_eq_true e, cond_true, List.filter_cons_of_pos (by unfold inM; rw [e]; simp), List.filter_nil, List.foldl_append]; rfl
  · rw [decide_eq_false e, cond_false, List.filter_cons_of_neg (by unfold inM; simp; exact fun h => e h.symm), List.filter_nil, List.append_nil]

noncomputable def G9k : Tbl := (Tbl.none.add 20 (FC1 Po (fun _ => true) (fun x => .tv (I (sgn x))))).addM 40
theorem tail9 (l : List Po.D) (hl : l.length ≤ lenBound) {k i : Nat} (hi : i < l.length) {b : List (Int × Int)} (hb : ∀ m, mget b m = rcv (l.take (i + 1)) m) (hb3 : bad3 (l.getD i zP) = false)
    (hn : Goes G9k T Try.f9.ntmps Try.f9.results.toList (.loop M9k.body M9k.kont (S9k l l ((List.length l : Nat) : Int) ((i + 1 : Nat) : Int) b)) (pairV (valR l k (i + 1)))) :
    Goes G9k T Try.f9.ntmps Try.f9.results.toList (c9_15 l l ((List.length l : Nat) : Int) i i b (l.getD i zP)) (pairV (valR l (k + 1) i)) := by
  have hii : (i : Int) < ((l.length : Nat) : Int) := by omega
  have inner : badK (l.getD i zP) = false → Goes G9k T Try.f9.ntmps Try.f9.results.toList (c9_18 l l ((List.length l : Nat) : Int) i i b (l.getD i zP)) (pairV (valR l (k + 1) i)) := by
    intro hbk
    unfold c9_18
    rw [prev_ok hi hl, cond_true, early_eq hi hl, hb, w_step (by omega) hii hl, show ((i : Int) + 1) = ((i + 1 : Nat) : Int) by omega]
    unfold valR
    rw [hb3, hbk]
    simp only [cond_false]
    cases h3 : early l i (l.getD i zP) with
    | true => exact .ret _
    | false =>
      simp only [cond_false]
      cases h4 : decide (rcv (l.take (i + 1)) (l.getD i zP).2.1 < 0) with
      | true => exact .ret _
      | false => exact hn
  unfold c9_15
  cases h1 : decide ((l.getD i zP).2.2.1 < 1) with
  | true =>
    have hbk : badK (l.getD i zP) = true := by unfold badK; rw [h1]; rfl
    unfold valR
    rw [hb3, hbk]
    exact .ret _
  | false =>
    cases h2 : decide ((l.getD i zP).2.2.1 > 4) with
    | true =>
      have hbk : badK (l.getD i zP) = true := by unfold badK; rw [h1, h2]; rfl
      unfold valR
      rw [hb3, hbk]
      exact .ret _
    | false => exact inner (by unfold badK; rw [h1, h2]; rfl)

theorem loop9k (l : List Po.D) (hl : l.length ≤ lenBound) : ∀ (k : Nat) (i : Nat) (b : List (Int × Int)), i + k = l.length → (∀ m, mget b m = rcv (l.take i) m) →
    Goes G9k T Try.f9.ntmps Try.f9.results.toList (.loop M9k.body M9k.kont (S9k l l ((List.length l : Nat) : Int) i b)) (pairV (valR l k i))
  | 0, i, b, h, hb => by
    refine Goes.lp' (i9k Tbl.none (fun _ => true) sgn l l _ i b) ?_
    rw [decide_eq_false (show ¬ (i : Int) < ((l.length : Nat) : Int) by omega)]
    exact .ret _
  | k + 1, i, b, h, hb => by
    refine Goes.lp' (i9k Tbl.none (fun _ => true) sgn l l _ i b) ?_
    have hi : (i : Int) < ((l.length : Nat) : Int) := by omega
    have hilt : i < l.length := by omega
    rw [decide_eq_true hi, cond_true, toNat_lt (by omega) hi, cond_true, cond_true, Int.toNat_natCast]
    have hb' : ∀ m, mget (mput b (l.getD i zP).2.1 (w (mget b (l.getD i zP).2.1 + sgn (l.getD i zP)))) m = rcv (l.take (i + 1)) m := by
      intro m
      rw [mget_mput, rcv_next hilt, hb, hb]
      by_cases e : m = (l.getD i zP).2.1
      · rw [e]
      · rw [decide_eq_false e]; rfl
    have hn := loop9k l hl k (i + 1) _ (by omega) hb'
    have bad : bad3 (l.getD i zP) = true → valR l (k + 1) i = ((i : Int), 3) := fun hb3 => by unfold valR; rw [hb3]; rfl
    cases h1 : decide ((l.getD i zP).1 < 0) with
    | true => rw [bad (by unfold bad3; rw [h1]; rfl)]; exact .ret _
    | false =>
    cases h2 : decide ((l.getD i zP).1 > 109572) with
    | true => rw [bad (by unfold bad3; rw [h1, h2]; rfl)]; exact .ret _
    | false =>
    cases h3 : decide ((l.getD i zP).2.1 < 0) with
    | true => rw [bad (by unfold bad3; rw [h1, h2, h3]; rfl)]; exact .ret _
    | false =>
    cases h4 : decide ((l.getD i zP).2.1 > 3599) with
    | true => rw [bad (by unfold bad3; rw [h1, h2, h3, h4]; rfl)]; exact .ret _
    | false =>
    cases h5 : decide ((l.getD i zP).2.2.2.1 < 1) with
    | true => rw [bad (by unfold bad3; rw [h1, h2, h3, h4, h5]; rfl)]; exact .ret _
    | false =>
    cases h6 : decide ((l.getD i zP).2.2.2.1 > 1000000000000000) with
    | true => rw [bad (by unfold bad3; rw [h1, h2, h3, h4, h5, h6]; rfl)]; exact .ret _
    | false => exact tail9 l hl hilt hb' (by unfold bad3; rw [h1, h2, h3, h4, h5, h6]; rfl) hn
theorem has9k : Hs 9 FVal := by
  refine Has.fc1 (fn := Try.f9) ((env0.more has_signed).addM (t := 40) (k := 3) (e := 3) (by kernel_rfl) (by kernel_rfl) (by kernel_rfl)) (by kernel_rfl) (by kernel_rfl) (by kernel_rfl) (by kernel_rfl) fun l _ => .run1 (e9k Tbl.none (fun _ => true) sgn l) ?_
  unfold valV
  cases h : decide (((List.length l : Nat) : Int) > 4096) with
  | true => exact .ret _
  | false => exact loop9k l (le_bound (len4096 h)) (List.length l) 0 [] (by omega) fun m => rfl
end Go.Lift.V37
set_option maxRecDepth 100000
set_option linter.unusedVariables false
set_option linter.unusedSimpArgs false
namespace Go.Lift.V37
open Go.Lift Go.Proofs

/-! cash -/
def cashM (g : Rg.D) (x : Po.D) : Bool := decide (g.1 ≤ x.1) && decide (x.1 < g.2.1)
def badR (g : Rg.D) : Bool := decide (g.1 < 0) || decide (g.1 > g.2.1) || decide (g.2.1 > 109573)
noncomputable def csh (l : List Po.D) (g : Rg.D) : Int := bif badR g then 0 else sumS (l.filter (cashM g))
noncomputable def FCash := FC2 LP Rg (fun l _ => smOK l) fun l g => .tv (I (csh l g))
theorem has_Cc : Hs 26 (FC2 Po (.ptr Rg) (fun _ a => a.1) (fun x a => .tv (B (cashM a.2 x)))) := by
  refine Has.fc2 env0 rfl (by kernel_rfl) (by kernel_rfl) (by kernel_rfl) fun x a h => .run1 (e26k _ x a) ?_
  rw [h, cond_true, Bool.true_or, cond_true, band_bif]
  exact .ret _
theorem has_Cash : Hs 15 FCash := by
  refine Has.fc2 (((env0.more has_received).more has_postings).more has_Cc) rfl (by kernel_rfl) (by kernel_rfl) (by kernel_rfl) fun l g h => .run1 (e15k Tbl.none (fun L => L.1) (fun L => sumS L.2) postK (fun l φ => (true, List.filter (kp φ) l)) (fun _ a => a.1) (fun x a => cashM a.2 x) l g) ?_
  rw [bor_bif, bor_bif]
  unfold csh
  show Goes _ _ _ _ (bif badR g then _ else _) _
  cases hb : badR g with
  | true => exact .ret _
  | false =>
    rw [cond_false, show postK l (fun z => (true, cashM g z.1)) = true by simpa [postK] using smOK_le h]
    exact .ret _
noncomputable def G16k : Tbl := Tbl.none.add 24 (FC1 Po (fun _ => true) (fun x => .tv (I (sgn x))))
theorem loop16k (l : List Po.D) (g : Rg.D) (hl : l.length ≤ lenBound) : ∀ (k : Nat) (i : Nat) (s : Int), i + k = l.length →
    Goes G16k T Try.f16.ntmps Try.f16.results.toList (.loop M16k.body M16k.kont (S16k l s i g)) (.tv (I (((l.drop i).filter (cashM g)).foldl (fun s x => w (s + sgn x)) s)))
  | 0, i, s, h => by
    refine Goes.lp' (i16k Tbl.none (fun _ => true) sgn l s i g) ?_
    rw [decide_eq_false (show ¬ (i : Int) < ((l.length : Nat) : Int) by omega), drop_end (by omega)]
    exact .ret _
  | k + 1, i, s, h => by
    refine Goes.lp' (i16k Tbl.none (fun _ => true) sgn l s i g) ?_
    have hi : (i : Int) < ((l.length : Nat) : Int) := by omega
    rw [decide_eq_true hi, cond_true, toNat_lt (by omega) hi, cond_true, Bool.true_or, cond_true, w_step (by omega) hi hl, Int.toNat_natCast, drop_cons l (0, 0, 0, 0, ()) i (by omega), band_bif]
    generalize l.getD i (0, 0, 0, 0, ()) = b
    show Goes _ _ _ _ (bif cashM g b then _ else _) _
    cases hb : cashM g b with
    | true =>
      rw [List.filter_cons_of_pos hb]
      exact loop16k l g hl k (i + 1) _ (by omega)
    | false =>
      rw [List.filter_cons_of_neg (by rw [hb]; simp)]
      exact loop16k l g hl k (i + 1) _ (by omega)
theorem has_Cash37 : Hs 16 FCash := by
  refine Has.fc2 (fn := Try.f16) (env0.more has_signed37) (by kernel_rfl) (by kernel_rfl) (by kernel_rfl) (by kernel_rfl) fun l g h => .run1 (e16k Tbl.none (fun _ => true) sgn l g) ?_
  rw [bor_bif, bor_bif]
  unfold csh
  show Goes _ _ _ _ (bif badR g then _ else _) _
  cases hb : badR g with
  | true => exact .ret _
  | false => exact loop16k l g (lenOK_spec h) (List.length l) 0 0 (by omega)

/-! equality of lists of numbers -/
theorem loop17k (a b : List Int) (hl : a.length ≤ lenBound) (hab : a.length = b.length) : ∀ (k : Nat) (i : Nat), i + k = a.length →
    Goes Tbl.none T Try.f17.ntmps Try.f17.results.toList (.loop M17k.body M17k.kont (S17k a b i)) (.tv (B (decide (a.drop i = b.drop i))))
  | 0, i, h => by
    refine Goes.lp' (i17k Tbl.none a b i) ?_
    rw [decide_eq_false (show ¬ (i : Int) < ((a.length : Nat) : Int) by omega), drop_end (by omega), drop_end (by omega)]
    exact .ret _
  | k + 1, i, h => by
    refine Goes.lp' (i17k Tbl.none a b i) ?_
    have hi : (i : Int) < ((a.length : Nat) : Int) := by omega
    have hj : (i : Int) < ((b.length : Nat) : Int) := by omega
    rw [decide_eq_true hi, cond_true, decide_eq_true hj, cond_true, toNat_lt (by omega) hi, cond_true, toNat_lt (by omega) hj, cond_true, w_step (by omega) hi hl, Int.toNat_natCast, drop_cons a 0 i (by omega), drop_cons b 0 i (by omega)]
    generalize a.getD i 0 = x
    generalize b.getD i 0 = y
    by_cases e : x = y
    · subst e
      rw [show (x != x) = false by simp, cond_false, show decide (x :: a.drop (i + 1) = x :: b.drop (i + 1)) = decide (a.drop (i + 1) = b.drop (i + 1)) by simp]
      exact loop17k a b hl hab k (i + 1) (by omega)
    · rw [show (x != y) = true by simp [e], cond_true, show decide (x :: a.drop (i + 1) = y :: b.drop (i + 1)) = false by simp [e]]
      exact .ret _
abbrev IL : Ty := .slice (.int .i64)
noncomputable def FInts := FC2 IL IL (fun a _ => lenOK (List.length a)) fun (a : List Int) (b : List Int) => .tv (B (decide (a = b)))
theorem has_Ints : Hs 17 FInts := by
  refine Has.fc2 (fn := Try.f17) env0 (by kernel_rfl) (by kernel_rfl) (by kernel_rfl) (by kernel_rfl) fun (a : List Int) (b : List Int) h => .run1 (e17k Tbl.none a b) ?_
  by_cases e : a.length = b.length
  · rw [show (((a.length : Nat) : Int) != ((b.length : Nat) : Int)) = false by simp [e]]
    exact loop17k a b (lenOK_spec h) e a.length 0 (by omega)
  · rw [show (((a.length : Nat) : Int) != ((b.length : Nat) : Int)) = true by simp; omega, show decide (a = b) = false by simp; intro h; exact e (by rw [h])]
    exact .ret _
end Go.Lift.V37
set_option maxRecDepth 100000
set_option linter.unusedVariables false
set_option linter.unusedSimpArgs false
namespace Go.Lift.V37
open Go.Lift Go.Proofs

theorem e34k (G : Tbl)  (a0 : Int) :
    runL G [] Try.f34 1000 (bod Try.f34) (entry [(I a0)]) =
  .ret (.tv (B (a0 != a0))) := by kernel_rfl

theorem e30k (G : Tbl) (k34 : Int → Bool) (r34 : Int → Bool) (a0 : Int) (a1 : Int) :
    runL (G.add 34 (FC1 (.int .i64) k34 (fun x0 => .tv (B (r34 x0))))) [] Try.f30 1000 (bod Try.f30) (entry [(I a0), (I a1)]) =
  bif (k34 a0) then
    bif ((k34 a1) || (!(r34 a0))) then
      .ret (.tv (B (bif (bif (r34 a0) then (!(r34 a1)) else false) then true else (decide (a0 < a1)))))
    else
      .fail
  else
    .fail := by kernel_rfl

def FNan := FC1 (.int .i64) (fun _ => true) fun _ => .tv (B false)
theorem has_nan : Hs 34 FNan := Has.fc1 (fn := Try.f34) env0 (by kernel_rfl) (by kernel_rfl) (by kernel_rfl) (by kernel_rfl) fun (x : Int) _ => .run1 (e34k Tbl.none x) (.ret' (by simp))
theorem has_nan2 : Hs 31 FNan := Has.fc1 (fn := Try.f31) env0 (by kernel_rfl) (by kernel_rfl) (by kernel_rfl) (by kernel_rfl) fun (x : Int) _ => .run1 (e31k Tbl.none x) (.ret' (by simp))
def FLess := FC2 (.int .i64) (.int .i64) (fun _ _ => true) fun (x y : Int) => .tv (B (decide (x < y)))
theorem has_less : Hs 30 FLess := Has.fc2 (fn := Try.f30) (env0.more has_nan) (by kernel_rfl) (by kernel_rfl) (by kernel_rfl) (by kernel_rfl) fun (x y : Int) _ => .run1 (e30k Tbl.none (fun _ => true) (fun _ => false) x y) (.ret _)

/-! binary search -/
/-- how many at the head are smaller -/
def posG : List Int → Int → Nat
  | [], _ => 0
  | x :: r, t => bif decide (x < t) then posG r t + 1 else 0
theorem posG_le : ∀ (l : List Int) (t : Int), posG l t ≤ l.length
  | [], _ => Nat.le_refl _
  | x :: r, t => by
    have := posG_le r t
    unfold posG
    cases decide (x < t) <;> simp <;> omega
def sortedB : List Int → Bool
  | [] => true
  | x :: r => r.all (fun y => decide (x < y)) && sortedB r
theorem posG_spec : ∀ (l : List Int) (t : Int), sortedB l = true → ∀ j, j < l.length → (l.getD j 0 < t ↔ j < posG l t)
  | [], _, _, j, h => by simp at h
  | x :: r, t, hs, j, h => by
    simp only [sortedB, Bool.and_eq_true, List.all_eq_true, decide_eq_true_eq] at hs
    unfold posG
    by_cases hx : x < t
    · rw [decide_eq_true hx, cond_true]
      cases j with
      | zero => simp [hx]
      | succ j =>
        have := posG_spec r t hs.2 j (by simpa using h)
        simp only [List.getD_cons_succ]
        rw [this]; omega
    · rw [decide_eq_false hx, cond_false]
      cases j with
      | zero => simp [hx]
      | succ j =>
        have hj : j < r.length := by simpa using h
        have hm : r.getD j 0 ∈ r := by simp [List.getD, hj]
        have := hs.1 _ hm
        simp only [List.getD_cons_succ]
        omega
theorem mid_eq {a b : Nat} (h : a + b ≤ 4611686018427387904) : w (Int.fdiv (w64 (w ((a : Int) + (b : Int)))) (2 ^ (min (Int.toNat 1) 64))) = (((a + b) / 2 : Nat) : Int) := by
  have e1 : w ((a : Int) + (b : Int)) = ((a + b : Nat) : Int) := by rw [show w ((a : Int) + (b : Int)) = (a : Int) + (b : Int) from wrap_id (by omega) (by omega)]; omega
  have e2 : w64 (((a + b : Nat) : Int)) = ((a + b : Nat) : Int) := by
    show IntKind.wrap .u64 _ = _
    unfold IntKind.wrap
    simp [IntKind.signed, IntKind.bits]
    omega
  rw [e1, e2, show (2 : Int) ^ (min (Int.toNat 1) 64) = 2 from rfl, Int.fdiv_eq_ediv_of_nonneg _ (by omega), show (((a + b : Nat) : Int)) / 2 = (((a + b) / 2 : Nat) : Int) by omega]
  exact wrap_id (by omega) (by omega)
noncomputable def found (l : List Int) (t : Int) : Bool := bif decide (posG l t < l.length) then (l.getD (posG l t) 0 == t) else false
noncomputable def G27k : Tbl := (Tbl.none.add 30 FLess).add 31 FNan
theorem loop27k (l : List Int) (t : Int) (hl : l.length ≤ lenBound) (hs : sortedB l = true) : ∀ (k lo hi : Nat), hi - lo ≤ k → lo ≤ posG l t → posG l t ≤ hi → hi ≤ l.length →
    Goes G27k T Try.f27.ntmps Try.f27.results.toList (.loop M27k.body M27k.kont (S27k l t ((List.length l : Nat) : Int) lo hi)) (.tup [.tv (I (posG l t)), .tv (B (found l t))])
  | k, lo, hi, hk, h1, h2, h3 => by
    have hb : l.length ≤ 68719476736 := hl
    refine Goes.lp' (i27k Tbl.none (fun _ _ => true) (fun x y => decide (x < y)) (fun _ => true) (fun _ => false) l t _ lo hi) ?_
    by_cases hlt : lo < hi
    · have hm1 : (lo + hi) / 2 < hi := by omega
      have hm2 : lo ≤ (lo + hi) / 2 := by omega
      rw [decide_eq_true (show (lo : Int) < (hi : Int) by omega), cond_true, mid_eq (by omega), toNat_lt (by omega) (by omega), cond_true, cond_true, Int.toNat_natCast]
      have hsp := posG_spec l t hs ((lo + hi) / 2) (by omega)
      obtain ⟨k', rfl⟩ : ∃ k', k = k' + 1 := ⟨k - 1, by omega⟩
      by_cases hx : l.getD ((lo + hi) / 2) 0 < t
      · rw [decide_eq_true hx, cond_true]
        have hp := hsp.1 hx
        rw [show w ((((lo + hi) / 2 : Nat) : Int) + 1) = (((lo + hi) / 2 + 1 : Nat) : Int) by rw [show w ((((lo + hi) / 2 : Nat) : Int) + 1) = (((lo + hi) / 2 : Nat) : Int) + 1 from wrap_id (by omega) (by omega)]; omega]
        exact loop27k l t hl hs k' ((lo + hi) / 2 + 1) hi (by omega) (by omega) h2 h3
      · rw [decide_eq_false hx, cond_false]
        have hp : ¬ (lo + hi) / 2 < posG l t := fun h => hx (hsp.2 h)
        exact loop27k l t hl hs k' lo ((lo + hi) / 2) (by omega) h1 (by omega) (by omega)
    · have e : lo = posG l t := by omega
      rw [decide_eq_false (show ¬ (lo : Int) < (hi : Int) by omega), cond_false]
      subst e
      unfold found
      by_cases hq : posG l t < l.length
      · rw [toNat_lt (by omega) (show ((posG l t : Nat) : Int) < ((l.length : Nat) : Int) by omega), decide_eq_true (show ((posG l t : Nat) : Int) < ((l.length : Nat) : Int) by omega), decide_eq_true hq]
        simp only [Bool.true_or, cond_true, Int.toNat_natCast]
        refine .ret' ?_
        cases (l.getD (posG l t) 0 == t) <;> rfl
      · rw [decide_eq_false (show ¬ ((posG l t : Nat) : Int) < ((l.length : Nat) : Int) by omega), decide_eq_false hq]
        simp only [Bool.not_false, Bool.or_true, Bool.false_and, cond_true, cond_false]
        exact .ret _
noncomputable def FBin := FC2 IL (.int .i64) (fun l _ => lenOK (List.length l) && sortedB l) fun (l : List Int) (t : Int) => .tup [.tv (I (posG l t)), .tv (B (found l t))]
theorem has_bin : Hs 27 FBin := by
  refine Has.fc2 (fn := Try.f27) ((env0.more has_less).more has_nan2) (by kernel_rfl) (by kernel_rfl) (by kernel_rfl) (by kernel_rfl) fun (l : List Int) (t : Int) h => .run1 (e27k Tbl.none (fun _ _ => true) (fun x y => decide (x < y)) (fun _ => true) (fun _ => false) l t) ?_
  simp only [Bool.and_eq_true] at h
  exact loop27k l t (lenOK_spec h.1) h.2 l.length 0 l.length (by omega) (by omega) (posG_le l t) (Nat.le_refl _)
end Go.Lift.V37
set_option maxRecDepth 100000
set_option linter.unusedVariables false
set_option linter.unusedSimpArgs false
namespace Go.Lift.V37
open Go.Lift Go.Proofs

/-! months, as the reference makes them -/
def insG : Bool → List Int → Int → List Int
  | d, [], m => bif d then [] else [m]
  | d, s :: r, m => bif (!d && decide (s ≥ m)) then (bif decide (s > m) then m :: s :: insG true r m else s :: insG true r m) else s :: insG d r m
theorem insG_len : ∀ (d : Bool) (l : List Int) (m : Int), (insG d l m).length ≤ l.length + (bif d then 0 else 1)
  | d, [], m => by cases d <;> simp [insG]
  | d, s :: r, m => by
    have h1 := insG_len true r m
    have h2 := insG_len d r m
    unfold insG
    cases d with
    | true => simp at h2 ⊢; omega
    | false =>
      simp only [Bool.not_false, Bool.true_and, cond_true, cond_false] at h1 h2 ⊢
      cases decide (s ≥ m) with
      | false => simp; omega
      | true =>
        simp only [cond_true]
        cases decide (s > m) <;> simp <;> omega

theorem loop19ak (l : List Po.D) (i : Nat) (hl : l.length ≤ lenBound) (hi : i < l.length) (b3 : List Int) (hb3 : b3.length + 2 ≤ lenBound) {r : SV} : ∀ (k j : Nat) (d : Bool) (b5 : List Int), j + k = b3.length → b5.length ≤ j + (bif d then 1 else 0) →
    Goes Tbl.none T Try.f19.ntmps Try.f19.results.toList (.loop M19k.body M19k.kont (S19k l ((i + 1 : Nat) : Int) (b5 ++ insG d (b3.drop j) (l.getD i zP).2.1))) r →
    Goes Tbl.none T Try.f19.ntmps Try.f19.results.toList (.loop M19ak.body M19ak.kont (S19ak l i d j b3 b5)) r
  | 0, j, d, b5, h, hb, hn => by
    refine Goes.lp' (i19ak Tbl.none l i d j b3 b5) ?_
    have hii : (i : Int) < ((l.length : Nat) : Int) := by omega
    rw [drop_end (by omega)] at hn
    rw [decide_eq_false (show ¬ (j : Int) < ((b3.length : Nat) : Int) by omega), cond_false, toNat_lt (by omega) hii, Int.toNat_natCast, w_step (by omega) hii hl, show ((i : Int) + 1) = ((i + 1 : Nat) : Int) by omega]
    cases d with
    | true => simpa [insG] using hn
    | false =>
      have hlo : lenOK (List.length b5 + 1) = true := decide_eq_true (by simp at hb; omega)
      simp only [Bool.not_false, cond_true, List.length_cons, List.length_nil, Nat.zero_add, hlo]
      exact hn
  | k + 1, j, d, b5, h, hb, hn => by
    refine Goes.lp' (i19ak Tbl.none l i d j b3 b5) ?_
    have hii : (i : Int) < ((l.length : Nat) : Int) := by omega
    have hjj : (j : Int) < ((b3.length : Nat) : Int) := by omega
    rw [drop_cons b3 0 j (by omega)] at hn
    rw [decide_eq_true hjj, cond_true, toNat_lt (by omega) hjj, Bool.true_or, cond_true, toNat_lt (by omega) hii, Bool.true_or, cond_true, Int.toNat_natCast, Int.toNat_natCast, w_step (by omega) hjj (by omega), show ((j : Int) + 1) = ((j + 1 : Nat) : Int) by omega]
    have ih := loop19ak l i hl hi b3 hb3 (r := r) k (j + 1)
    generalize b3.getD j 0 = s at *
    change Goes _ _ _ _ (bif (bif (!d) then decide (s ≥ (l.getD i zP).2.1) else false) then _ else _) _
    unfold insG at hn
    rw [band_bif]
    have hd1 : List.length b5 + 2 ≤ lenBound := by
      cases d <;> simp at hb <;> omega
    have hlo : lenOK (List.length b5 + 1) = true := decide_eq_true (by omega)
    have hlo2 : lenOK (List.length b5 + 1 + 1) = true := decide_eq_true (by omega)
    cases hc : (!d && decide (s ≥ (l.getD i zP).2.1)) with
    | true =>
      rw [hc, cond_true] at hn
      have hd : d = false := by cases d <;> simp_all
      subst hd
      simp only [cond_true]
      change Goes _ _ _ _ (bif decide (s > (l.getD i zP).2.1) then _ else _) _
      cases hg : decide (s > (l.getD i zP).2.1) with
      | true =>
        rw [hg, cond_true] at hn
        simp only [cond_true, List.length_append, List.length_cons, List.length_nil, Nat.zero_add, hlo, hlo2]
        refine ih true ((b5 ++ [(l.getD i zP).2.1]) ++ [s]) (by omega) (by simp at hb ⊢; omega) ?_
        simpa using hn
      | false =>
        rw [hg, cond_false] at hn
        simp only [cond_true, cond_false, List.length_append, List.length_cons, List.length_nil, Nat.zero_add, hlo]
        refine ih true (b5 ++ [s]) (by omega) (by simp at hb ⊢; omega) ?_
        simpa using hn
    | false =>
      rw [hc, cond_false] at hn
      simp only [cond_true, cond_false, List.length_append, List.length_cons, List.length_nil, Nat.zero_add, hlo]
      refine ih d (b5 ++ [s]) (by omega) (by simp only [List.length_append, List.length_cons, List.length_nil]; omega) ?_
      simpa using hn

def monG (acc : List Int) (l : List Po.D) : List Int := l.foldl (fun acc x => insG false acc x.2.1) acc
theorem loop19k (l : List Po.D) (hl : l.length + 3 ≤ lenBound) : ∀ (k i : Nat) (acc : List Int), i + k = l.length → acc.length ≤ i →
    Goes Tbl.none T Try.f19.ntmps Try.f19.results.toList (.loop M19k.body M19k.kont (S19k l i acc)) (.own (.int .i64) (monG acc (l.drop i)))
  | 0, i, acc, h, ha => by
    refine Goes.lp' (i19k Tbl.none l i acc) ?_
    rw [decide_eq_false (show ¬ (i : Int) < ((l.length : Nat) : Int) by omega), drop_end (by omega)]
    exact .ret _
  | k + 1, i, acc, h, ha => by
    refine Goes.lp' (i19k Tbl.none l i acc) ?_
    rw [decide_eq_true (show (i : Int) < ((l.length : Nat) : Int) by omega), cond_true, drop_cons l zP i (by omega)]
    have hlen := insG_len false acc (l.getD i zP).2.1
    refine loop19ak l i (by omega) (by omega) acc (by omega) acc.length 0 false [] (by omega) (by simp) ?_
    rw [List.drop_zero, List.nil_append]
    exact loop19k l hl k (i + 1) _ (by omega) (by simp only [cond_false] at hlen; omega)
noncomputable def kMon (l : LP.D) : Bool := lenOK (List.length l + 3)
theorem has_Months37 : Hs 19 (FC1 LP kMon fun l => .own (.int .i64) (monG [] l)) :=
  Has.fc1 (fn := Try.f19) env0 (by kernel_rfl) (by kernel_rfl) (by kernel_rfl) (by kernel_rfl) fun l h => .run1 (e19k Tbl.none l) (loop19k l (lenOK_spec h) (List.length l) 0 [] (by omega) (Nat.le_refl _))
end Go.Lift.V37
set_option maxRecDepth 100000
set_option linter.unusedVariables false
set_option linter.unusedSimpArgs false
namespace Go.Lift.V37
open Go.Lift Go.Proofs

noncomputable def M18k : Leaf := .loop (cAt Try.f18 [1, 1, 0, 1, 0, 0]) [.inBlock 0, .code (cAt Try.f18 [1, 1, 1])] ⟨[], []⟩
def S18k (s8 : (List (Ty.D Po))) (s9 : Int) (s10 : Int) (b3 : (List Int)) : St := ⟨[(3, .ref 3), (8, .tv (TD.mk LP s8)), (9, .tv (I s9)), (10, .tv (I s10))], [(3, .vec (.int .i64) b3)]⟩
theorem i18k (G : Tbl) (k27 : (List Int) → Int → Bool) (r27_0 : (List Int) → Int → Int) (r27_1 : (List Int) → Int → Bool) (k28 : List Int → List TD → Bool) (r28 : List Int → List TD → List Int) (s8 : (List (Ty.D Po))) (s9 : Int) (s10 : Int) (b3 : (List Int)) :
    runL ((G.add 27 (FC2 (.slice (.int .i64)) (.int .i64) k27 (fun x0 x1 => .tup [.tv (I (r27_0 x0 x1)), .tv (B (r27_1 x0 x1))]))).addO 28 (OC.mk (.int .i64) k28 r28)) [(194, [3, 8, 9, 10])] Try.f18 1000 M18k.round (S18k s8 s9 s10 b3) =
  bif (decide (s10 < s9)) then
    bif (inB s10 (List.length s8)) then
      bif (k27 b3 (((List.getD s8 (Int.toNat s10) (0, 0, 0, 0, ()))).2.1)) then
        bif (!(r27_1 b3 (((List.getD s8 (Int.toNat s10) (0, 0, 0, 0, ()))).2.1))) then
          bif (k28 b3 [(I (r27_0 b3 (((List.getD s8 (Int.toNat s10) (0, 0, 0, 0, ()))).2.1))), (TD.mk (.slice (.int .i64)) ([((List.getD s8 (Int.toNat s10) (0, 0, 0, 0, ()))).2.1]))]) then
            .loop M18k.body M18k.kont (S18k s8 s9 (w (s10 + 1)) (r28 b3 [(I (r27_0 b3 (((List.getD s8 (Int.toNat s10) (0, 0, 0, 0, ()))).2.1))), (TD.mk (.slice (.int .i64)) ([((List.getD s8 (Int.toNat s10) (0, 0, 0, 0, ()))).2.1]))]))
          else
            .fail
        else
          .loop M18k.body M18k.kont (S18k s8 s9 (w (s10 + 1)) b3)
      else
        .fail
    else
      .fail
  else
    .ret (.own (.int .i64) b3) := by kernel_rfl
theorem e18k (G : Tbl) (k27 : (List Int) → Int → Bool) (r27_0 : (List Int) → Int → Int) (r27_1 : (List Int) → Int → Bool) (k28 : List Int → List TD → Bool) (r28 : List Int → List TD → List Int) (a0 : (List (Ty.D Po))) :
    runL ((G.add 27 (FC2 (.slice (.int .i64)) (.int .i64) k27 (fun x0 x1 => .tup [.tv (I (r27_0 x0 x1)), .tv (B (r27_1 x0 x1))]))).addO 28 (OC.mk (.int .i64) k28 r28)) [(194, [3, 8, 9, 10])] Try.f18 1000 (bod Try.f18) (entry [(TD.mk LP a0)]) =
  .loop M18k.body M18k.kont (S18k a0 ((List.length a0 : Nat) : Int) 0 []) := by kernel_rfl

end Go.Lift.V37
set_option maxRecDepth 100000
set_option linter.unusedVariables false
set_option linter.unusedSimpArgs false
namespace Go.Lift.V37
open Go.Lift Go.Proofs

/-! months, given the contract of Insert -/
theorem insG_true : ∀ (l : List Int) (m : Int), insG true l m = l
  | [], m => rfl
  | s :: r, m => by unfold insG; simp [insG_true r m]
theorem insG_mem : ∀ (l : List Int) (m x : Int), x ∈ insG false l m → x = m ∨ x ∈ l
  | [], m, x, h => by simp [insG] at h; exact .inl h
  | s :: r, m, x, h => by
    unfold insG at h
    rw [Bool.not_false, Bool.true_and] at h
    cases h1 : decide (s ≥ m) with
    | false =>
      rw [h1, cond_false] at h
      rcases List.mem_cons.1 h with e | e
      · exact .inr (by rw [e]; simp)
      · rcases insG_mem r m x e with e | e
        · exact .inl e
        · exact .inr (List.mem_cons_of_mem _ e)
    | true =>
      rw [h1, cond_true, insG_true] at h
      cases h2 : decide (s > m) with
      | true =>
        rw [h2, cond_true] at h
        rcases List.mem_cons.1 h with e | e
        · exact .inl e
        · exact .inr e
      | false => rw [h2, cond_false] at h; exact .inr h
theorem insG_sorted : ∀ (l : List Int) (m : Int), sortedB l = true → sortedB (insG false l m) = true
  | [], m, _ => rfl
  | s :: r, m, hs => by
    have hs2 := hs
    simp only [sortedB, Bool.and_eq_true, List.all_eq_true, decide_eq_true_eq] at hs2
    unfold insG
    rw [Bool.not_false, Bool.true_and]
    by_cases h1 : s ≥ m
    · rw [decide_eq_true h1, cond_true, insG_true]
      by_cases h2 : s > m
      · rw [decide_eq_true h2, cond_true]
        show ((s :: r).all (fun y => decide (m < y)) && sortedB (s :: r)) = true
        rw [hs, Bool.and_true, List.all_eq_true]
        intro y hy
        rcases List.mem_cons.1 hy with e | e
        · subst e; exact decide_eq_true h2
        · exact decide_eq_true (by have := hs2.1 y e; omega)
      · rw [decide_eq_false h2, cond_false]; exact hs
    · rw [decide_eq_false h1, cond_false]
      show ((insG false r m).all (fun y => decide (s < y)) && sortedB (insG false r m)) = true
      rw [insG_sorted r m hs2.2, Bool.and_true, List.all_eq_true]
      intro y hy
      rcases insG_mem r m y hy with e | e
      · subst e; exact decide_eq_true (by omega)
      · exact decide_eq_true (hs2.1 y e)
theorem insG_eq : ∀ (l : List Int) (m : Int), insG false l m = bif found l m then l else l.take (posG l m) ++ [m] ++ l.drop (posG l m)
  | [], m => by simp [insG, found, posG]
  | s :: r, m => by
    unfold insG
    rw [Bool.not_false, Bool.true_and]
    by_cases h1 : s ≥ m
    · have hp : posG (s :: r) m = 0 := by
        show (bif decide (s < m) then posG r m + 1 else 0) = _
        rw [decide_eq_false (by omega)]; rfl
      rw [decide_eq_true h1, cond_true, insG_true]
      unfold found
      rw [hp]
      by_cases h2 : s > m
      · rw [decide_eq_true h2, cond_true]
        have hne : (s == m) = false := by simp; omega
        simp [hne]
      · have e : s = m := by omega
        subst e
        simp
    · have hp : posG (s :: r) m = posG r m + 1 := by
        show (bif decide (s < m) then posG r m + 1 else 0) = _
        rw [decide_eq_true (by omega)]; rfl
      rw [decide_eq_false h1, cond_false, insG_eq r m]
      unfold found
      rw [hp]
      by_cases h3 : posG r m < r.length
      · rw [decide_eq_true h3, decide_eq_true (show posG r m + 1 < (s :: r).length by simp; omega)]
        simp only [cond_true, List.getD_cons_succ]
        cases (r.getD (posG r m) 0 == m) <;> simp
      · rw [decide_eq_false h3, decide_eq_false (show ¬ posG r m + 1 < (s :: r).length by simp; omega)]
        simp

def insK (l : List Int) : List TD → Bool
  | [a, b] => match a.as (.int .i64), b.as (.slice (.int .i64)) with
    | some (i : Int), some (ys : List Int) => decide (0 ≤ i) && decide (i ≤ ((l.length : Nat) : Int)) && lenOK (l.length + 2) && decide (ys.length = 1)
    | _, _ => false
  | _ => false
def insR (l : List Int) : List TD → List Int
  | [a, b] => match a.as (.int .i64), b.as (.slice (.int .i64)) with
    | some (i : Int), some (ys : List Int) => l.take i.toNat ++ ys ++ l.drop i.toNat
    | _, _ => l
  | _ => l
def FIns : OC := ⟨.int .i64, insK, insR⟩

noncomputable def G18k : Tbl := (Tbl.none.add 27 FBin).addO 28 FIns
theorem loop18k (l : List Po.D) (hl : l.length + 3 ≤ lenBound) : ∀ (k i : Nat) (acc : List Int), i + k = l.length → acc.length ≤ i → sortedB acc = true →
    Goes G18k T Try.f18.ntmps Try.f18.results.toList (.loop M18k.body M18k.kont (S18k l ((List.length l : Nat) : Int) i acc)) (.own (.int .i64) (monG acc (l.drop i)))
  | 0, i, acc, h, ha, hs => by
    refine Goes.lp' (i18k Tbl.none (fun l _ => lenOK (List.length l) && sortedB l) (fun l t => posG l t) found insK insR l _ i acc) ?_
    rw [decide_eq_false (show ¬ (i : Int) < ((l.length : Nat) : Int) by omega), drop_end (by omega)]
    exact .ret _
  | k + 1, i, acc, h, ha, hs => by
    refine Goes.lp' (i18k Tbl.none (fun l _ => lenOK (List.length l) && sortedB l) (fun l t => posG l t) found insK insR l _ i acc) ?_
    have hi : (i : Int) < ((l.length : Nat) : Int) := by omega
    have hla : lenOK (List.length acc) = true := decide_eq_true (by omega)
    have hlen := insG_len false acc (l.getD i zP).2.1
    have hn := loop18k l hl k (i + 1) (insG false acc (l.getD i zP).2.1) (by omega) (by simp only [cond_false] at hlen; omega) (insG_sorted _ _ hs)
    rw [decide_eq_true hi, cond_true, toNat_lt (by omega) hi, cond_true, hla, hs, Bool.true_and, cond_true, w_step (by omega) hi (by omega), Int.toNat_natCast, drop_cons l zP i (by omega), show ((i : Int) + 1) = ((i + 1 : Nat) : Int) by omega]
    rw [insG_eq] at hn
    show Goes _ _ _ _ _ (.own (.int .i64) (monG (insG false acc (l.getD i zP).2.1) (l.drop (i + 1))))
    rw [insG_eq]
    change Goes _ _ _ _ (bif (!found acc (l.getD i zP).2.1) then _ else _) _
    generalize (l.getD i zP).2.1 = m at *
    cases hf : found acc m with
    | true => rw [hf] at hn; exact hn
    | false =>
      rw [hf] at hn
      have hp := posG_le acc m
      have hk : insK acc [I (posG acc m), TD.mk (.slice (.int .i64)) [m]] = true := by
        show (decide ((0 : Int) ≤ (posG acc m : Int)) && decide ((posG acc m : Int) ≤ ((acc.length : Nat) : Int)) && lenOK (acc.length + 2) && decide (([m] : List Int).length = 1)) = true
        rw [decide_eq_true (by omega), decide_eq_true (by omega), show lenOK (acc.length + 2) = true from decide_eq_true (by omega)]; rfl
      change Goes _ _ _ _ (bif insK acc [I (posG acc m), TD.mk (.slice (.int .i64)) [m]] then _ else _) _
      rw [hk]
      have hr : insR acc [I (posG acc m), TD.mk (.slice (.int .i64)) [m]] = acc.take (posG acc m) ++ [m] ++ acc.drop (posG acc m) := by
        show acc.take (Int.toNat (posG acc m : Int)) ++ [m] ++ acc.drop (Int.toNat (posG acc m : Int)) = _
        rw [Int.toNat_natCast]
      change Goes _ _ _ _ (.loop M18k.body M18k.kont (S18k l _ _ (insR acc [I (posG acc m), TD.mk (.slice (.int .i64)) [m]]))) _
      rw [hr]
      exact hn
theorem has_Months_of (hI : HasO Try.prog 28 FIns) : Hs 18 (FC1 LP kMon fun l => .own (.int .i64) (monG [] l)) :=
  Has.fc1 (fn := Try.f18) ((env0.more has_bin).moreO hI) (by kernel_rfl) (by kernel_rfl) (by kernel_rfl) (by kernel_rfl) fun l h =>
    .run1 (e18k Tbl.none (fun l _ => lenOK (List.length l) && sortedB l) (fun l t => posG l t) found insK insR l) (loop18k l (lenOK_spec h) (List.length l) 0 [] (by omega) (Nat.le_refl _) rfl)
end Go.Lift.V37
set_option maxRecDepth 100000
set_option linter.unusedVariables false
set_option linter.unusedSimpArgs false
namespace Go.Lift.V37
open Go.Lift Go.Proofs

theorem cool1 {f : Nat} {a t : Ty} {k : a.D → Bool} {r : a.D → List t.D} (h : Hs f (FC1 a k fun x => .own t (r x))) : Hs f (FC1 a k fun x => .tv ⟨.slice t, r x⟩) := by
  refine Has.cool h fun tds s hs => ?_
  unfold FC1 at *
  split at hs
  · simp only [Option.map_eq_some_iff] at hs
    obtain ⟨x, hx, rfl⟩ := hs
    exact ⟨t, r x, by simp only [hx, Option.map_some], rfl⟩
  · simp at hs
noncomputable def FMon := FC1 LP kMon fun l => .tv ⟨IL, monG [] l⟩
theorem has_MonR : Hs 19 FMon := cool1 has_Months37
theorem has_Mon (hI : HasO Try.prog 28 FIns) : Hs 18 FMon := cool1 (has_Months_of hI)
noncomputable def FMonO := FC1 LP kMon fun l => .own (.int .i64) (monG [] l)
noncomputable def FAwake := FC0 true (.tv (B true))
theorem e8w : runL ((((((Tbl.none.add 9 FVal).add 11 FRcv).add 13 FWvd).add 15 FCash).add 17 FInts).add 18 FMonO) [] Try.f8 1000 (bod Try.f8) (entry []) = .ret (.tv (B true)) := by kernel_rfl
theorem has_awake (hI : HasO Try.prog 28 FIns) : Hs 8 FAwake :=
  Has.fc0 (fn := Try.f8) ((((((env0.more has9k).more (show Hs _ FRcv from has_Received)).more (show Hs _ FWvd from has_Waived)).more has_Cash).more has_Ints).more (show Hs _ FMonO from has_Months_of hI)) (by kernel_rfl) (by kernel_rfl) (by kernel_rfl) (by kernel_rfl) fun _ => .run1 e8w (.ret _)
theorem e3k (G : Tbl) (k8 : Bool) (r8 : Bool) (k9 : (List (Ty.D Po)) → Bool) (r9_0 : (List (Ty.D Po)) → Int) (r9_1 : (List (Ty.D Po)) → Int) (k10 : (List (Ty.D Po)) → Bool) (r10_0 : (List (Ty.D Po)) → Int) (r10_1 : (List (Ty.D Po)) → Int) (a0 : (List (Ty.D Po))) :
    runL (((G.add 8 (FC0  k8 (.tv (B r8)))).add 9 (FC1 LP k9 (fun x0 => .tup [.tv (I (r9_0 x0)), .tv (I (r9_1 x0))]))).add 10 (FC1 LP k10 (fun x0 => .tup [.tv (I (r10_0 x0)), .tv (I (r10_1 x0))]))) [] Try.f3 1000 (bod Try.f3) (entry [(TD.mk LP a0)]) =
  bif (decide (((List.length a0 : Nat) : Int) > 200)) then
    bif k8 then
      .ret (.tv (B r8))
    else
      .fail
  else
    bif (k9 a0) then
      bif (k10 a0) then
        bif (k8 || (!(bif ((r9_0 a0) == (r10_0 a0)) then ((r9_1 a0) == (r10_1 a0)) else false))) then
          .ret (.tv (B (bif (bif ((r9_0 a0) == (r10_0 a0)) then ((r9_1 a0) == (r10_1 a0)) else false) then r8 else false)))
        else
          .fail
      else
        .fail
    else
      .fail := by kernel_rfl

theorem e4k (G : Tbl) (k8 : Bool) (r8 : Bool) (k11 : (List (Ty.D Po)) → Int → Bool) (r11 : (List (Ty.D Po)) → Int → Int) (k12 : (List (Ty.D Po)) → Int → Bool) (r12 : (List (Ty.D Po)) → Int → Int) (k13 : (List (Ty.D Po)) → Int → Bool) (r13 : (List (Ty.D Po)) → Int → Int) (k14 : (List (Ty.D Po)) → Int → Bool) (r14 : (List (Ty.D Po)) → Int → Int) (k15 : (List (Ty.D Po)) → (Ty.D Rg) → Bool) (r15 : (List (Ty.D Po)) → (Ty.D Rg) → Int) (k16 : (List (Ty.D Po)) → (Ty.D Rg) → Bool) (r16 : (List (Ty.D Po)) → (Ty.D Rg) → Int) (a0 : (List (Ty.D Po))) (a1 : Int) (a2 : (Ty.D Rg)) :
    runL (((((((G.add 8 (FC0  k8 (.tv (B r8)))).add 11 (FC2 LP (.int .i64) k11 (fun x0 x1 => .tv (I (r11 x0 x1))))).add 12 (FC2 LP (.int .i64) k12 (fun x0 x1 => .tv (I (r12 x0 x1))))).add 13 (FC2 LP (.int .i64) k13 (fun x0 x1 => .tv (I (r13 x0 x1))))).add 14 (FC2 LP (.int .i64) k14 (fun x0 x1 => .tv (I (r14 x0 x1))))).add 15 (FC2 LP Rg k15 (fun x0 x1 => .tv (I (r15 x0 x1))))).add 16 (FC2 LP Rg k16 (fun x0 x1 => .tv (I (r16 x0 x1))))) [] Try.f4 1000 (bod Try.f4) (entry [(TD.mk LP a0), (I a1), (TD.mk Rg a2)]) =
  bif (decide (((List.length a0 : Nat) : Int) > 200)) then
    bif k8 then
      .ret (.tv (B r8))
    else
      .fail
  else
    bif (k11 a0 a1) then
      bif (k12 a0 a1) then
        bif ((k13 a0 a1) || (!((r11 a0 a1) == (r12 a0 a1)))) then
          bif ((k14 a0 a1) || (!((r11 a0 a1) == (r12 a0 a1)))) then
            bif ((k15 a0 a2) || (!(bif ((r11 a0 a1) == (r12 a0 a1)) then ((r13 a0 a1) == (r14 a0 a1)) else false))) then
              bif ((k16 a0 a2) || (!(bif ((r11 a0 a1) == (r12 a0 a1)) then ((r13 a0 a1) == (r14 a0 a1)) else false))) then
                bif (k8 || (!(bif (bif ((r11 a0 a1) == (r12 a0 a1)) then ((r13 a0 a1) == (r14 a0 a1)) else false) then ((r15 a0 a2) == (r16 a0 a2)) else false))) then
                  .ret (.tv (B (bif (bif (bif ((r11 a0 a1) == (r12 a0 a1)) then ((r13 a0 a1) == (r14 a0 a1)) else false) then ((r15 a0 a2) == (r16 a0 a2)) else false) then r8 else false)))
                else
                  .fail
              else
                .fail
            else
              .fail
          else
            .fail
        else
          .fail
      else
        .fail
    else
      .fail := by kernel_rfl

theorem e5k (G : Tbl) (k8 : Bool) (r8 : Bool) (k17 : (List Int) → (List Int) → Bool) (r17 : (List Int) → (List Int) → Bool) (k18 : (List (Ty.D Po)) → Bool) (r18 : (List (Ty.D Po)) → (List Int)) (k19 : (List (Ty.D Po)) → Bool) (r19 : (List (Ty.D Po)) → (List Int)) (a0 : (List (Ty.D Po))) :
    runL ((((G.add 8 (FC0  k8 (.tv (B r8)))).add 17 (FC2 IL IL k17 (fun x0 x1 => .tv (B (r17 x0 x1))))).add 18 (FC1 LP k18 (fun x0 => .tv (TD.mk IL (r18 x0))))).add 19 (FC1 LP k19 (fun x0 => .tv (TD.mk IL (r19 x0))))) [] Try.f5 1000 (bod Try.f5) (entry [(TD.mk LP a0)]) =
  bif (decide (((List.length a0 : Nat) : Int) > 200)) then
    bif k8 then
      .ret (.tv (B r8))
    else
      .fail
  else
    bif (k18 a0) then
      bif (k19 a0) then
        bif (k17 (r18 a0) (r19 a0)) then
          bif (k8 || (!(r17 (r18 a0) (r19 a0)))) then
            .ret (.tv (B (bif (r17 (r18 a0) (r19 a0)) then r8 else false)))
          else
            .fail
        else
          .fail
      else
        .fail
    else
      .fail := by kernel_rfl

noncomputable def M7k : Leaf := .loop (cAt Try.f7 [1, 1, 1, 0, 1, 0, 0]) [.inBlock 0, .code (cAt Try.f7 [1, 1, 1, 1])] ⟨[], []⟩
def S7k (s6 : Int) (b2 : (Ty.D Po)) (b5 : (List (Ty.D Po))) : St := ⟨[(2, .ptr 2 none []), (5, .ref 5), (6, .tv (I s6))], [(2, .var (TD.mk Po b2)), (5, .vec Po b5)]⟩
theorem i7k (G : Tbl) (k8 : Bool) (r8 : Bool) (k9 : (List (Ty.D Po)) → Bool) (r9_0 : (List (Ty.D Po)) → Int) (r9_1 : (List (Ty.D Po)) → Int) (s6 : Int) (b2 : (Ty.D Po)) (b5 : (List (Ty.D Po))) :
    runL ((G.add 8 (FC0  k8 (.tv (B r8)))).add 9 (FC1 LP k9 (fun x0 => .tup [.tv (I (r9_0 x0)), .tv (I (r9_1 x0))]))) [(322, [2, 5, 6])] Try.f7 1000 M7k.round (S7k s6 b2 b5) =
  bif (decide (s6 < ((List.length b5 : Nat) : Int))) then
    bif (inB s6 (List.length b5)) then
      .loop M7k.body M7k.kont (S7k (w (s6 + 1)) b2 (List.set b5 (Int.toNat s6) b2))
    else
      .fail
  else
    bif (k9 b5) then
      bif (k8 || (!(bif ((r9_0 b5) == 4096) then ((r9_1 b5) == 4) else false))) then
        .ret (.tv (B (bif (bif ((r9_0 b5) == 4096) then ((r9_1 b5) == 4) else false) then r8 else false)))
      else
        .fail
    else
      .fail := by kernel_rfl
theorem e7k (G : Tbl) (k8 : Bool) (r8 : Bool) (k9 : (List (Ty.D Po)) → Bool) (r9_0 : (List (Ty.D Po)) → Int) (r9_1 : (List (Ty.D Po)) → Int) (a0 : (Ty.D Po)) (a1 : Int) :
    runL ((G.add 8 (FC0  k8 (.tv (B r8)))).add 9 (FC1 LP k9 (fun x0 => .tup [.tv (I (r9_0 x0)), .tv (I (r9_1 x0))]))) [(322, [2, 5, 6])] Try.f7 1000 (bod Try.f7) (entry [(TD.mk Po a0), (I a1)]) =
  bif (bif (decide (a1 < 0)) then true else (decide (a1 > 3))) then
    bif k8 then
      .ret (.tv (B r8))
    else
      .fail
  else
    bif (decide (0 ≤ (w (4097 + a1))) && decide ((w (4097 + a1)) ≤ (w (4097 + a1))) && lenOK (Int.toNat (w (4097 + a1)))) then
      .loop M7k.body M7k.kont (S7k 0 a0 (zeros Po (Int.toNat (w (4097 + a1)))))
    else
      .fail := by kernel_rfl

end Go.Lift.V37
set_option maxRecDepth 100000
set_option linter.unusedVariables false
set_option linter.unusedSimpArgs false
namespace Go.Lift.V37
open Go.Lift Go.Proofs

theorem small200 {n : Nat} (h : decide (((n : Nat) : Int) > 200) = false) : n ≤ 200 := by
  have := of_decide_eq_false h; omega
section
variable (hI : HasO Try.prog 28 FIns)
include hI
theorem has3k : Hs 3 (FC1 LP (fun _ => true) fun _ => .tv (B true)) := by
  refine Has.fc1 (fn := Try.f3) (((env0.more (has_awake hI)).more has9k).more has10k) (by kernel_rfl) (by kernel_rfl) (by kernel_rfl) (by kernel_rfl) fun l _ => .run1 (e3k Tbl.none true true (fun _ => true) (fun l => (valV l).1) (fun l => (valV l).2) (fun _ => true) (fun l => (valV l).1) (fun l => (valV l).2) l) ?_
  refine .bif (fun _ => .ret _) fun _ => ?_
  simp only [beq_self_eq_true, cond_true, Bool.true_or]
  exact .ret _
theorem has4k : Hs 4 (FC3 LP (.int .i64) Rg (fun _ _ _ => true) fun _ _ _ => .tv (B true)) := by
  refine Has.fc3 (fn := Try.f4) (((((((env0.more (has_awake hI)).more (show Hs _ FRcv from has_Received)).more has_Received37).more (show Hs _ FWvd from has_Waived)).more has_Waived37).more has_Cash).more has_Cash37) (by kernel_rfl) (by kernel_rfl) (by kernel_rfl) (by kernel_rfl)
    fun l m g _ => .run1 (e4k Tbl.none true true (fun l _ => smOK l) rcv (fun l _ => smOK l) rcv (fun l _ => smOK l) wvd (fun l _ => smOK l) wvd (fun l _ => smOK l) csh (fun l _ => smOK l) csh l m g) ?_
  refine .bif (fun _ => .ret _) fun h => ?_
  have hs : smOK l = true := decide_eq_true (Nat.le_trans (small200 h) (by decide))
  simp only [hs, beq_self_eq_true, cond_true, Bool.true_or]
  exact .ret _
theorem has5k : Hs 5 (FC1 LP (fun _ => true) fun _ => .tv (B true)) := by
  refine Has.fc1 (fn := Try.f5) ((((env0.more (has_awake hI)).more has_Ints).more (has_Mon hI)).more has_MonR) (by kernel_rfl) (by kernel_rfl) (by kernel_rfl) (by kernel_rfl) fun l _ => .run1 (e5k Tbl.none true true (fun a _ => lenOK (List.length a)) (fun a b => decide (a = b)) kMon (monG []) kMon (monG []) l) ?_
  refine .bif (fun _ => .ret _) fun h => ?_
  have hlen := small200 h
  have hk : kMon l = true := decide_eq_true (Nat.le_trans (Nat.add_le_add_right hlen 3) (by decide))
  have hm : ∀ (r : List Po.D) (acc : List Int), (monG acc r).length ≤ acc.length + r.length := by
    intro r
    induction r with
    | nil => intro acc; exact Nat.le_refl _
    | cons x r ih =>
      intro acc
      have h1 := ih (insG false acc x.2.1)
      have h2 := insG_len false acc x.2.1
      simp only [cond_false] at h2
      show (monG (insG false acc x.2.1) r).length ≤ acc.length + (r.length + 1)
      omega
  have hl : lenOK (List.length (monG [] l)) = true := decide_eq_true (Nat.le_trans (hm l []) (by simp; exact Nat.le_trans hlen (by decide)))
  rw [hk, cond_true, cond_true, hl, cond_true, decide_eq_true (rfl : monG [] l = monG [] l)]
  exact .ret _
end
end Go.Lift.V37
set_option maxRecDepth 100000
set_option linter.unusedVariables false
set_option linter.unusedSimpArgs false
namespace Go.Lift.V37
open Go.Lift Go.Proofs

noncomputable def G7k : Tbl := (Tbl.none.add 8 FAwake).add 9 FVal
theorem loop7k (x : Po.D) : ∀ (k i : Nat) (b : List Po.D), i + k = b.length → 4096 < b.length → b.length ≤ lenBound →
    Goes G7k T Try.f7.ntmps Try.f7.results.toList (.loop M7k.body M7k.kont (S7k i x b)) (.tv (B true))
  | 0, i, b, h, h1, h2 => by
    refine Goes.lp' (i7k Tbl.none true true (fun _ => true) (fun l => (valV l).1) (fun l => (valV l).2) i x b) ?_
    have hv : valV b = (4096, 4) := by unfold valV; rw [decide_eq_true (show ((b.length : Nat) : Int) > 4096 by omega)]; rfl
    rw [decide_eq_false (show ¬ (i : Int) < ((b.length : Nat) : Int) by omega), hv]
    exact .ret _
  | k + 1, i, b, h, h1, h2 => by
    refine Goes.lp' (i7k Tbl.none true true (fun _ => true) (fun l => (valV l).1) (fun l => (valV l).2) i x b) ?_
    have hi : (i : Int) < ((b.length : Nat) : Int) := by omega
    rw [decide_eq_true hi, cond_true, toNat_lt (by omega) hi, cond_true, w_step (by omega) hi h2, Int.toNat_natCast, show ((i : Int) + 1) = ((i + 1 : Nat) : Int) by omega]
    exact loop7k x k (i + 1) (b.set i x) (by simp; omega) (by simp; omega) (by simp; omega)
theorem has7k (hI : HasO Try.prog 28 FIns) : Hs 7 (FC2 Po (.int .i64) (fun _ _ => true) fun _ _ => .tv (B true)) := by
  refine Has.fc2 (fn := Try.f7) ((env0.more (has_awake hI)).more has9k) (by kernel_rfl) (by kernel_rfl) (by kernel_rfl) (by kernel_rfl) fun x (n : Int) _ => .run1 (e7k Tbl.none true true (fun _ => true) (fun l => (valV l).1) (fun l => (valV l).2) x n) ?_
  rw [bor_bif]
  refine .bif (fun _ => .ret _) fun g => ?_
  obtain ⟨g1, g2⟩ := Bool.or_eq_false_iff.1 g
  have h1 := of_decide_eq_false g1
  have h2 := of_decide_eq_false g2
  obtain ⟨m, rfl⟩ : ∃ m : Nat, n = m := ⟨n.toNat, by omega⟩
  have e : w (4097 + (m : Int)) = ((4097 + m : Nat) : Int) := by rw [show w (4097 + (m : Int)) = 4097 + (m : Int) from wrap_id (by omega) (by omega)]; omega
  have hb : 4097 + m ≤ lenBound := Nat.le_trans (show 4097 + m ≤ 5000 by omega) (by decide)
  rw [e, Int.toNat_natCast, decide_eq_true (by omega : (0 : Int) ≤ ((4097 + m : Nat) : Int)), decide_eq_true (Int.le_refl _), show lenOK (4097 + m) = true from decide_eq_true hb]
  have hz : (zeros Po (4097 + m)).length = 4097 + m := by unfold zeros; simp
  exact loop7k x (4097 + m) 0 (zeros Po (4097 + m)) (by rw [hz]; omega) (by rw [hz]; omega) (by rw [hz]; exact hb)
end Go.Lift.V37
set_option maxRecDepth 100000
set_option linter.unusedVariables false
set_option linter.unusedSimpArgs false
namespace Go.Lift.V37
open Go.Lift Go.Proofs Go.Shelf Go.RowKit

/-! slices.Insert of one number into a vector of one's own: by the library's contracts -/
def insRen : Go.Shelf.Ren := ⟨fun | 21 => 28 | 27 => 32 | 28 => 33 | 35 => 35 | 39 => 36 | n => n, fun | 22 => 34 | 3 => 3 | 4 => 4 | 0 => 0 | n => n, fun n => n⟩
theorem lays21 : Lays2.n21 Try.prog insRen where
  mixed := by kernel_rfl
  f21 := Try.func28.trans (congrArg some (by kernel_rfl))
  f27 := Try.func32.trans (congrArg some (by kernel_rfl))
  f28 := Try.func33.trans (congrArg some (by kernel_rfl))
  f35 := Try.func35.trans (congrArg some (by kernel_rfl))
  f39 := Try.func36.trans (congrArg some (by kernel_rfl))
  t0 := Try.underlying0
  a0 := Try.isAgg0
  z0 := Try.sizeOf0
  v0 := Try.zeroValue0
  t3 := Try.underlying3
  a3 := Try.isAgg3
  z3 := Try.sizeOf3
  v3 := Try.zeroValue3
  t4 := Try.underlying4
  a4 := Try.isAgg4
  z4 := Try.sizeOf4
  v4 := Try.zeroValue4
  t22 := Try.underlying34
  a22 := Try.isAgg34
  z22 := Try.sizeOf34
  v22 := Try.zeroValue34
  i3 := by kernel_rfl

/-- two slices of different blocks, the second of them plain memory -/
theorem overlaps_no {P : Program} (w : World) (tS tR e : TypeId) (ht : P.underlying tS = some (.slice e)) (size : Nat) (hz : ∀ w, (Go.sizeOf e).run P w = .ok size w)
    (a b : Addr) (la ca lb cb : Nat) (hne : a.block ≠ b.block) (tA tB : TypeId) (kA kB : Nat)
    (hsa : w.shape? a.block = some (tA, kA)) (hsb : w.shape? b.block = some (tB, kB)) (hkA : kA ≠ 0) (hkB : kB ≠ 0)
    (hfb : w.frozen? b = false) (hfe : w.frozen? { block := b.block, off := kB } = false) :
    (Extern.SlicesOverlaps.overlaps #[tS, tS] #[tR] #[.slice (some a) la ca, .slice (some b) lb cb]).run P w = .ok (.bool false) w := by
  have hnb : (a.block != b.block) = true := by simpa using hne
  have hnb' : (a.block == b.block) = false := by simpa using hne
  show Sem.run P (α := Value) (_ >>= _) w = _
  by_cases h0 : la = 0 ∨ lb = 0 ∨ size = 0
  · simp [run_underlying ht, hz, h0]
  · cases kB with
    | zero => exact absurd rfl hkB
    | succ kB =>
      cases kA with
      | zero => exact absurd rfl hkA
      | succ kA =>
      cases hfa : w.frozen? a <;>
        simp [run_underlying ht, hz, h0, hnb, hnb', frozen, noView, viewAt, mayBeOne, stringish, shape, Sem.run, hsa, hsb, hfa, hfb, hfe]

section
variable {P : Program} {ρ : Ren}
set_option maxHeartbeats 4000000 in
/-- there is room, i < len(s): in place -/
theorem ins_shift (L : Lays2.n21 P ρ) (b off n c i vb voff m vc : Nat) (cs vs : List Value) (w : World) (hi : i < n) (hm : 0 < m) (hroom : n + m ≤ c) (hc63 : c ≤ 9223372036854775807) (hvb : vb ≠ b)
    (hcl : cs.length = n) (hvl : vs.length = m)
    (hcs : ∀ j v, cs[j]? = some v → w.cell? ⟨b, off + j, none⟩ = some v) (hsp : ∀ j, j < n + m → (w.cell? ⟨b, off + j, none⟩).isSome = true) (hfz : ∀ j, w.frozen? ⟨b, j, none⟩ = false)
    (hvs : ∀ j v, vs[j]? = some v → w.cell? ⟨vb, voff + j, none⟩ = some v) (h1c : ∀ v ∈ cs, v.oneCell' = true) (h1v : ∀ v ∈ vs, v.oneCell' = true)
    (tA tB : TypeId) (kA kB : Nat) (hsa : w.shape? vb = some (tA, kA)) (hsb : w.shape? b = some (tB, kB)) (hkA : kA ≠ 0) (hkB : kB ≠ 0) :
    Calls P (ρ.f 21) #[.slice (some ⟨b, off, none⟩) n c, .int .i64 i, .slice (some ⟨vb, voff, none⟩) m vc] w fun e w' =>
      e = .returned (.slice (some ⟨b, off, none⟩) (n + m) c) ∧ w' = (w.drew.setCells b (off + (i + m)) (cs.drop i)).setCells b (off + i) vs := by
  have t0 := L.t0; have a0 := L.a0; have z0 := L.z0; have v0 := L.v0; have t3 := L.t3; have a3 := L.a3; have z3 := L.z3; have v3 := L.v3; have t4 := L.t4; have a4 := L.a4; have z4 := L.z4; have v4 := L.v4; have t22 := L.t22; have a22 := L.a22; have z22 := L.z22; have v22 := L.v22
  have u0 := run_underlying L.t0; have u3 := run_underlying L.t3; have u4 := run_underlying L.t4; have u22 := run_underlying L.t22
  have mixed := L.mixed
  have hz1 : ¬ ((m : Int) = 0) := by omega
  have hz2 : ¬ ((i : Int) = (n : Int)) := by omega
  have hsz : (P.info? (ρ.t 3)).map (·.size) = some 1 := by
    obtain ⟨i0, hi0, h0, h1, h2⟩ := info_parts L.i3
    rw [hi0]; simp [h1]
  have hov : ∀ lb cb, (callFunc (ρ.f 27) #[.slice (some ⟨vb, voff, none⟩) m vc, .slice (some ⟨b, off + (i + m), none⟩) lb cb]).run P w = .ok (.value (.bool false)) w := fun lb cb => by
    rw [run_callFunc_extern L.f27 (by kernel_rfl) (by kernel_rfl) (by kernel_rfl) (e := Extern.SlicesOverlaps.overlaps #[(ρ.t 22), (ρ.t 22)] #[(ρ.t 4)]) (by kernel_rfl),
      overlaps_no w (ρ.t 22) (ρ.t 4) (ρ.t 3) L.t22 1 L.z3 ⟨vb, voff, none⟩ ⟨b, off + (i + m), none⟩ m vc lb cb hvb tA tB kA kB hsa hsb hkA hkB (hfz _) (hfz _)]
    rfl
  have hdl : (cs.drop i).length = n - i := by rw [List.length_drop, hcl]
  have hw1 : IntKind.i64.wrap ((i : Int) + (m : Int)) = (i : Int) + (m : Int) := by rw [IntKind.wrap_i64]; omega
  have hb1 : (0 : Int) ≤ (i : Int) + (m : Int) := by omega
  have hin : i ≤ n := by omega
  have htn : ((i : Int) + (m : Int)).toNat = i + m := by omega
  have hb2 : ¬ (c = i + m) := by omega
  have hb3 : (i : Int) ≤ (n : Int) + (m : Int) := by omega
  have hb4 : ¬ (c = i) := by omega
  have hcp1 : ∀ ty dc sc, (Builtin.copy_ #[(ρ.t 22), (ρ.t 22)] ty #[.slice (some ⟨b, off + (i + m), none⟩) (n + m - (i + m)) dc, .slice (some ⟨b, off + i, none⟩) (n + m - i) sc]).run P w.drew = .ok (goInt (cs.drop i).length) (w.drew.setCells b (off + (i + m)) (cs.drop i)) := fun ty dc sc =>
    run_copy_cells w.drew _ _ ty (ρ.t 3) b (off + (i + m)) (n + m - (i + m)) dc ⟨b, off + i, none⟩ (n + m - i) sc (cs.drop i) L.t22 hsz (by rw [hdl]; simp only [Nat.min_def]; split <;> omega)
      (fun j v hj => by rw [Addr.add_lit, Nat.add_assoc]; exact hcs (i + j) v (by rwa [List.getElem?_drop] at hj))
      (fun j hj => by rw [Nat.add_assoc]; exact hsp _ (by omega)) (fun j hj => hfz _) (fun v hv => h1c v (List.mem_of_mem_drop hv))
  obtain ⟨W1, hW1⟩ : ∃ W1, W1 = w.drew.setCells b (off + (i + m)) (cs.drop i) := ⟨_, rfl⟩
  have hsp1 : ∀ k, k < n + m → (W1.cell? ⟨b, off + k, none⟩).isSome = true := fun k hk => by
    rw [hW1]
    exact isSome_setCells b _ _ _ (fun j hj => by rw [Nat.add_assoc]; exact hsp _ (by omega)) _ (hsp k hk)
  have hcp2 : ∀ (W : World), (∀ x, W.cell? x = W1.cell? x) → (∀ x, W.frozen? x = W1.frozen? x) → ∀ ty dc, (Builtin.copy_ #[(ρ.t 22), (ρ.t 22)] ty #[.slice (some ⟨b, off + i, none⟩) (n + m - i) dc, .slice (some ⟨vb, voff, none⟩) m vc]).run P W = .ok (goInt vs.length) (W.setCells b (off + i) vs) := fun W hWc hWf ty dc =>
    run_copy_cells W _ _ ty (ρ.t 3) b (off + i) (n + m - i) dc ⟨vb, voff, none⟩ m vc vs L.t22 hsz (by rw [hvl]; simp only [Nat.min_def]; split <;> omega)
      (fun j v hj => by
        rw [Addr.add_lit, hWc, hW1, World.cell?_setCells_out b _ _ _ _ (fun h _ => absurd h hvb)]
        exact hvs j v hj)
      (fun j hj => by rw [hWc, Nat.add_assoc]; exact hsp1 _ (by omega)) (fun j hj => by rw [hWf, hW1, World.frozen?_setCells]; exact hfz _) h1v
  rw [← hW1] at hcp1
  go_enter L.f21, Body2.n21_ntmps ρ
  go_wp2_with (simp only [hov])
  go_region_law_o (refine step_copy_runI rfl _ _ (ρ.t 22) (ρ.t 22) rfl _ _ (by simp [Act.eval, Act.put]) (by simp [Act.eval, Act.put]) (hcp1 _ _ _) ?_)
  go_wp2_with (at_builtin; refine wpList_copy_runI _ rfl _ _ (ρ.t 22) (ρ.t 22) rfl _ _ rfl rfl (hcp2 _ (fun _ => rfl) (fun _ => rfl) _ _) ?_)
  go_ret
  first | exact ⟨rfl, rfl⟩ | exact ⟨rfl, by rw [hW1]⟩
end
end Go.Lift.V37
set_option maxRecDepth 100000
set_option linter.unusedVariables false
set_option linter.unusedSimpArgs false
namespace Go.Lift.V37
open Go.Lift Go.Proofs Go.Shelf Go.RowKit

/-! slices.Insert: the contract of a call that takes a vector -/
structure Kept (b : Nat) (w w' : World) : Prop where
  size : w'.heap.size = w.heap.size
  os : w'.os = w.os
  output : w'.output = w.output
  tape : w'.tape = w.tape
  block : ∀ k, k ≠ b → w'.heap[k]? = w.heap[k]?
theorem Kept.trans {b : Nat} {w w' w'' : World} (h : Kept b w w') (h' : Kept b w' w'') : Kept b w w'' :=
  ⟨h'.size.trans h.size, h'.os.trans h.os, h'.output.trans h.output, h'.tape.trans h.tape, fun k hk => (h'.block k hk).trans (h.block k hk)⟩
theorem kept_refl (b : Nat) (w : World) : Kept b w w := ⟨rfl, rfl, rfl, rfl, fun _ _ => rfl⟩
theorem kept_drew (b : Nat) (w : World) : Kept b w w.drew := ⟨rfl, rfl, rfl, rfl, fun _ _ => rfl⟩
theorem kept_setCell (b o : Nat) (w : World) (v : Value) : Kept b w (w.setCell ⟨b, o, none⟩ v) :=
  ⟨by simp [World.setCell], rfl, rfl, rfl, fun k hk => by simp [World.setCell, Array.getElem?_modify, Ne.symm hk]⟩
theorem kept_setCells (b : Nat) : ∀ (vs : List Value) (o : Nat) (w : World), Kept b w (w.setCells b o vs)
  | [], o, w => kept_refl b w
  | v :: r, o, w => (kept_setCell b o w v).trans (kept_setCells b r (o + 1) _)

theorem setCells_at (b : Nat) : ∀ (vs : List Value) (o : Nat) (w : World) (cs : Array Value) (t : TypeId) (fz : Nat × Nat), w.heap[b]? = some (.cells cs t fz) → o + vs.length ≤ cs.size →
    ∃ cs', (w.setCells b o vs).heap[b]? = some (.cells cs' t fz) ∧ cs'.size = cs.size ∧ cs'.toList = cs.toList.take o ++ vs ++ cs.toList.drop (o + vs.length)
  | [], o, w, cs, t, fz, h, hl => ⟨cs, h, rfl, by simp⟩
  | v :: r, o, w, cs, t, fz, h, hl => by
    have h1 : (w.setCell ⟨b, o, none⟩ v).heap[b]? = some (.cells (cs.setIfInBounds o v) t fz) := by
      simp [World.setCell, Array.getElem?_modify, h]
    simp only [List.length_cons] at hl
    obtain ⟨cs', q1, q2, q3⟩ := setCells_at b r (o + 1) _ _ t fz h1 (by rw [Array.size_setIfInBounds]; omega)
    refine ⟨cs', q1, by rw [q2, Array.size_setIfInBounds], ?_⟩
    have ho : o < cs.toList.length := by rw [Array.length_toList]; omega
    rw [q3, Array.toList_setIfInBounds]
    have e1 : (cs.toList.set o v).take (o + 1) = cs.toList.take o ++ [v] := by
      rw [List.take_set, List.set_eq_take_append_cons_drop, List.take_take]
      rw [if_pos (by rw [List.length_take]; omega), Nat.min_eq_left (by omega)]
      rw [List.drop_eq_nil_of_le (by rw [List.length_take]; omega)]
    have e2 : (cs.toList.set o v).drop (o + 1 + r.length) = cs.toList.drop (o + (v :: r).length) := by
      rw [List.drop_set_of_lt (by omega)]
      rw [List.length_cons, show o + 1 + r.length = o + (r.length + 1) by omega]
    rw [e1, e2, List.append_assoc, List.append_assoc, List.append_assoc]; rfl

theorem encL_ints {P : Program} {σ : Store P} : ∀ (l : List Int) (xs : List Value), EncL σ (.int .i64) l xs → xs = l.map (Value.int .i64)
  | [], xs, h => h
  | x :: l, xs, h => by
    obtain ⟨c, r, h1, h2, h3⟩ := h
    have h4 : c = [Value.int .i64 x] := h2
    rw [h1, h4, encL_ints l r h3]; rfl
theorem encL_of_ints {P : Program} {σ : Store P} : ∀ (l : List Int), EncL σ (.int .i64) l (l.map (Value.int .i64))
  | [] => rfl
  | x :: l => ⟨[Value.int .i64 x], _, rfl, rfl, encL_of_ints l⟩

theorem boxOf {P : Program} {σ : Store P} {w : World} {n0 g cap n : Nat} {l : List Int} {cur : Array Value} {e : TypeId} (hg : w.heap[g]? = some (.cells cur e (0, 0))) (h0 : n0 ≤ g) (hs : σ g = none) (hn : l.length = n) (hl : n ≤ cap) (hm : cap ≤ maxLen) (hc : cur.size = cap)
    (ht : cur.toList.take n = l.map (Value.int .i64)) : BoxR σ w n0 (.vec (.int .i64) l) (.slice (some ⟨g, 0, none⟩) n cap) := by
  subst hn
  refine ⟨e, l.map (Value.int .i64), ⟨?_, .inr ⟨g, cap, cur, rfl, h0, hg, hl, hm, ?_, ?_⟩⟩, encL_of_ints l, fun k hk => ?_, Nat.one_pos⟩
  · show (l.map (Value.int .i64)).length = l.length * 1
    rw [List.length_map, Nat.mul_one]
  · show cur.size = cap * 1
    omega
  · show cur.toList.take (l.length * 1) = _
    rw [Nat.mul_one, ht]
  · cases hk; exact hs

theorem taken_of {P : Program} {σ : Store P} {w w' : World} {v : Value} {b : Nat} (hh : Holds w σ) (hb : b < w.heap.size → hBlock v = some b ∧ σ b = none) (h : w.heap.size ≤ w'.heap.size ∧ w'.os = w.os ∧ w'.output = w.output ∧ w'.tape = w.tape ∧ ∀ k, k < w.heap.size → k ≠ b → w'.heap[k]? = w.heap[k]?) : Taken v σ w σ w' := by
  obtain ⟨h1, h2, h3, h4, h5⟩ := h
  have hl : ∀ {k : Nat} {o : Obj}, w.heap[k]? = some o → k < w.heap.size := fun h => (Array.getElem?_eq_some_iff.1 h).1
  refine ⟨fun _ _ h => h, fun k o hk => ?_, fun _ _ h => .inl h, h1, fun k hk hv => ?_, h2, h3, h4⟩
  · have hw := hh k o hk
    by_cases e : k = b
    · subst e
      rw [(hb (hl hw)).2] at hk; cases hk
    · rw [h5 k (hl hw) e]; exact hw
  · by_cases e : k = b
    · subst e
      exact absurd (hb hk).1 hv
    · exact h5 k hk e

theorem one_ints (l : List Int) : ∀ v ∈ l.map (Value.int .i64), v.oneCell' = true := by
  intro v hv
  obtain ⟨x, _, rfl⟩ := List.mem_map.1 hv
  rfl

theorem zeroCells_size (v : Value) (hv : v.cells.size = 1) (n : Nat) : (Builtin.zeroCells v.cells n).size = n := by simp [Builtin.zeroCells, hv]

theorem taken_new {P : Program} {σ : Store P} {w : World} {v : Value} (hh : Holds w σ) (o : Obj) : Taken v σ w σ (w.drew.alloc o) :=
  taken_of (b := w.heap.size) hh (fun h => absurd h (Nat.lt_irrefl _)) ⟨by show w.heap.size ≤ (w.heap.push o).size; rw [Array.size_push]; omega, rfl, rfl, rfl, fun k hk _ => allocOld w.drew o k hk⟩
theorem rowSize (l : List Value) (G : Nat) (h : l.length ≤ G) : (l.toArray ++ Builtin.zeroCells (Value.int .i64 0).cells (G - l.length)).size = G := by
  rw [Array.size_append, zeroCells_size _ rfl, List.size_toArray]; omega
theorem rowTake (l : List Value) (z : Array Value) {n : Nat} (h : l.length = n) : (l.toArray ++ z).toList.take n = l := by
  subst h
  rw [Array.toList_append, List.take_append_of_le_length (by simp), List.take_of_length_le (by simp)]
theorem shift_take (L : List Value) (y : Value) (i n : Nat) (hi : i < n) (hn : n + 1 ≤ L.length) :
    ((L.take (i + 1) ++ (L.take n).drop i ++ L.drop (i + 1 + ((L.take n).drop i).length)).take i ++ [y] ++ (L.take (i + 1) ++ (L.take n).drop i ++ L.drop (i + 1 + ((L.take n).drop i).length)).drop (i + [y].length)).take (n + 1) = (L.take n).take i ++ [y] ++ (L.take n).drop i := by
  have hl : ((L.take n).drop i).length = n - i := by rw [List.length_drop, List.length_take]; omega
  have h1 : (L.take (i + 1)).length = i + 1 := by rw [List.length_take]; omega
  have e1 : (L.take (i + 1) ++ (L.take n).drop i ++ L.drop (i + 1 + ((L.take n).drop i).length)).take i = (L.take n).take i := by
    rw [List.append_assoc, List.take_append_of_le_length (by omega), List.take_take, List.take_take, Nat.min_eq_left (by omega), Nat.min_eq_left (by omega)]
  have e2 : (L.take (i + 1) ++ (L.take n).drop i ++ L.drop (i + 1 + ((L.take n).drop i).length)).drop (i + [y].length) = (L.take n).drop i ++ L.drop (i + 1 + ((L.take n).drop i).length) := by
    rw [List.append_assoc]
    exact List.drop_left' h1
  rw [e1, e2, ← List.append_assoc]
  exact List.take_left' (by rw [List.length_append, List.length_append, hl, List.length_take, List.length_take, List.length_singleton]; omega)

theorem insK_spec (l : List Int) (tds : List TD) (h : insK l tds = true) : ∃ (i : Nat) (y : Int), tds = [⟨.int .i64, (i : Int)⟩, ⟨.slice (.int .i64), [y]⟩] ∧ i ≤ l.length ∧ l.length + 2 ≤ lenBound ∧ insR l tds = l.take i ++ [y] ++ l.drop i := by
  unfold insK at h
  split at h
  · rename_i a b
    split at h
    · rename_i i ys ha hb
      have ea := TD.as_eq ha
      have eb := TD.as_eq hb
      subst ea; subst eb
      simp only [Bool.and_eq_true, decide_eq_true_eq] at h
      obtain ⟨⟨⟨h1, h2⟩, h3⟩, h4⟩ := h
      obtain ⟨i', rfl⟩ : ∃ i' : Nat, i = (i' : Int) := ⟨i.toNat, by omega⟩
      obtain ⟨y, rfl⟩ := List.length_eq_one_iff.1 h4
      refine ⟨i', y, rfl, by omega, lenOK_spec h3, ?_⟩
      show l.take (Int.toNat (i' : Int)) ++ [y] ++ l.drop (Int.toNat (i' : Int)) = _
      rw [Int.toNat_natCast]
    · cases h
  · cases h

/-- what the call gives, in one row -/
theorem ins_run {σ : Store Try.prog} (l : List Int) (i : Nat) (y : Int) (w : World) (n0 : Nat) (v : Value) (a : Addr) (vc : Nat) (hil : i ≤ l.length) (hlen : l.length + 2 ≤ lenBound) (hh : Holds w σ) (h0 : n0 ≤ w.heap.size) (hbox : BoxR σ w n0 (.vec (.int .i64) l) v)
    (hl : Lies σ a [Value.int .i64 y]) :
    Calls Try.prog (insRen.f 21) #[v, .int .i64 i, .slice (some a) 1 vc] w fun en w' => ∃ u σ', en = .returned u ∧ Taken v σ w σ' w' ∧ BoxR σ' w' n0 (.vec (.int .i64) (l.take i ++ [y] ++ l.drop i)) u ∧
      ∀ g, hBlock u = some g → hBlock v = some g ∨ w.heap.size ≤ g := by
  have L := lays21
  have hlb : lenBound = 68719476736 := rfl
  -- the new element's cell
  have hcell : σ.cell? a = some (.int .i64 y) := by
    have := hl 0 _ rfl
    simpa [Addr.add] using this
  obtain ⟨vb, voff, sp⟩ := a
  have hsp : sp = none := by
    unfold Store.cell? at hcell
    split at hcell
    · cases sp with
      | none => rfl
      | some s => simp at hcell
    · cases hcell
  subst hsp
  obtain ⟨ca, ta, fa, hva, hca⟩ : ∃ ca ta fa, σ vb = some (.cells ca ta fa) ∧ ca[voff]? = some (.int .i64 y) := by
    unfold Store.cell? at hcell
    split at hcell
    · rename_i c t f he
      exact ⟨c, t, f, he, by simpa using hcell⟩
    · cases hcell
  have hwa := hh _ _ hva
  have hvs : ∀ j u, [Value.int .i64 y][j]? = some u → w.cell? ⟨vb, voff + j, none⟩ = some u := by
    intro j u hj
    cases j with
    | zero => simp at hj; subst hj; simp [World.cell?, hwa, hca]
    | succ j => simp at hj
  have h1v : ∀ u ∈ [Value.int .i64 y], u.oneCell' = true := one_ints [y]
  obtain ⟨ety, xs, ⟨hxl, hrow⟩, henc, hsg, _⟩ := hbox
  have hxs := encL_ints _ _ henc
  subst hxs
  have hnl : (l.take i ++ [y] ++ l.drop i).length = l.length + 1 := by
    simp only [List.length_append, List.length_take, List.length_drop, List.length_singleton]; omega
  have h1c := one_ints l
  have hcl : (l.map (Value.int .i64)).length = l.length := List.length_map ..
  have hmapN : (l.take i ++ [y] ++ l.drop i).map (Value.int .i64) = (l.map (Value.int .i64)).take i ++ [Value.int .i64 y] ++ (l.map (Value.int .i64)).drop i := by
    rw [List.map_append, List.map_append, List.map_take, List.map_drop]; rfl
  have hnew : σ w.heap.size = none := by
    cases hs : σ w.heap.size with
    | none => rfl
    | some o => exact absurd ((Array.getElem?_eq_some_iff.1 (hh _ _ hs)).1) (Nat.lt_irrefl _)
  have hin : ∀ j u, (l.map (Value.int .i64))[j]? = some u → j < l.length := fun j u h => by
    have := (List.getElem?_eq_some_iff.1 h).1
    rwa [hcl] at this
  rcases hrow with ⟨rfl, hn⟩ | ⟨g, cap, cur, rfl, hng, hg, hnc, hcm, hcs, hct⟩
  · -- the nil slice
    have hl0 : l = [] := List.eq_nil_of_length_eq_zero hn
    subst hl0
    have hi0 : i = 0 := by simpa using hil
    subst hi0
    refine (Any2.slices_Insert_int_end_grow L none 0 0 vb voff 1 vc [] [Value.int .i64 y] w Nat.one_pos (Nat.le_refl _) Nat.one_pos (by omega) rfl rfl (fun _ => rfl) (fun a h => by cases h) hvs h1v).mono ?_
    rintro e w' ⟨rfl, rfl⟩
    refine ⟨_, σ, rfl, taken_new hh _, ?_, fun k hk => .inr (by cases hk; exact Nat.le_refl _)⟩
    refine boxOf (allocNew w.drew _) h0 hnew rfl (grownCap_ge w (0 + 1) 0 (insRen.t 3)) (grownCap_le_maxLen w _ _ _ (by unfold maxLen; omega)) (rowSize _ _ (grownCap_ge w (0 + 1) 0 (insRen.t 3))) (rowTake _ _ rfl)
  · rw [show (Ty.int .i64).size = 1 from rfl, Nat.mul_one] at hcs hct
    have hsgg : σ g = none := hsg g rfl
    have hne : vb ≠ g := fun e => by rw [e, hsgg] at hva; cases hva
    have hcellg : ∀ j, w.cell? ⟨g, j, none⟩ = cur[j]? := fun j => by simp [World.cell?, hg]
    have hfz : ∀ j, w.frozen? ⟨g, j, none⟩ = false := fun j => by simp [World.frozen?, hg]
    have hcs0 : ∀ j u, (l.map (Value.int .i64))[j]? = some u → w.cell? ⟨g, 0 + j, none⟩ = some u := fun j u h => by
      have hj := hin j u h
      rw [← hct, List.getElem?_take, if_pos hj] at h
      rw [Nat.zero_add, hcellg, ← Array.getElem?_toList]; exact h
    have hsome : ∀ j, j < cap → (w.cell? ⟨g, j, none⟩).isSome = true := fun j hj => by
      rw [hcellg, Array.getElem?_eq_getElem (by omega)]; rfl
    have hg0 : g < w.heap.size := (Array.getElem?_eq_some_iff.1 hg).1
    have hc63 : cap ≤ 9223372036854775807 := by unfold maxLen at hcm; omega
    have hm63 : l.length + 1 ≤ maxLen := by unfold maxLen; omega
    by_cases hi : i = l.length
    · have hnewl : (l.take i ++ [y] ++ l.drop i).map (Value.int .i64) = l.map (Value.int .i64) ++ [Value.int .i64 y] := by
        rw [hmapN, hi, List.take_of_length_le (by rw [hcl]; exact Nat.le_refl _), List.drop_eq_nil_of_le (by rw [hcl]; exact Nat.le_refl _), List.append_nil]
      subst hi
      by_cases hroom : l.length + 1 ≤ cap
      · refine (Any2.slices_Insert_int_end_room L g 0 l.length cap vb voff 1 vc [Value.int .i64 y] w Nat.one_pos hroom hc63 rfl (fun j hj => hsome _ (by omega)) (fun j hj => hfz _) hvs h1v).mono ?_
        rintro e w' ⟨rfl, rfl⟩
        obtain ⟨cs', q1, q2, q3⟩ := setCells_at g [Value.int .i64 y] (0 + l.length) w cur ety (0, 0) hg (by simp; omega)
        have hk := kept_setCells g [Value.int .i64 y] (0 + l.length) w
        refine ⟨_, σ, rfl, taken_of (b := g) hh (fun _ => ⟨rfl, hsgg⟩) ⟨Nat.le_of_eq hk.size.symm, hk.os, hk.output, hk.tape, fun k _ h => hk.block k h⟩, ?_, fun k hk => .inl hk⟩
        refine boxOf q1 hng hsgg hnl hroom hcm (q2.trans hcs) ?_
        rw [q3, Nat.zero_add, hct, hnewl, List.take_append_of_le_length (by simp), List.take_of_length_le (by simp)]
      · refine (Any2.slices_Insert_int_end_grow L (some ⟨g, 0, none⟩) l.length cap vb voff 1 vc (l.map (Value.int .i64)) [Value.int .i64 y] w Nat.one_pos hnc (by omega) (by omega) hcl rfl (fun h => by cases h) (fun a h => by cases h; intro j u hj; rw [Addr.add_lit]; exact hcs0 j u hj) hvs h1v).mono ?_
        rintro e w' ⟨rfl, rfl⟩
        refine ⟨_, σ, rfl, taken_new hh _, ?_, fun k hk => .inr (by cases hk; exact Nat.le_refl _)⟩
        have hge := grownCap_ge w (l.length + 1) cap (insRen.t 3)
        have hll : (l.map (Value.int .i64) ++ [Value.int .i64 y]).length = l.length + 1 := by simp
        refine boxOf (allocNew w.drew _) h0 hnew hnl hge (grownCap_le_maxLen w _ _ _ hm63) ?_ ?_
        · rw [← hll] at hge ⊢
          exact rowSize _ _ hge
        · rw [← hll, hnewl]
          exact rowTake _ _ rfl
    · have hi' : i < l.length := by omega
      by_cases hroom : l.length + 1 ≤ cap
      · have hkA : ca.size ≠ 0 := by
          have := (Array.getElem?_eq_some_iff.1 hca).1
          omega
        refine (ins_shift L g 0 l.length cap i vb voff 1 vc (l.map (Value.int .i64)) [Value.int .i64 y] w hi' Nat.one_pos hroom hc63 hne hcl rfl hcs0 (fun j hj => hsome _ (by omega)) hfz hvs h1c h1v ta ety ca.size cur.size (by simp [World.shape?, hwa]) (by simp [World.shape?, hg]) hkA (by omega)).mono ?_
        rintro e w' ⟨rfl, rfl⟩
        have hdl : ((l.map (Value.int .i64)).drop i).length = l.length - i := by rw [List.length_drop, hcl]
        obtain ⟨cs1, q1, q2, q3⟩ := setCells_at g ((l.map (Value.int .i64)).drop i) (0 + (i + 1)) w.drew cur ety (0, 0) hg (by rw [hdl]; omega)
        obtain ⟨cs2, r1, r2, r3⟩ := setCells_at g [Value.int .i64 y] (0 + i) _ cs1 ety (0, 0) q1 (by simp; omega)
        have hk := ((kept_drew g w).trans (kept_setCells g ((l.map (Value.int .i64)).drop i) (0 + (i + 1)) w.drew)).trans (kept_setCells g [Value.int .i64 y] (0 + i) _)
        refine ⟨_, σ, rfl, taken_of (b := g) hh (fun _ => ⟨rfl, hsgg⟩) ⟨Nat.le_of_eq hk.size.symm, hk.os, hk.output, hk.tape, fun k _ h => hk.block k h⟩, ?_, fun k hk => .inl hk⟩
        refine boxOf r1 hng hsgg hnl hroom hcm (by omega) ?_
        rw [hmapN, r3, q3, ← hct, Nat.zero_add, Nat.zero_add]
        exact shift_take cur.toList (.int .i64 y) i l.length hi' (by have := Array.length_toList (xs := cur); omega)
      · refine (Any2.slices_Insert_int_grow L g 0 l.length cap i vb voff 1 vc (l.map (Value.int .i64)) [Value.int .i64 y] w hi' Nat.one_pos hnc (by omega) (by omega) hcl rfl hcs0 hvs h1c h1v).mono ?_
        rintro e w' ⟨rfl, rfl⟩
        have hge := grownCap_ge w (l.length + 1) cap (insRen.t 3)
        have hGm := grownCap_le_maxLen w _ cap (insRen.t 3) hm63
        generalize grownCap w (l.length + 1) cap (insRen.t 3) = G at *
        obtain ⟨ROW, hROW⟩ : ∃ ROW : Array Value, ROW = ((l.map (Value.int .i64)).take i).toArray ++ Builtin.zeroCells (Value.int .i64 0).cells (l.length + 1 - i) ++ Builtin.zeroCells (Value.int .i64 0).cells (G - (l.length + 1)) := ⟨_, rfl⟩
        rw [← hROW]
        have hti : ((l.map (Value.int .i64)).take i).length = i := by rw [List.length_take, hcl]; omega
        have hRs : ROW.size = G := by rw [hROW, Array.size_append, Array.size_append, zeroCells_size _ rfl, zeroCells_size _ rfl, List.size_toArray, hti]; omega
        have hRt : ROW.toList.take i = (l.map (Value.int .i64)).take i := by
          rw [hROW, Array.toList_append, Array.toList_append, List.append_assoc]
          exact List.take_left' hti
        have hdl : ((l.map (Value.int .i64)).drop i).length = l.length - i := by rw [List.length_drop, hcl]
        have hH : (w.alloc (.cells ROW (insRen.t 3))).drew.heap[w.heap.size]? = some (.cells ROW (insRen.t 3) (0, 0)) := allocNew w _
        obtain ⟨cs1, q1, q2, q3⟩ := setCells_at w.heap.size [Value.int .i64 y] i _ ROW _ (0, 0) hH (by simp; omega)
        have k1 := kept_setCells w.heap.size [Value.int .i64 y] i (w.alloc (.cells ROW (insRen.t 3))).drew
        generalize ((w.alloc (.cells ROW (insRen.t 3))).drew.setCells w.heap.size i [Value.int .i64 y]) = W2 at *
        obtain ⟨cs2, r1, r2, r3⟩ := setCells_at w.heap.size ((l.map (Value.int .i64)).drop i) (i + 1) W2.drew cs1 _ (0, 0) q1 (by rw [hdl]; omega)
        have hk := (k1.trans (kept_drew _ W2)).trans (kept_setCells w.heap.size ((l.map (Value.int .i64)).drop i) (i + 1) W2.drew)
        refine ⟨_, σ, rfl, taken_of (b := w.heap.size) hh (fun h => absurd h (Nat.lt_irrefl _)) ⟨?_, hk.os, hk.output, hk.tape, fun k h h' => (hk.block k h').trans (allocOld w _ k h)⟩, ?_, fun k hk => .inr (by cases hk; exact Nat.le_refl _)⟩
        · rw [hk.size]
          show w.heap.size ≤ (w.heap.push _).size
          rw [Array.size_push]; omega
        refine boxOf r1 h0 hnew hnl hge hGm (by omega) ?_
        rw [hmapN, r3, q3, hRt]
        have e1 : ((l.map (Value.int .i64)).take i ++ [Value.int .i64 y] ++ ROW.toList.drop (i + [Value.int .i64 y].length)).take (i + 1) = (l.map (Value.int .i64)).take i ++ [Value.int .i64 y] :=
          List.take_left' (by rw [List.length_append, hti]; rfl)
        rw [e1]
        exact List.take_left' (by rw [List.length_append, List.length_append, hti, hdl, List.length_singleton]; omega)
theorem has_Insert : HasO Try.prog 28 FIns := by
  intro f oc hoc
  simp only [Tbl.addO, Tbl.none] at hoc
  cases hb : Nat.beq f 28 with
  | false => rw [hb] at hoc; cases hoc
  | true =>
  rw [hb] at hoc
  have hf := Nat.eq_of_beq_eq_true hb
  subst hf
  simp only [cond_true, Option.some.injEq] at hoc
  subst hoc
  refine ⟨⟨_, Try.func28, by kernel_rfl, by kernel_rfl⟩, fun l tds hk σ w n0 v vs hh h0 hbox hargs => ?_⟩
  obtain ⟨i, y, rfl, hil, hlen, hr⟩ := insK_spec l tds hk
  obtain ⟨hs, hv⟩ := hargs
  match vs, hs with
  | [va, vb], _ =>
    have ra := (hv 0 _ _ rfl rfl).int
    subst ra
    obtain ⟨ad, cap, rb, hc, hn, hall⟩ := RelV.slice (hv 1 _ _ rfl rfl)
    subst rb
    obtain ⟨a, c, rfl, h2, h3, h4⟩ := hall 0 Nat.one_pos
    have h5 : c = [Value.int .i64 y] := h4
    subst h5
    have key := ins_run l i y w n0 v a cap hil hlen hh h0 hbox (by
      intro j u hj
      have := h3 j u hj
      simpa [Addr.add] using this)
    rw [← hr] at key
    exact key
end Go.Lift.V37
set_option maxRecDepth 100000
namespace Go.Lift.V37
open Go.Lift Go.Proofs
theorem has3 : Hs 3 (FC1 LP (fun _ => true) fun _ => .tv (B true)) := has3k has_Insert
theorem has4 : Hs 4 (FC3 LP (.int .i64) Rg (fun _ _ _ => true) fun _ _ _ => .tv (B true)) := has4k has_Insert
theorem has5 : Hs 5 (FC1 LP (fun _ => true) fun _ => .tv (B true)) := has5k has_Insert
theorem has7 : Hs 7 (FC2 Po (.int .i64) (fun _ _ => true) fun _ _ => .tv (B true)) := has7k has_Insert
end Go.Lift.V37
set_option maxRecDepth 100000
set_option linter.unusedVariables false
set_option linter.unusedSimpArgs false
namespace Go.Lift.V37
open Go.Lift Go.Proofs

noncomputable def M6k : Leaf := .loop (cAt Try.f6 [1, 1, 1, 1, 0, 1, 0, 0]) [.inBlock 0, .code (cAt Try.f6 [1, 1, 1, 1, 1])] ⟨[], []⟩
def S6k (s0 : (List (Ty.D Po))) (s1 : Int) (s5 : Int) (s6 : (List Int)) (s8 : Int) (s9 : Int) : St := ⟨[(0, .tv (TD.mk LP s0)), (1, .tv (I s1)), (5, .tv (I s5)), (6, .tv (TD.mk (.slice (.int .i64)) s6)), (8, .tv (I s8)), (9, .tv (I s9))], []⟩
noncomputable def M6ak : Leaf := .loop (cAt Try.f6 [1, 1, 1, 1, 1, 1, 0, 1, 0, 0]) [.inBlock 2, .code (cAt Try.f6 [1, 1, 1, 1, 1, 1, 1])] ⟨[], []⟩
def S6ak (s0 : (List (Ty.D Po))) (s1 : Int) (s5 : Int) (s8 : Int) (s11 : Int) (s12 : Int) : St := ⟨[(0, .tv (TD.mk LP s0)), (1, .tv (I s1)), (5, .tv (I s5)), (8, .tv (I s8)), (11, .tv (I s11)), (12, .tv (I s12))], []⟩
noncomputable def c6_22k (k8 : Bool) (r8 : Bool) (k9 : (List (Ty.D Po)) → Bool) (r9_0 : (List (Ty.D Po)) → Int) (r9_1 : (List (Ty.D Po)) → Int) (k15 : (List (Ty.D Po)) → (Ty.D Rg) → Bool) (r15 : (List (Ty.D Po)) → (Ty.D Rg) → Int) (s0 : (List (Ty.D Po))) (s1 : Int) (s5 : Int) (s8 : Int) (s11 : Int) : Leaf :=
  bif (s5 != s11) then
    .ret (.tv (B false))
  else
    bif (s8 != 0) then
      bif k8 then
        .ret (.tv (B r8))
      else
        .fail
    else
      bif (bif (decide (s1 ≥ 0)) then (decide (s1 ≤ ((List.length s0 : Nat) : Int))) else false) then
        bif (decide (0 ≤ 0) && decide (0 ≤ s1) && decide (s1 ≤ ((List.length s0 : Nat) : Int))) then
          bif (k9 (tail s0 0 (Int.toNat s1))) then
            bif (bif ((r9_0 (tail s0 0 (Int.toNat s1))) != 0) then true else ((r9_1 (tail s0 0 (Int.toNat s1))) != 0)) then
              .ret (.tv (B false))
            else
              bif (k15 s0 (0, 109573, ())) then
                bif (k8 || (!((r15 s0 (0, 109573, ())) == s5))) then
                  .ret (.tv (B (bif ((r15 s0 (0, 109573, ())) == s5) then r8 else false)))
                else
                  .fail
              else
                .fail
          else
            .fail
        else
          .fail
      else
        bif (k15 s0 (0, 109573, ())) then
          bif (k8 || (!((r15 s0 (0, 109573, ())) == s5))) then
            .ret (.tv (B (bif ((r15 s0 (0, 109573, ())) == s5) then r8 else false)))
          else
            .fail
        else
          .fail
theorem i6k (G : Tbl) (k8 : Bool) (r8 : Bool) (k9 : (List (Ty.D Po)) → Bool) (r9_0 : (List (Ty.D Po)) → Int) (r9_1 : (List (Ty.D Po)) → Int) (k11 : (List (Ty.D Po)) → Int → Bool) (r11 : (List (Ty.D Po)) → Int → Int) (k15 : (List (Ty.D Po)) → (Ty.D Rg) → Bool) (r15 : (List (Ty.D Po)) → (Ty.D Rg) → Int) (k18 : (List (Ty.D Po)) → Bool) (r18 : (List (Ty.D Po)) → (List Int)) (s0 : (List (Ty.D Po))) (s1 : Int) (s5 : Int) (s6 : (List Int)) (s8 : Int) (s9 : Int) :
    runL (((((G.add 8 (FC0  k8 (.tv (B r8)))).add 9 (FC1 LP k9 (fun x0 => .tup [.tv (I (r9_0 x0)), .tv (I (r9_1 x0))]))).add 11 (FC2 LP (.int .i64) k11 (fun x0 x1 => .tv (I (r11 x0 x1))))).add 15 (FC2 LP Rg k15 (fun x0 x1 => .tv (I (r15 x0 x1))))).add 18 (FC1 LP k18 (fun x0 => .tv (TD.mk (.slice (.int .i64)) (r18 x0))))) [(386, [0, 1, 5, 6, 8, 9]), (898, [0, 1, 5, 8, 11, 12])] Try.f6 1000 M6k.round (S6k s0 s1 s5 s6 s8 s9) =
  bif (decide (s9 < ((List.length s6 : Nat) : Int))) then
    bif (inB s9 (List.length s6)) then
      bif (k11 s0 (List.getD s6 (Int.toNat s9) 0)) then
        bif (bif (s8 == 0) then (decide ((r11 s0 (List.getD s6 (Int.toNat s9) 0)) < 0)) else false) then
          .ret (.tv (B false))
        else
          .loop M6k.body M6k.kont (S6k s0 s1 (w (s5 + (r11 s0 (List.getD s6 (Int.toNat s9) 0)))) s6 s8 (w (s9 + 1)))
      else
        .fail
    else
      .fail
  else
    .loop M6ak.body M6ak.kont (S6ak s0 s1 s5 s8 0 0) := by kernel_rfl
theorem i6ak (G : Tbl) (k8 : Bool) (r8 : Bool) (k9 : (List (Ty.D Po)) → Bool) (r9_0 : (List (Ty.D Po)) → Int) (r9_1 : (List (Ty.D Po)) → Int) (k11 : (List (Ty.D Po)) → Int → Bool) (r11 : (List (Ty.D Po)) → Int → Int) (k15 : (List (Ty.D Po)) → (Ty.D Rg) → Bool) (r15 : (List (Ty.D Po)) → (Ty.D Rg) → Int) (k18 : (List (Ty.D Po)) → Bool) (r18 : (List (Ty.D Po)) → (List Int)) (s0 : (List (Ty.D Po))) (s1 : Int) (s5 : Int) (s8 : Int) (s11 : Int) (s12 : Int) :
    runL (((((G.add 8 (FC0  k8 (.tv (B r8)))).add 9 (FC1 LP k9 (fun x0 => .tup [.tv (I (r9_0 x0)), .tv (I (r9_1 x0))]))).add 11 (FC2 LP (.int .i64) k11 (fun x0 x1 => .tv (I (r11 x0 x1))))).add 15 (FC2 LP Rg k15 (fun x0 x1 => .tv (I (r15 x0 x1))))).add 18 (FC1 LP k18 (fun x0 => .tv (TD.mk (.slice (.int .i64)) (r18 x0))))) [(386, [0, 1, 5, 6, 8, 9]), (898, [0, 1, 5, 8, 11, 12])] Try.f6 1000 M6ak.round (S6ak s0 s1 s5 s8 s11 s12) =
  bif (decide (s12 < ((List.length s0 : Nat) : Int))) then
    bif (inB s12 (List.length s0)) then
      bif ((((List.getD s0 (Int.toNat s12) (0, 0, 0, 0, ()))).2.2.1) == 1) then
        bif (inB s12 (List.length s0)) then
          .loop M6ak.body M6ak.kont (S6ak s0 s1 s5 s8 (w (s11 + (((List.getD s0 (Int.toNat s12) (0, 0, 0, 0, ()))).2.2.2.1))) (w (s12 + 1)))
        else
          .fail
      else
        bif ((((List.getD s0 (Int.toNat s12) (0, 0, 0, 0, ()))).2.2.1) == 2) then
          bif ((((List.getD s0 (Int.toNat s12) (0, 0, 0, 0, ()))).2.2.1) == 2) then
            bif (inB s12 (List.length s0)) then
              .loop M6ak.body M6ak.kont (S6ak s0 s1 s5 s8 (w (s11 - (((List.getD s0 (Int.toNat s12) (0, 0, 0, 0, ()))).2.2.2.1))) (w (s12 + 1)))
            else
              .fail
          else
            .loop M6ak.body M6ak.kont (S6ak s0 s1 s5 s8 s11 (w (s12 + 1)))
        else
          bif ((((List.getD s0 (Int.toNat s12) (0, 0, 0, 0, ()))).2.2.1) == 3) then
            bif (inB s12 (List.length s0)) then
              .loop M6ak.body M6ak.kont (S6ak s0 s1 s5 s8 (w (s11 - (((List.getD s0 (Int.toNat s12) (0, 0, 0, 0, ()))).2.2.2.1))) (w (s12 + 1)))
            else
              .fail
          else
            .loop M6ak.body M6ak.kont (S6ak s0 s1 s5 s8 s11 (w (s12 + 1)))
    else
      .fail
  else
    c6_22k k8 r8 k9 r9_0 r9_1 k15 r15 s0 s1 s5 s8 s11 := by kernel_rfl
theorem e6k (G : Tbl) (k8 : Bool) (r8 : Bool) (k9 : (List (Ty.D Po)) → Bool) (r9_0 : (List (Ty.D Po)) → Int) (r9_1 : (List (Ty.D Po)) → Int) (k11 : (List (Ty.D Po)) → Int → Bool) (r11 : (List (Ty.D Po)) → Int → Int) (k15 : (List (Ty.D Po)) → (Ty.D Rg) → Bool) (r15 : (List (Ty.D Po)) → (Ty.D Rg) → Int) (k18 : (List (Ty.D Po)) → Bool) (r18 : (List (Ty.D Po)) → (List Int)) (a0 : (List (Ty.D Po))) (a1 : Int) :
    runL (((((G.add 8 (FC0  k8 (.tv (B r8)))).add 9 (FC1 LP k9 (fun x0 => .tup [.tv (I (r9_0 x0)), .tv (I (r9_1 x0))]))).add 11 (FC2 LP (.int .i64) k11 (fun x0 x1 => .tv (I (r11 x0 x1))))).add 15 (FC2 LP Rg k15 (fun x0 x1 => .tv (I (r15 x0 x1))))).add 18 (FC1 LP k18 (fun x0 => .tv (TD.mk (.slice (.int .i64)) (r18 x0))))) [(386, [0, 1, 5, 6, 8, 9]), (898, [0, 1, 5, 8, 11, 12])] Try.f6 1000 (bod Try.f6) (entry [(TD.mk LP a0), (I a1)]) =
  bif (decide (((List.length a0 : Nat) : Int) > 200)) then
    bif k8 then
      .ret (.tv (B r8))
    else
      .fail
  else
    bif (k18 a0) then
      bif (k9 a0) then
        .loop M6k.body M6k.kont (S6k a0 a1 0 (r18 a0) (r9_1 a0) 0)
      else
        .fail
    else
      .fail := by kernel_rfl

end Go.Lift.V37
set_option maxRecDepth 100000
set_option linter.unusedVariables false
set_option linter.unusedSimpArgs false
namespace Go.Lift.V37
open Go.Lift Go.Proofs

/-! sums over months add up -/
theorem w_eq (n : Int) : w n = (n + 9223372036854775808) % 18446744073709551616 - 9223372036854775808 := by
  show IntKind.wrap .i64 n = _
  unfold IntKind.wrap
  simp [IntKind.signed, IntKind.bits]
  split <;> omega
theorem w_zero : w 0 = 0 := wrap_id (by omega) (by omega)
theorem w_w (a : Int) : w (w a) = w a := by rw [w_eq, w_eq]; omega
theorem w_add (a b : Int) : w (w a + b) = w (a + b) := by rw [w_eq, w_eq a, w_eq]; omega
theorem w_add' (a b : Int) : w (a + w b) = w (a + b) := by rw [w_eq, w_eq b, w_eq]; omega
theorem w_sub' (a b : Int) : w (a + w (0 - b)) = w (a - b) := by rw [w_eq, w_eq (0 - b), w_eq]; omega
noncomputable def zsum (l : List Po.D) : Int := (l.map sgn).sum
theorem fold_w : ∀ (l : List Po.D) (a : Int), w a = a → l.foldl (fun s x => w (s + sgn x)) a = w (a + zsum l)
  | [], a, h => by simp [zsum, h]
  | x :: r, a, h => by
    rw [List.foldl_cons, fold_w r _ (w_w _), w_add]
    unfold zsum
    rw [List.map_cons, List.sum_cons, Int.add_assoc]
theorem sumS_eq (l : List Po.D) : sumS l = w (zsum l) := by
  unfold sumS
  rw [fold_w l 0 w_zero, Int.zero_add]
theorem rcv_eq (l : List Po.D) (m : Int) : rcv l m = w (zsum (l.filter (inM m))) := sumS_eq _
theorem w_sums (f : Int → Int) : ∀ (ms : List Int) (a : Int), w (a + (ms.map (fun m => w (f m))).sum) = w (a + (ms.map f).sum)
  | [], a => rfl
  | m :: r, a => by
    rw [List.map_cons, List.sum_cons, List.map_cons, List.sum_cons, ← Int.add_assoc, ← Int.add_assoc, w_sums f r, w_eq, w_eq (f m), w_eq]
    omega
theorem sum_add (f g : Int → Int) : ∀ ms : List Int, (ms.map (fun m => f m + g m)).sum = (ms.map f).sum + (ms.map g).sum
  | [] => rfl
  | m :: r => by
    simp only [List.map_cons, List.sum_cons]
    rw [sum_add f g r]; omega
theorem sum_none (c a : Int) : ∀ ms : List Int, a ∉ ms → (ms.map (fun m => bif a == m then c else 0)).sum = 0
  | [], _ => rfl
  | m :: r, h => by
    simp only [List.map_cons, List.sum_cons]
    rw [sum_none c a r (fun h' => h (List.mem_cons_of_mem _ h'))]
    have hne : (a == m) = false := by
      simp only [beq_eq_false_iff_ne, ne_eq]
      intro e; exact h (by rw [e]; simp)
    rw [hne]; rfl
theorem sum_one (c a : Int) : ∀ ms : List Int, sortedB ms = true → a ∈ ms → (ms.map (fun m => bif a == m then c else 0)).sum = c
  | [], _, h => by cases h
  | m :: r, hs, h => by
    simp only [sortedB, Bool.and_eq_true, List.all_eq_true, decide_eq_true_eq] at hs
    simp only [List.map_cons, List.sum_cons]
    by_cases e : a = m
    · subst e
      rw [sum_none c a r (fun h' => by have := hs.1 a h'; omega)]
      simp
    · have hne : (a == m) = false := by simpa using e
      rw [hne, sum_one c a r hs.2 ((List.mem_cons.1 h).resolve_left e)]
      simp
theorem zsum_cons (x : Po.D) (r : List Po.D) (m : Int) : zsum ((x :: r).filter (inM m)) = (bif x.2.1 == m then sgn x else 0) + zsum (r.filter (inM m)) := by
  rw [List.filter_cons]
  show zsum (if (x.2.1 == m) = true then _ else _) = _
  cases h : (x.2.1 == m) with
  | true => simp [zsum]
  | false => simp
theorem sum_zero : ∀ ms : List Int, (ms.map (fun _ => (0 : Int))).sum = 0
  | [] => rfl
  | m :: r => by simp only [List.map_cons, List.sum_cons]; rw [sum_zero r]; rfl
theorem sum_months (ms : List Int) (hs : sortedB ms = true) : ∀ l : List Po.D, (∀ x ∈ l, x.2.1 ∈ ms) → (ms.map (fun m => zsum (l.filter (inM m)))).sum = zsum l
  | [], _ => sum_zero ms
  | x :: r, h => by
    have h1 : (fun m => zsum ((x :: r).filter (inM m))) = fun m => (bif x.2.1 == m then sgn x else 0) + zsum (r.filter (inM m)) := funext fun m => zsum_cons x r m
    rw [h1, sum_add, sum_one _ _ _ hs (h x (by simp)), sum_months ms hs r fun y hy => h y (List.mem_cons_of_mem _ hy)]
    unfold zsum; simp
theorem insG_keep (l : List Int) (m y : Int) (h : y ∈ l) : y ∈ insG false l m := by
  rw [insG_eq]
  cases found l m with
  | true => exact h
  | false =>
    rw [cond_false]
    rw [← List.take_append_drop (posG l m) l] at h
    rcases List.mem_append.1 h with h | h
    · exact List.mem_append_left _ (List.mem_append_left _ h)
    · exact List.mem_append_right _ h
theorem insG_has (l : List Int) (m : Int) : m ∈ insG false l m := by
  rw [insG_eq]
  cases h : found l m with
  | false => rw [cond_false]; exact List.mem_append_left _ (by simp)
  | true =>
    rw [cond_true]
    unfold found at h
    cases h1 : decide (posG l m < l.length) with
    | false => rw [h1] at h; cases h
    | true =>
      rw [h1, cond_true] at h
      have h2 := of_decide_eq_true h1
      have h3 : l.getD (posG l m) 0 ∈ l := by simp [List.getD, h2]
      rw [beq_iff_eq] at h
      rwa [h] at h3
theorem monG_keep : ∀ (l : List Po.D) (acc : List Int) (y : Int), y ∈ acc → y ∈ monG acc l
  | [], acc, y, h => h
  | x :: r, acc, y, h => monG_keep r _ y (insG_keep _ _ _ h)
theorem monG_has : ∀ (l : List Po.D) (acc : List Int) (x : Po.D), x ∈ l → x.2.1 ∈ monG acc l
  | [], _, _, h => by cases h
  | z :: r, acc, x, h => by
    rcases List.mem_cons.1 h with e | e
    · subst e
      exact monG_keep r _ _ (insG_has _ _)
    · exact monG_has r _ x e
theorem monG_sorted : ∀ (l : List Po.D) (acc : List Int), sortedB acc = true → sortedB (monG acc l) = true
  | [], _, h => h
  | x :: r, acc, h => monG_sorted r _ (insG_sorted _ _ h)
theorem conserve (l : List Po.D) : w (((monG [] l).map (rcv l)).sum) = sumS l := by
  have h1 : (monG [] l).map (rcv l) = (monG [] l).map (fun m => w (zsum (l.filter (inM m)))) := by
    congr 1; exact funext fun m => rcv_eq l m
  have h2 := w_sums (fun m => zsum (l.filter (inM m))) (monG [] l) 0
  rw [Int.zero_add, Int.zero_add] at h2
  rw [h1, h2, sum_months _ (monG_sorted l [] rfl) l (fun x hx => monG_has l [] x hx), sumS_eq]

/-! what a valid ledger gives -/
def okAt (l : List Po.D) (i : Nat) : Prop := bad3 (l.getD i zP) = false ∧ badK (l.getD i zP) = false ∧ early l i (l.getD i zP) = false ∧ 0 ≤ rcv (l.take (i + 1)) (l.getD i zP).2.1
theorem valR_of : ∀ (l : List Po.D) (k i : Nat), (valR l k i).2 = 0 → ∀ j, i ≤ j → j < i + k → okAt l j
  | l, 0, i, h, j, h1, h2 => by omega
  | l, k + 1, i, h, j, h1, h2 => by
    unfold valR at h
    cases e1 : bad3 (l.getD i zP) with
    | true => rw [e1, cond_true] at h; exact absurd (show (3 : Int) = 0 from h) (by decide)
    | false =>
    rw [e1, cond_false] at h
    cases e2 : badK (l.getD i zP) with
    | true => rw [e2, cond_true] at h; exact absurd (show (1 : Int) = 0 from h) (by decide)
    | false =>
    rw [e2, cond_false] at h
    cases e3 : early l i (l.getD i zP) with
    | true => rw [e3, cond_true] at h; exact absurd (show (9 : Int) = 0 from h) (by decide)
    | false =>
    rw [e3, cond_false] at h
    cases e4 : decide (rcv (l.take (i + 1)) (l.getD i zP).2.1 < 0) with
    | true => rw [e4, cond_true] at h; exact absurd (show (13 : Int) = 0 from h) (by decide)
    | false =>
    rw [e4, cond_false] at h
    by_cases hj : j = i
    · subst hj
      have := of_decide_eq_false e4
      exact ⟨e1, e2, e3, by omega⟩
    · exact valR_of l k (i + 1) h j (by omega) (by omega)
theorem valR_ok : ∀ (l : List Po.D) (k i : Nat), (∀ j, i ≤ j → j < i + k → okAt l j) → valR l k i = (0, 0)
  | l, 0, i, h => rfl
  | l, k + 1, i, h => by
    obtain ⟨e1, e2, e3, e4⟩ := h i (Nat.le_refl _) (by omega)
    unfold valR
    rw [e1, e2, e3, decide_eq_false (by omega : ¬ rcv (l.take (i + 1)) (l.getD i zP).2.1 < 0)]
    simp only [cond_false]
    exact valR_ok l k (i + 1) fun j h1 h2 => h j (by omega) (by omega)
theorem valV_len {l : List Po.D} (h : l.length ≤ 4096) : valV l = valR l l.length 0 := by
  unfold valV
  rw [decide_eq_false (by omega), cond_false]
theorem valid_at {l : List Po.D} (hl : l.length ≤ 4096) (h : (valV l).2 = 0) (j : Nat) (hj : j < l.length) : okAt l j := by
  rw [valV_len hl] at h
  exact valR_of l _ _ h j (Nat.zero_le _) (by omega)
theorem getD_take (l : List Po.D) (n j : Nat) (h : j < n) : (l.take n).getD j zP = l.getD j zP := by
  simp [List.getD, List.getElem?_take, h]
theorem valid_take {l : List Po.D} (hl : l.length ≤ 4096) (h : (valV l).2 = 0) (n : Nat) (hn : n ≤ l.length) : valV (l.take n) = (0, 0) := by
  have h1 : (l.take n).length = n := by rw [List.length_take]; omega
  rw [valV_len (by omega)]
  refine valR_ok _ _ _ fun j _ hj => ?_
  rw [h1, Nat.zero_add] at hj
  obtain ⟨e1, e2, e3, e4⟩ := valid_at hl h j (by omega)
  have hg := getD_take l n j hj
  refine ⟨by rw [hg]; exact e1, by rw [hg]; exact e2, ?_, ?_⟩
  · rw [hg]
    unfold early at e3 ⊢
    rw [getD_take l n (j - 1) (by omega)]
    exact e3
  · rw [hg, List.take_take, Nat.min_eq_left (by omega)]
    exact e4
theorem valid_rcv {l : List Po.D} (hl : l.length ≤ 4096) (h : (valV l).2 = 0) (m : Int) : ∀ n, n ≤ l.length → 0 ≤ rcv (l.take n) m
  | 0, _ => by
    show 0 ≤ rcv [] m
    unfold rcv sumS
    exact Int.le_refl _
  | n + 1, hn => by
    obtain ⟨e1, e2, e3, e4⟩ := valid_at hl h n (by omega)
    by_cases hm : (l.getD n zP).2.1 = m
    · rw [hm] at e4; exact e4
    · have h2 := valid_rcv hl h m n (by omega)
      have h3 : (l.take (n + 1)).filter (inM m) = (l.take n).filter (inM m) := by
        have hg : l.getD n zP = l[n]'(by omega) := by simp [List.getD, List.getElem?_eq_getElem (show n < l.length by omega)]
        rw [List.take_succ_eq_append_getElem (by omega), List.filter_append, ← hg]
        have : inM m (l.getD n zP) = false := by simpa [inM] using hm
        rw [show [l.getD n zP].filter (inM m) = [] from by rw [List.filter_cons, this]; rfl, List.append_nil]
      unfold rcv at h2 ⊢
      rw [h3]; exact h2
theorem valid_nonneg {l : List Po.D} (hl : l.length ≤ 4096) (h : (valV l).2 = 0) (m : Int) : 0 ≤ rcv l m := by
  have := valid_rcv hl h m l.length (Nat.le_refl _)
  rwa [List.take_length] at this
theorem valid_cash {l : List Po.D} (hl : l.length ≤ 4096) (h : (valV l).2 = 0) : csh l (0, 109573, ()) = sumS l := by
  unfold csh
  have hb : badR (0, 109573, ()) = false := by decide
  rw [hb, cond_false]
  congr 1
  rw [List.filter_eq_self]
  intro x hx
  obtain ⟨j, hj, rfl⟩ := List.getElem_of_mem hx
  obtain ⟨e1, _⟩ := valid_at hl h j hj
  have hg : l.getD j zP = l[j] := by simp [List.getD, List.getElem?_eq_getElem hj]
  rw [hg] at e1
  unfold bad3 at e1
  simp only [Bool.or_eq_false_iff, decide_eq_false_iff_not] at e1
  obtain ⟨⟨⟨⟨⟨f1, f2⟩, _⟩, _⟩, _⟩, _⟩ := e1
  unfold cashM
  simp only [Bool.and_eq_true, decide_eq_true_eq]
  exact ⟨Int.not_lt.1 f1, Int.lt_of_le_of_lt (Int.not_lt.1 f2) (by decide)⟩
end Go.Lift.V37
set_option maxRecDepth 100000
set_option linter.unusedVariables false
set_option linter.unusedSimpArgs false
namespace Go.Lift.V37
open Go.Lift Go.Proofs

noncomputable def G6k : Tbl := ((((Tbl.none.add 8 FAwake).add 9 FVal).add 11 FRcv).add 15 FCash).add 18 FMon
noncomputable abbrev fin6 (l : List Po.D) (n s e a : Int) : Leaf := c6_22k true true (fun _ => true) (fun l => (valV l).1) (fun l => (valV l).2) (fun l _ => smOK l) csh l n s e a
abbrev Goes6 (L : Leaf) (s : SV) : Prop := Goes G6k T Try.f6.ntmps Try.f6.results.toList L s
theorem loop6ak (l : List Po.D) (hl : l.length ≤ 200) (n s e : Int) (r : SV) : ∀ (k i : Nat) (a : Int), i + k = l.length → w a = a → Goes6 (fin6 l n s e (w (a + zsum (l.drop i)))) r →
    Goes6 (.loop M6ak.body M6ak.kont (S6ak l n s e a i)) r
  | 0, i, a, h, ha, hg => by
    refine Goes.lp' (i6ak Tbl.none true true (fun _ => true) (fun l => (valV l).1) (fun l => (valV l).2) (fun l _ => smOK l) rcv (fun l _ => smOK l) csh kMon (monG []) l n s e a i) ?_
    rw [decide_eq_false (show ¬ (i : Int) < ((l.length : Nat) : Int) by omega), cond_false]
    rw [drop_end (by omega)] at hg
    have e0 : w (a + zsum []) = a := by show w (a + 0) = a; rw [Int.add_zero, ha]
    rw [e0] at hg
    exact hg
  | k + 1, i, a, h, ha, hg => by
    refine Goes.lp' (i6ak Tbl.none true true (fun _ => true) (fun l => (valV l).1) (fun l => (valV l).2) (fun l _ => smOK l) rcv (fun l _ => smOK l) csh kMon (monG []) l n s e a i) ?_
    have hi : (i : Int) < ((l.length : Nat) : Int) := by omega
    have hlb : l.length ≤ lenBound := Nat.le_trans hl (by decide)
    rw [decide_eq_true hi, cond_true, toNat_lt (by omega) hi, cond_true, w_step (by omega) hi hlb, Int.toNat_natCast, show ((i : Int) + 1) = ((i + 1 : Nat) : Int) by omega]
    rw [drop_cons l zP i (by omega)] at hg
    have hz : zsum (l.getD i zP :: l.drop (i + 1)) = sgn (l.getD i zP) + zsum (l.drop (i + 1)) := by unfold zsum; simp
    rw [hz, ← Int.add_assoc] at hg
    have next : ∀ b : Int, w b = b → w (b + zsum (l.drop (i + 1))) = w (a + sgn (l.getD i zP) + zsum (l.drop (i + 1))) → Goes6 (.loop M6ak.body M6ak.kont (S6ak l n s e b ((i + 1 : Nat) : Int))) r := fun b hb hs =>
      loop6ak l hl n s e r k (i + 1) b (by omega) hb (by rw [hs]; exact hg)
    change Goes6 (bif ((l.getD i zP).2.2.1 == 1) then _ else _) r
    unfold sgn at next
    generalize (l.getD i zP).2.2.1 = kd at *
    generalize (l.getD i zP).2.2.2.1 = c at *
    cases h1 : (kd == 1) with
    | true =>
      rw [h1, cond_true] at next
      exact next _ (w_w _) (w_add _ _)
    | false =>
      rw [h1, cond_false] at next
      cases h2 : (kd == 2) with
      | true =>
        rw [h2, cond_true] at next
        exact next _ (w_w _) (by rw [w_add, ← w_add (a + w (0 - c)), w_sub', w_add])
      | false =>
        rw [h2, cond_false] at next
        cases h3 : (kd == 3) with
        | true =>
          rw [h3, cond_true] at next
          exact next _ (w_w _) (by rw [w_add, ← w_add (a + w (0 - c)), w_sub', w_add])
        | false =>
          rw [h3, cond_false] at next
          exact next a ha (by rw [Int.add_zero])
theorem loop6k (l : List Po.D) (hl : l.length ≤ 200) (n e : Int) (he : e = 0 → ∀ m, 0 ≤ rcv l m) (ms : List Int) (hm : ms.length ≤ lenBound) (r : SV) : ∀ (k i : Nat) (s : Int), i + k = ms.length → w s = s →
    Goes6 (.loop M6ak.body M6ak.kont (S6ak l n (w (s + ((ms.drop i).map (rcv l)).sum)) e 0 0)) r →
    Goes6 (.loop M6k.body M6k.kont (S6k l n s ms e i)) r
  | 0, i, s, h, hs, hg => by
    refine Goes.lp' (i6k Tbl.none true true (fun _ => true) (fun l => (valV l).1) (fun l => (valV l).2) (fun l _ => smOK l) rcv (fun l _ => smOK l) csh kMon (monG []) l n s ms e i) ?_
    rw [decide_eq_false (show ¬ (i : Int) < ((ms.length : Nat) : Int) by omega), cond_false]
    rw [drop_end (by omega)] at hg
    have e0 : w (s + (([] : List Int).map (rcv l)).sum) = s := by show w (s + 0) = s; rw [Int.add_zero, hs]
    rw [e0] at hg
    exact hg
  | k + 1, i, s, h, hs, hg => by
    refine Goes.lp' (i6k Tbl.none true true (fun _ => true) (fun l => (valV l).1) (fun l => (valV l).2) (fun l _ => smOK l) rcv (fun l _ => smOK l) csh kMon (monG []) l n s ms e i) ?_
    have hi : (i : Int) < ((ms.length : Nat) : Int) := by omega
    have hsm : smOK l = true := decide_eq_true (Nat.le_trans hl (by decide))
    rw [decide_eq_true hi, cond_true, toNat_lt (by omega) hi, cond_true, w_step (by omega) hi hm, Int.toNat_natCast, show ((i : Int) + 1) = ((i + 1 : Nat) : Int) by omega, hsm, cond_true]
    rw [drop_cons ms 0 i (by omega), List.map_cons, List.sum_cons, ← Int.add_assoc] at hg
    have hb : (bif (e == 0) then decide (rcv l (ms.getD i 0) < 0) else false) = false := by
      cases h0 : (e == 0) with
      | false => rfl
      | true =>
        have := he (beq_iff_eq.1 h0) (ms.getD i 0)
        exact decide_eq_false (by omega)
    rw [hb, cond_false]
    exact loop6k l hl n e he ms hm r k (i + 1) _ (by omega) (w_w _) (by rw [w_add]; exact hg)
theorem fin6_ok (l : List Po.D) (hl : l.length ≤ 200) (n : Int) : Goes6 (fin6 l n (sumS l) (valV l).2 (sumS l)) (.tv (B true)) := by
  have hl4 : l.length ≤ 4096 := by omega
  have hsm : smOK l = true := decide_eq_true (Nat.le_trans hl (by decide))
  unfold fin6 c6_22k
  rw [show (sumS l != sumS l) = false by simp, cond_false]
  cases h0 : ((valV l).2 != 0) with
  | true => exact .ret _
  | false =>
    have hv : (valV l).2 = 0 := by simpa using h0
    dsimp only
    rw [cond_false, hsm, valid_cash hl4 hv, show (sumS l == sumS l) = true by simp]
    cases h1 : (bif decide (n ≥ 0) then decide (n ≤ ((List.length l : Nat) : Int)) else false) with
    | false => exact .ret _
    | true =>
      rw [band_bif, Bool.and_eq_true, decide_eq_true_eq, decide_eq_true_eq] at h1
      obtain ⟨h2, h3⟩ := h1
      obtain ⟨m, rfl⟩ : ∃ m : Nat, n = (m : Int) := ⟨n.toNat, by omega⟩
      have ht : tail l 0 (Int.toNat (m : Int)) = l.take m := by unfold tail; rw [Int.toNat_natCast, List.drop_zero]
      rw [ht, valid_take hl4 hv m (by omega), decide_eq_true h2, decide_eq_true h3]
      exact .ret _
theorem has6 : Hs 6 (FC2 LP (.int .i64) (fun _ _ => true) fun _ _ => .tv (B true)) := by
  refine Has.fc2 (fn := Try.f6) (((((env0.more (has_awake has_Insert)).more has9k).more (show Hs _ FRcv from has_Received)).more has_Cash).more (has_Mon has_Insert)) (by kernel_rfl) (by kernel_rfl) (by kernel_rfl) (by kernel_rfl) fun l (n : Int) _ => .run1 (e6k Tbl.none true true (fun _ => true) (fun l => (valV l).1) (fun l => (valV l).2) (fun l _ => smOK l) rcv (fun l _ => smOK l) csh kMon (monG []) l n) ?_
  refine .bif (fun _ => .ret _) fun h => ?_
  have hl := small200 h
  have hk : kMon l = true := decide_eq_true (Nat.le_trans (Nat.add_le_add_right hl 3) (by decide))
  have hm : ∀ (r : List Po.D) (acc : List Int), (monG acc r).length ≤ acc.length + r.length := by
    intro r
    induction r with
    | nil => intro acc; exact Nat.le_refl _
    | cons x r ih =>
      intro acc
      have h1 := ih (insG false acc x.2.1)
      have h2 := insG_len false acc x.2.1
      simp only [cond_false] at h2
      show (monG (insG false acc x.2.1) r).length ≤ _
      simp only [List.length_cons]; omega
  have hml : (monG [] l).length ≤ lenBound := Nat.le_trans (hm l []) (Nat.le_trans (show ([] : List Int).length + l.length ≤ 200 by simpa using hl) (by decide))
  rw [hk, cond_true, cond_true]
  refine loop6k l hl n _ (fun he m => valid_nonneg (by omega) he m) (monG [] l) hml _ (monG [] l).length 0 0 (by omega) w_zero ?_
  rw [List.drop_zero, Int.zero_add, conserve]
  refine loop6ak l hl n _ _ _ l.length 0 0 (by omega) w_zero ?_
  rw [List.drop_zero, Int.zero_add, ← sumS_eq]
  exact fin6_ok l hl n
end Go.Lift.V37
