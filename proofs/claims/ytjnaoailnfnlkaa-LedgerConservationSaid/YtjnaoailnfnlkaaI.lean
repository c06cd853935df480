/- A part of the proof that the law returns true for every input: no condition. -/
import Derived.Test.YtjnaoailnfnlkaaB
set_option maxRecDepth 100000
set_option linter.unusedVariables false
set_option linter.unusedSimpArgs false
namespace Go.Lift.V37
open Go.Lift Go.Proofs

/-! the iterator of postings -/
abbrev Po : Ty := .cons (.int .i64) (.cons (.int .i64) (.cons (.int .i64) (.cons (.int .i64) .nil)))
abbrev KF : Ty := .fn (.cons Po .nil) .bool
noncomputable abbrev itF : Func := Try.f29
noncomputable def itL : Code := cAt itF [1, 0, 0]
noncomputable def itR : Code := cAt itF [1, 0, 0, 1, 1, 0, 0, 1, 0]
noncomputable def itC : Code := cAt itF [1, 0, 0, 1, 1, 0, 0, 1, 1]
noncomputable def itE : Code := cAt itF [1, 0, 0, 1, 1, 1]
noncomputable def itOps : Array Oper := match itR with | .region _ ops _ => ops | _ => #[]
noncomputable def itId : Nat := match itR with | .region id _ _ => id | _ => 0
theorem itR_eq : itR = .region itId itOps false := by kernel_rfl
noncomputable def itO (i : Nat) : Oper := match itOps.toList[i]? with | some o => o | none => default
abbrev tl (l : List Po.D) : SV := .tv ⟨.slice Po, l⟩
abbrev tk (φ : (Ty.cons Po .nil).D → Bool × Bool) : SV := .tv ⟨.ptr KF, (true, φ)⟩
noncomputable def it0 (l : List Po.D) (φ : (Ty.cons Po .nil).D → Bool × Bool) : St := ⟨[(1, .tv ⟨.ptr (.slice Po), (true, l)⟩), (2, tk φ)], []⟩
noncomputable def itS (l : List Po.D) (φ : (Ty.cons Po .nil).D → Bool × Bool) (i : Int) : St := ⟨[(2, tk φ), (6, tl l), (7, .tv ⟨.int .i64, (l.length : Int)⟩), (8, .tv ⟨.int .i64, i⟩)], []⟩
noncomputable abbrev runI (ps ks : List Nat) (n : Nat) (todo : List Item) (st : St) : Leaf := runP (some ps) Tbl.none T itF.ntmps [] (fun _ => ks) n todo st

noncomputable def itB : Code := cAt itF [1]
noncomputable def itR0 : Code := cAt itF [0]
noncomputable def itOps0 : Array Oper := match itR0 with | .region _ ops _ => ops | _ => #[]
noncomputable def itId0 : Nat := match itR0 with | .region id _ _ => id | _ => 0
theorem itR0_eq : itR0 = .region itId0 itOps0 false := by kernel_rfl
theorem itBody : itF.body = some (.seq itR0 itB) := by kernel_rfl
noncomputable def itO0 (i : Nat) : Oper := match itOps0.toList[i]? with | some o => o | none => default
theorem it_start (l : List Po.D) (φ : (Ty.cons Po .nil).D → Bool × Bool) : runI [0, 2, 6, 7, 8, 999999] [2, 6, 7, 8] 100 [.code itB] (itS l φ 0) = .loop itL [.inBlock 0] (itS l φ 0) := by kernel_rfl

noncomputable def it3 (l : List Po.D) (φ : (Ty.cons Po .nil).D → Bool × Bool) (i : Int) : St := ⟨[(2, tk φ), (5, .ptr 5 none []), (6, tl l), (7, .tv ⟨.int .i64, (l.length : Int)⟩), (8, .tv ⟨.int .i64, i⟩)], [(5, .var ⟨Po, l.getD i.toNat Po.zero⟩)]⟩
theorem it_round (l : List Po.D) (φ : (Ty.cons Po .nil).D → Bool × Bool) (i : Int) : runI [0, 2, 6, 7, 8, 999999] [2, 5, 6, 7, 8] 10 (.code itL :: .inLoop itL :: [.inBlock 0]) (itS l φ i) =
    bif decide (i < (l.length : Int)) then bif inB i l.length then .more (.code itR :: .code itC :: .inBlock 1 :: .code itE :: .inLoop itL :: [.inBlock 0]) (it3 l φ i) else .fail
    else .done ⟨[(2, tk φ), (6, tl l), (7, .tv ⟨.int .i64, (l.length : Int)⟩), (8, .tv ⟨.int .i64, i⟩), (9, .tv ⟨.bool, decide (i < (l.length : Int))⟩)], []⟩ := by kernel_rfl
end Go.Lift.V37
set_option maxRecDepth 100000
set_option linter.unusedVariables false
set_option linter.unusedSimpArgs false
namespace Go.Lift.V37
open Go.Lift Go.Proofs

section
variable (l : List Po.D) (φ : (Ty.cons Po .nil).D → Bool × Bool) (i : Int)
noncomputable def it4 : St := ⟨[(2, tk φ), (6, tl l), (7, .tv ⟨.int .i64, (l.length : Int)⟩), (8, .tv ⟨.int .i64, i⟩), (20, .tv ⟨.bool, false⟩)], []⟩
theorem it_next : runI [0, 2, 6, 7, 999999] [2, 6, 7, 8] 100 (.code itC :: .inBlock 1 :: .code itE :: .inLoop itL :: [.inBlock 0]) (it4 l φ i) = .loop itL [.inBlock 0] (itS l φ (w (i + 1))) := by kernel_rfl

/-- the state after the operations of the region with the call of yield -/
noncomputable abbrev itx : Po.D := l.getD i.toNat Po.zero
noncomputable abbrev itP (st : St) (d : Nat) (v : SV) : St := st.put (some d) v
noncomputable def s1 : St := itP (it3 l φ i) 12 (.tv ⟨KF, φ⟩)
noncomputable def s2 : St := itP (s1 l φ i) 13 (.tv ⟨Po, itx l i⟩)
noncomputable def s3 (b : Bool) : St := itP (s2 l φ i) 14 (.tv ⟨.bool, b⟩)
noncomputable def s4 (b : Bool) : St := itP (s3 l φ i b) 15 (.tv ⟨.bool, b⟩)
noncomputable def s5 (b : Bool) : St := itP (s4 l φ i b) 16 .gone
theorem v0 : opVal Tbl.none T (it3 l φ i).bx (opd (it3 l φ i)) (itO 0) = some (true, .tv ⟨KF, φ⟩) := by kernel_rfl
theorem v1 : opVal Tbl.none T (s1 l φ i).bx (opd (s1 l φ i)) (itO 1) = some (true, .tv ⟨Po, itx l i⟩) := by kernel_rfl
theorem v2 : opVal Tbl.none T (s2 l φ i).bx (opd (s2 l φ i)) (itO 2) = some ((φ (itx l i, ())).1, .tv ⟨.bool, (φ (itx l i, ())).2⟩) := by kernel_rfl
theorem v3 (b : Bool) : opVal Tbl.none T (s3 l φ i b).bx (opd (s3 l φ i b)) (itO 3) = some (true, .tv ⟨.bool, b⟩) := by kernel_rfl
theorem v5 (b : Bool) : opVal Tbl.none T (s5 l φ i b).bx (opd (s5 l φ i b)) (itO 5) = some (true, .tv ⟨Po, itx l i⟩) := by kernel_rfl
theorem itOp (k : Nat) (h : k < 9) : itOps[k]? = some (itO k) := by
  have : itOps.toList.length = 9 := by kernel_rfl
  unfold itO
  have h2 : itOps.toList[k]? = some (itOps.toList[k]'(by omega)) := by simp [h, this]
  rw [h2]; simp
theorem itOp' (k : Nat) (h : k < 9) : itOps.toList[k]? = some (itO k) := by simpa using itOp k h
theorem itSize : itOps.size = 9 := by kernel_rfl
theorem d0 : (itO 0).dst = some 12 := by kernel_rfl
theorem d1 : (itO 1).dst = some 13 := by kernel_rfl
theorem d2 : (itO 2).dst = some 14 := by kernel_rfl
theorem d3 : (itO 3).dst = some 15 := by kernel_rfl
theorem d4 : (itO 4).dst = some 16 := by kernel_rfl
theorem d5 : (itO 5).dst = some 17 := by kernel_rfl
theorem d6 : (itO 6).dst = some 18 := by kernel_rfl
theorem d7 : (itO 7).dst = some 19 := by kernel_rfl
theorem d8 : (itO 8).dst = some 20 := by kernel_rfl
theorem g0 : (itO 0).guard = none := by kernel_rfl
theorem g1 : (itO 1).guard = none := by kernel_rfl
theorem g2 : (itO 2).guard = none := by kernel_rfl
theorem g3 : (itO 3).guard = none := by kernel_rfl
theorem g4 : (itO 4).guard = some (3, true) := by kernel_rfl
theorem g5 : (itO 5).guard = some (3, true) := by kernel_rfl
theorem g6 : (itO 6).guard = some (3, true) := by kernel_rfl
theorem g7 : (itO 7).guard = some (3, true) := by kernel_rfl
theorem g8 : (itO 8).guard = none := by kernel_rfl
theorem o4 : (itO 4).op = .move (.tmp 0) := by kernel_rfl
noncomputable def o7t : TypeId := match (itO 7).op with | .unOp _ t _ => t | _ => 0
theorem o7 : (itO 7).op = .unOp .not o7t (.tmp 18) := by kernel_rfl
theorem o8 : (itO 8).op = .pick (.tmp 15) (.tmp 19) (.const (.bool false)) := by kernel_rfl
noncomputable def itCall : Call := match (itO 6).op with | .call c => c | _ => default
theorem o6 : (itO 6).op = .call itCall := by kernel_rfl
theorem c6 : itCall.callee = .value (.tmp 16) := by kernel_rfl
theorem ca6 : itCall.args = #[.tmp 17] := by kernel_rfl
def opKind : Op → Nat
  | .defer _ => 1
  | _ => 0
theorem nd_of {o : Oper} (h : opKind o.op = 0) : ∀ c, o.op ≠ .defer c := fun c e => by rw [e] at h; cases h
theorem itOp0 (k : Nat) (h : k < 3) : itOps0[k]? = some (itO0 k) := by
  have : itOps0.toList.length = 3 := by kernel_rfl
  unfold itO0
  have h2 : itOps0.toList[k]? = some (itOps0.toList[k]'(by omega)) := by simp [h, this]
  rw [h2]; simp
theorem itSize0 : itOps0.size = 3 := by kernel_rfl
noncomputable def itT0 : TypeId := match (itO0 0).op with | .load t _ => t | _ => 0
theorem p0 : (itO0 0).op = .load itT0 (.tmp 1) := by kernel_rfl
theorem pt0 : T itT0 = some (.slice Po) := by kernel_rfl
theorem pd0 : (itO0 0).dst = some 6 := by kernel_rfl
theorem pd1 : (itO0 1).dst = some 7 := by kernel_rfl
theorem pd2 : (itO0 2).dst = some 8 := by kernel_rfl
theorem pg0 : (itO0 0).guard = none := by kernel_rfl
theorem pg1 : (itO0 1).guard = none := by kernel_rfl
theorem pg2 : (itO0 2).guard = none := by kernel_rfl
theorem pn0 : opKind (itO0 0).op = 0 := by kernel_rfl
theorem pn1 : opKind (itO0 1).op = 0 := by kernel_rfl
theorem pn2 : opKind (itO0 2).op = 0 := by kernel_rfl
noncomputable def t1 : St := itP (it0 l φ) 6 (tl l)
noncomputable def t2 : St := itP (t1 l φ) 7 (.tv ⟨.int .i64, (l.length : Int)⟩)
theorem pv1 : opVal Tbl.none T (t1 l φ).bx (opd (t1 l φ)) (itO0 1) = some (true, .tv ⟨.int .i64, (l.length : Int)⟩) := by kernel_rfl
theorem pv2 : opVal Tbl.none T (t2 l φ).bx (opd (t2 l φ)) (itO0 2) = some (true, .tv ⟨.int .i64, (0 : Int)⟩) := by kernel_rfl
theorem itN : itF.ntmps = 22 := by kernel_rfl
theorem k0 : opKind (itO 0).op = 0 := by kernel_rfl
theorem n1 : opKind (itO 1).op = 0 := by kernel_rfl
theorem n2 : opKind (itO 2).op = 0 := by kernel_rfl
theorem n3 : opKind (itO 3).op = 0 := by kernel_rfl
theorem n5 : opKind (itO 5).op = 0 := by kernel_rfl
end
end Go.Lift.V37
set_option maxRecDepth 100000
set_option linter.unusedVariables false
set_option linter.unusedSimpArgs false
namespace Go.Lift.V37
open Go.Lift Go.Proofs

theorem rel_flat {P : Program} {N : Nat} {τ : Store P} {w : World} {H : Nat → Value} {sl : List (Nat × SV)} {a : Act} (hh : Holds w τ) (hs : a.tmps.size = N) (hd : a.defers = [])
    (ht : ∀ p ∈ sl, SVR τ [] H p.2 (a.tmps.getD p.1 undef)) : Rel (fun _ => True) N w.heap.size τ H ⟨sl, []⟩ a w :=
  ⟨hh, hs, by rw [hd]; trivial, Nat.le_refl _, fun k b hk => by simp [look] at hk, fun k k' b b' g hk => by simp [look] at hk, fun k s hk _ => ht (k, s) (look_mem _ _ _ hk)⟩

theorem grown_step {P : Program} {σ σ' : Store P} {w w' : World} (h : Step σ w σ' w') : Grown w w' := ⟨h.size, h.block, h.os, h.output, h.tape⟩

theorem itVal (k d : Nat) (hk : k < 9) (hd : (itO k).dst = some d) (hdl : d < 22) {st : St} {is : List Nat} {a : Act} {w : World} {σ : Store Try.prog} {H : Nat → Value} {n0 : Nat} {Q : Exit → Act → World → Prop} {s : SV} (hw : want itOps (itO k) a = true) (hnd : opKind (itO k).op = 0) (hQ : ∀ a w, ¬ Q .outgrown a w)
    (hR : Rel (fun _ => True) itF.ntmps n0 σ H st a w) (hv : opVal Tbl.none T st.bx (opd st) (itO k) = some (true, s))
    (hn : ∀ v σ2 w2, Step σ w σ2 w2 → SVR σ2 st.bx H s v → Rel (fun _ => True) itF.ntmps n0 σ2 H (st.put (some d) s) (a.put (some d) v) w2 → wpOpsIn (fence none) 0 Try.prog itOps Q is (a.put (some d) v) w2) : wpOpsIn (fence none) 0 Try.prog itOps Q (k :: is) a w := by
  refine opsIn_val env0 (itOp k hk) hw (nd_of hnd) hQ hR hv (by rw [hd]; intro j hj; cases hj; rw [itN]; exact hdl) fun v σ2 w2 h1 h2 h3 => ?_
  rw [hd] at h3 ⊢
  exact hn v σ2 w2 h1 h2 h3

theorem put_other {a : Act} {d k : Nat} {v : Value} (hd : d < a.tmps.size) (h : ¬ k = d) : (a.put (some d) v).tmps.getD k undef = a.tmps.getD k undef := by rw [getD_put hd, if_neg h]
theorem put_this {a : Act} {d : Nat} {v : Value} (hd : d < a.tmps.size) : (a.put (some d) v).tmps.getD d undef = v := by rw [getD_put hd, if_pos rfl]

abbrev pinsR : List Nat := [0, 2, 6, 7, 8, 999999]
theorem pinPut {X : Nat → Value} {a : Act} {d : Nat} {v : Value} (h : Pinned pinsR X a) (hd : pinsR.any (Nat.beq d) = false) : Pinned pinsR X (a.put (some d) v) := h.put fun k hk => by cases hk; exact hd

theorem itRegion (l : List Po.D) (φ : (Ty.cons Po .nil).D → Bool × Bool) (i : Int) {w1 : World} {τ σ1 : Store Try.prog} {H1 : Nat → Value} {n0 lp : Nat} {a1 : Act} {X : Nat → Value} {J J' : World → Prop}
    (hR : Rel (fun _ => True) itF.ntmps n0 σ1 H1 (it3 l φ i) a1 w1) (hp : Pinned pinsR X a1) (hX : X 0 = .func (.yield lp) #[] #[]) (hφ : (φ (itx l i, ())).1 = true)
    (hJ : J w1) (hg : ∀ w w', J w → Grown w w' → J w') (hno : (φ (itx l i, ())).2 = false → ∀ w, J w → J' w)
    (hyes : (φ (itx l i, ())).2 = true → ∀ u w, J w → Enc τ Po (itx l i) u.cells.toList → isAggV u = true → Yielded Try.prog lp u w J') :
    wpOpsIn (fence none) 0 Try.prog itOps (fun e a' w' => e = .normal ∧ Pinned pinsR X a' ∧ a'.tmps.size = itF.ntmps ∧ a'.tmps.getD 20 undef = .bool false ∧ J' w') [0, 1, 2, 3, 4, 5, 6, 7, 8] a1 w1 := by
  obtain ⟨Q, hQe⟩ : ∃ Q : Exit → Act → World → Prop, Q = fun e a' w' => e = .normal ∧ Pinned pinsR X a' ∧ a'.tmps.size = itF.ntmps ∧ a'.tmps.getD 20 undef = .bool false ∧ J' w' := ⟨_, rfl⟩
  rw [← hQe]
  have hQ : ∀ a w, ¬ Q .outgrown a w := by rw [hQe]; rintro _ _ ⟨h, _⟩; cases h
  refine itVal 0 12 (by omega) d0 (by omega) (want_none g0) k0 hQ hR (v0 l φ i) fun u0 σ2 w2 t2 _ R2 => ?_
  have p2 := pinPut (v := u0) hp (d := 12) rfl
  have J2 := hg _ _ hJ (grown_step t2)
  refine itVal 1 13 (by omega) d1 (by omega) (want_none g1) n1 hQ R2 (v1 l φ i) fun u1 σ3 w3 t3 _ R3 => ?_
  have p3 := pinPut (v := u1) p2 (d := 13) rfl
  have J3 := hg _ _ J2 (grown_step t3)
  refine itVal 2 14 (by omega) d2 (by omega) (want_none g2) n2 hQ R3 ((v2 l φ i).trans (by rw [hφ])) fun u2 σ4 w4 t4 _ R4 => ?_
  have p4 := pinPut (v := u2) p3 (d := 14) rfl
  have J4 := hg _ _ J3 (grown_step t4)
  refine itVal 3 15 (by omega) d3 (by omega) (want_none g3) n3 hQ R4 (v3 l φ i _) fun u3 σ5 w5 t5 sv5 R5 => ?_
  have p5 := pinPut (v := u3) p4 (d := 15) rfl
  have J5 := hg _ _ J4 (grown_step t5)
  have e5 : u3 = .bool (φ (itx l i, ())).2 := svr_bool sv5
  have z5 := R5.size
  rw [itN] at z5
  obtain ⟨a5, ha5⟩ : ∃ a5, a5 = ((((a1.put (some 12) u0).put (some 13) u1).put (some 14) u2).put (some 15) u3) := ⟨_, rfl⟩
  have h15 : a5.tmps.getD 15 undef = .bool (φ (itx l i, ())).2 := by rw [ha5, put_this (by rw [put_size] at z5; omega), e5]
  rw [← ha5] at R5 p5 z5 ⊢
  cases hb : (φ (itx l i, ())).2 with
  | false =>
    rw [hb] at h15
    have pass : ∀ (k d : Nat) (is : List Nat) (a : Act), k < 9 → (itO k).guard = some (3, true) → (itO k).dst = some d → a.tmps.getD 15 undef = .bool false → wpOpsIn (fence none) 0 Try.prog itOps Q is (a.put (some d) undef) w5 → wpOpsIn (fence none) 0 Try.prog itOps Q (k :: is) a w5 := by
      intro k d is a hk hgd hd h h2
      refine opsIn_pass (itOp k hk) (want_false_of hgd (itOp' 3 (by omega)) d3 h) ?_
      rw [hd]; exact h2
    refine pass 4 16 _ _ (by omega) g4 d4 h15 ?_
    refine pass 5 17 _ _ (by omega) g5 d5 (by rw [put_other (by omega) (by omega)]; exact h15) ?_
    refine pass 6 18 _ _ (by omega) g6 d6 (by rw [put_other (by simp only [put_size]; omega) (by omega), put_other (by omega) (by omega)]; exact h15) ?_
    refine pass 7 19 _ _ (by omega) g7 d7 (by rw [put_other (by simp only [put_size]; omega) (by omega), put_other (by simp only [put_size]; omega) (by omega), put_other (by omega) (by omega)]; exact h15) ?_
    obtain ⟨a9, ha9⟩ : ∃ a9, a9 = ((((a5.put (some 16) undef).put (some 17) undef).put (some 18) undef).put (some 19) undef) := ⟨_, rfl⟩
    rw [← ha9]
    have z9 : a9.tmps.size = 22 := by rw [ha9]; simp only [put_size]; exact z5
    have h9 : a9.tmps.getD 15 undef = .bool false := by
      rw [ha9, put_other (by simp only [put_size]; omega) (by omega), put_other (by simp only [put_size]; omega) (by omega), put_other (by simp only [put_size]; omega) (by omega), put_other (by omega) (by omega)]; exact h15
    have p9 : Pinned pinsR X a9 := by rw [ha9]; exact pinPut (pinPut (pinPut (pinPut p5 rfl) rfl) rfl) rfl
    refine opsIn_go (itOp 8 (by omega)) (want_none g8) ⟨fun _ _ => trivial, ?_⟩
    rw [Oper.semAt_eq _ _ _ (by simp [o8])]
    have hrun : (execOp a9.eval (itO 8)).run Try.prog w5 = .ok (.value (.bool false)) w5 := by
      simp [execOp, o8, asBool, Act.eval, h9]
    rw [hrun]
    simp only [Oper.uponIn, d8, wpOpsIn, hQe]
    exact ⟨trivial, pinPut p9 rfl, by rw [put_size, itN]; exact z9, put_this (by omega), hno hb _ J5⟩
  | true =>
    rw [hb] at h15
    refine opsIn_move (itOp 4 (by omega)) (want_true_of g4 (itOp' 3 (by omega)) d3 h15) o4 R5 (by rw [d4]; intro j hj; cases hj; rw [itN]; omega) fun R6 => ?_
    rw [d4] at R6 ⊢
    have p6 := pinPut (v := a5.eval (.tmp 0)) p5 (d := 16) rfl
    obtain ⟨a6, ha6⟩ : ∃ a6, a6 = a5.put (some 16) (a5.eval (.tmp 0)) := ⟨_, rfl⟩
    rw [← ha6] at R6 p6 ⊢
    have z6 : a6.tmps.size = 22 := by rw [ha6]; simp only [put_size]; exact z5
    have h615 : a6.tmps.getD 15 undef = .bool true := by rw [ha6, put_other (by omega) (by omega)]; exact h15
    have h616 : a6.tmps.getD 16 undef = .func (.yield lp) #[] #[] := by rw [ha6, put_this (by omega), ← hX]; exact p5.1 0 rfl
    refine itVal 5 17 (by omega) d5 (by omega) (want_true_of g5 (itOp' 3 (by omega)) d3 h615) n5 hQ R6 (v5 l φ i _) fun u5 σ7 w7 t7 sv7 R7 => ?_
    have p7 := pinPut (v := u5) p6 (d := 17) rfl
    have J7 := hg _ _ J5 (grown_step t7)
    obtain ⟨a7, ha7⟩ : ∃ a7, a7 = a6.put (some 17) u5 := ⟨_, rfl⟩
    rw [← ha7] at R7 p7 ⊢
    have z7 : a7.tmps.size = 22 := by rw [ha7]; simp only [put_size]; exact z6
    have h715 : a7.tmps.getD 15 undef = .bool true := by rw [ha7, put_other (by omega) (by omega)]; exact h615
    have h716 : a7.tmps.getD 16 undef = .func (.yield lp) #[] #[] := by rw [ha7, put_other (by omega) (by omega)]; exact h616
    have h717 : a7.tmps.getD 17 undef = u5 := by rw [ha7, put_this (by omega)]
    have hrv : RelV σ7 ⟨Po, itx l i⟩ u5 := sv7
    have hy := hyes hb u5 w7 J7 (by
      obtain ⟨c1, r1, q1, q2, c2, r2, q3, q4, c3, r3, q5, q6, c4, r4, q7, q8, q9⟩ := hrv.1
      exact ⟨c1, r1, q1, q2, c2, r2, q3, q4, c3, r3, q5, q6, c4, r4, q7, q8, q9⟩) hrv.2
    refine opsIn_yield (itOp 6 (by omega)) (want_true_of g6 (itOp' 3 (by omega)) d3 h715) o6 c6 ca6 h716 (by simpa only [Act.eval, h717] using hy) fun w8 J8 => ?_
    rw [d6]
    have p8 := pinPut (v := .bool true) p7 (d := 18) rfl
    obtain ⟨a8, ha8⟩ : ∃ a8, a8 = a7.put (some 18) (.bool true) := ⟨_, rfl⟩
    rw [← ha8] at p8 ⊢
    have z8 : a8.tmps.size = 22 := by rw [ha8]; simp only [put_size]; exact z7
    have h815 : a8.tmps.getD 15 undef = .bool true := by rw [ha8, put_other (by omega) (by omega)]; exact h715
    have h818 : a8.tmps.getD 18 undef = .bool true := by rw [ha8, put_this (by omega)]
    refine opsIn_go (itOp 7 (by omega)) (want_true_of g7 (itOp' 3 (by omega)) d3 h815) ⟨fun _ _ => trivial, ?_⟩
    rw [Oper.semAt_eq _ _ _ (by simp [o7])]
    have hrun7 : (execOp a8.eval (itO 7)).run Try.prog w8 = .ok (.value (.bool false)) w8 := by
      simp [execOp, o7, Act.eval, h818, Op.unary]
    rw [hrun7]
    simp only [Oper.uponIn, d7]
    have p9 := pinPut (v := .bool false) p8 (d := 19) rfl
    obtain ⟨a9, ha9⟩ : ∃ a9, a9 = a8.put (some 19) (.bool false) := ⟨_, rfl⟩
    rw [← ha9] at p9 ⊢
    have z9 : a9.tmps.size = 22 := by rw [ha9]; simp only [put_size]; exact z8
    have h915 : a9.tmps.getD 15 undef = .bool true := by rw [ha9, put_other (by omega) (by omega)]; exact h815
    have h919 : a9.tmps.getD 19 undef = .bool false := by rw [ha9, put_this (by omega)]
    refine opsIn_go (itOp 8 (by omega)) (want_none g8) ⟨fun _ _ => trivial, ?_⟩
    rw [Oper.semAt_eq _ _ _ (by simp [o8])]
    have hrun : (execOp a9.eval (itO 8)).run Try.prog w8 = .ok (.value (.bool false)) w8 := by
      simp [execOp, o8, asBool, Act.eval, h915, h919]
    rw [hrun]
    simp only [Oper.uponIn, d8, wpOpsIn, hQe]
    exact ⟨trivial, pinPut p9 rfl, by rw [put_size, itN]; exact z9, put_this (by omega), J8⟩
end Go.Lift.V37
set_option maxRecDepth 100000
set_option linter.unusedVariables false
set_option linter.unusedSimpArgs false
namespace Go.Lift.V37
open Go.Lift Go.Proofs

theorem grown_trans {P : Program} {σ σ' : Store P} {w w' : World} (h : Trans w.heap.size σ w σ' w') : Grown w w' := ⟨h.size, fun b hb => h.block b hb (.inl hb), h.os, h.output, h.tape⟩

noncomputable def kp (φ : (Ty.cons Po .nil).D → Bool × Bool) (x : Po.D) : Bool := (φ (x, ())).2
noncomputable def cnt (l : List Po.D) (φ : (Ty.cons Po .nil).D → Bool × Bool) (i : Nat) : Nat := ((l.take i).filter (kp φ)).length

theorem take_next {α : Type} {l : List α} {i : Nat} {x : α} (h : l[i]? = some x) : l.take (i + 1) = l.take i ++ [x] := by
  rw [List.take_add_one, h]; rfl

theorem filter_at {α : Type} {l : List α} {p : α → Bool} {i : Nat} {x : α} (h : l[i]? = some x) (hp : p x = true) : (l.filter p)[((l.take i).filter p).length]? = some x := by
  have e : l = l.take i ++ x :: l.drop (i + 1) := by
    obtain ⟨hi, hx⟩ := List.getElem?_eq_some_iff.1 h
    rw [← hx, List.getElem_cons_drop, List.take_append_drop]
  have e2 : l.filter p = (l.take i).filter p ++ x :: (l.drop (i + 1)).filter p := by
    conv => lhs; rw [e]
    rw [List.filter_append, List.filter_cons_of_pos hp]
  rw [e2]
  simp

/-- the state at the loop's head, whatever lies in the other slots -/
theorem relHead {l : List Po.D} {φ : (Ty.cons Po .nil).D → Bool × Bool} {i : Nat} {w : World} {τ : Store Try.prog} {H : Nat → Value} {a : Act} {v2 v6 : Value} (hh : Holds w τ) (hd : a.defers = [])
    (h2 : RelV τ ⟨.ptr KF, (true, φ)⟩ v2) (h6 : RelV τ ⟨.slice Po, l⟩ v6) (e2 : a.tmps.getD 2 undef = v2) (e6 : a.tmps.getD 6 undef = v6) (e7 : a.tmps.getD 7 undef = .int .i64 l.length) (e8 : a.tmps.getD 8 undef = .int .i64 i) (hz : a.tmps.size = itF.ntmps) :
    Rel (fun _ => True) itF.ntmps w.heap.size τ H (itS l φ i) a w := by
  refine rel_flat hh hz hd ?_
  intro p hp
  simp only [List.mem_cons, List.not_mem_nil, or_false] at hp
  rcases hp with rfl | rfl | rfl | rfl
  · show RelV τ _ _; simp only [e2]; exact h2
  · show RelV τ _ _; simp only [e6]; exact h6
  · show RelV τ _ _; simp only [e7]; exact relV_int _ _ _
  · show RelV τ _ _; simp only [e8]; exact relV_int _ _ _

section
variable {l : List Po.D} {φ : (Ty.cons Po .nil).D → Bool × Bool} {τ : Store Try.prog} {I : Nat → World → Prop} {lp : Nat} {v2 v6 : Value}

theorem itWalk (hl : l.length ≤ 4611686018427387904) (hφ : ∀ x ∈ l, (φ (x, ())).1 = true) (h2 : RelV τ ⟨.ptr KF, (true, φ)⟩ v2) (h6 : RelV τ ⟨.slice Po, l⟩ v6)
    (hhold : ∀ i w', I i w' → Holds w' τ) (hgrow : ∀ i w' w'', I i w' → Grown w' w'' → I i w'')
    (hyield : ∀ (i : Nat) (x : Po.D) (u : Value) (w' : World), (l.filter (kp φ))[i]? = some x → I i w' → Enc τ Po x u.cells.toList → isAggV u = true → Yielded Try.prog lp u w' (I (i + 1))) :
    ∀ (n i : Nat), l.length - i = n → i ≤ l.length → ∀ (a : Act) (w : World), a.tmps.getD 2 undef = v2 → a.tmps.getD 6 undef = v6 → a.tmps.getD 7 undef = .int .i64 l.length → a.tmps.getD 8 undef = .int .i64 i → a.tmps.size = itF.ntmps →
      a.tmps.getD 0 undef = .func (.yield lp) #[] #[] → a.defers = [] → I (cnt l φ i) w → ∀ (b : Frame) (cs : List Frame) (m : Machine), b.roundOf = none →
      Steps Try.prog m (lone (b.atR a (.code itL :: .inLoop itL :: [.inBlock 0])) cs w) → ∃ a' w', a'.defers = [] ∧ I (cnt l φ l.length) w' ∧ Steps Try.prog m (lone (b.atR a' []) cs w') := by
  intro n
  induction n with
  | zero =>
    intro i hn hi a w e2 e6 e7 e8 hz e0 hd hI b cs m hb hs
    have hil : i = l.length := by omega
    have hr := (it_round l φ i).trans (show _ = Leaf.done _ by rw [show decide ((i : Int) < (l.length : Int)) = false by simp; omega]; rfl)
    obtain ⟨a1, w1, σ1, H1, t1, R1, p1, s1⟩ := reach_done env0 (ps := pinsR) (X := fun k => a.tmps.getD k undef) (K := []) (b := b) (cs := cs) (m := m) (by simp) 10 (relHead (H := fun _ => undef) (hhold _ _ hI) hd h2 h6 e2 e6 e7 e8 hz) ⟨fun k _ => rfl, fun _ => hd⟩ (by simpa using hs) hr
    exact ⟨a1, w1, p1.2 rfl, by rw [← hil]; exact hgrow _ _ _ hI (grown_trans t1), s1⟩
  | succ n ih =>
    intro i hn hi a w e2 e6 e7 e8 hz e0 hd hI b cs m hb hs
    have hil : i < l.length := by omega
    have hx : l[i]? = some l[i] := by simp [hil]
    have hxe : itx l (i : Int) = l[i] := by simp [itx, hil]
    have hr := (it_round l φ i).trans (show _ = Leaf.more (.code itR :: .code itC :: .inBlock 1 :: .code itE :: .inLoop itL :: [.inBlock 0]) (it3 l φ i) by rw [show decide ((i : Int) < (l.length : Int)) = true by simp; omega, inB_nat hil]; rfl)
    obtain ⟨a1, w1, σ1, H1, t1, R1, p1, s1⟩ := reach_done env0 (ps := pinsR) (X := fun k => a.tmps.getD k undef) (K := []) (b := b) (cs := cs) (m := m) (by simp) 10 (relHead (H := fun _ => undef) (hhold _ _ hI) hd h2 h6 e2 e6 e7 e8 hz) ⟨fun k _ => rfl, fun _ => hd⟩ (by simpa using hs) hr
    have hI1 := hgrow _ _ _ hI (grown_trans t1)
    have hcn : cnt l φ (i + 1) = if kp φ l[i] = true then cnt l φ i + 1 else cnt l φ i := by
      unfold cnt
      rw [take_next hx, List.filter_append]
      by_cases h : kp φ l[i] = true
      · rw [if_pos h]; simp [h]
      · rw [if_neg h]; simp [h]
    have hreg := itRegion l φ i R1 p1 (by exact e0) (by rw [hxe]; exact hφ _ (List.getElem_mem hil)) hI1 (fun w w' => hgrow _ w w') (J' := I (cnt l φ (i + 1)))
      (fun hb w hJ => by rw [hxe] at hb; rw [hcn, if_neg (by simp [kp, hb])]; exact hJ)
      (fun hb u w' hJ he ha => by
        rw [hxe] at hb he
        rw [hcn, if_pos (by exact hb)]
        exact hyield _ _ u w' (filter_at hx (by exact hb)) hJ he ha)
    have s1' : Steps Try.prog m (lone (b.atR a1 (.code (.region itId itOps false) :: (.code itC :: .inBlock 1 :: .code itE :: .inLoop itL :: [.inBlock 0]))) cs w1) := by
      rw [← itR_eq]; simpa using s1
    obtain ⟨a2, w2, ⟨_, p2, z2, h20, J2⟩, s2⟩ := regionIn (n := 0) (a := a1) (Q := fun e a' w' => e = .normal ∧ Pinned pinsR (fun k => a.tmps.getD k undef) a' ∧ a'.tmps.size = itF.ntmps ∧ a'.tmps.getD 20 undef = .bool false ∧ I (cnt l φ (i + 1)) w') (fun e a w h => h.1) (by rw [itSize]; exact hreg) b hb (.code itC :: .inBlock 1 :: .code itE :: .inLoop itL :: [.inBlock 0]) cs
    have q2 : a2.tmps.getD 2 undef = v2 := (p2.1 2 rfl).trans e2
    have q6 : a2.tmps.getD 6 undef = v6 := (p2.1 6 rfl).trans e6
    have q7 : a2.tmps.getD 7 undef = .int .i64 l.length := (p2.1 7 rfl).trans e7
    have q8 : a2.tmps.getD 8 undef = .int .i64 i := (p2.1 8 rfl).trans e8
    have q0 : a2.tmps.getD 0 undef = .func (.yield lp) #[] #[] := (p2.1 0 rfl).trans e0
    have R2 : Rel (fun _ => True) itF.ntmps w2.heap.size τ (fun _ => undef) (it4 l φ i) a2 w2 := by
      refine rel_flat (hhold _ _ J2) z2 (p2.2 rfl) ?_
      intro p hp
      simp only [List.mem_cons, List.not_mem_nil, or_false] at hp
      rcases hp with rfl | rfl | rfl | rfl | rfl
      · show RelV τ _ _; simp only [q2]; exact h2
      · show RelV τ _ _; simp only [q6]; exact h6
      · show RelV τ _ _; simp only [q7]; exact relV_int _ _ _
      · show RelV τ _ _; simp only [q8]; exact relV_int _ _ _
      · show RelV τ _ _; simp only [h20]; exact relV_bool _ _
    obtain ⟨a3, w3, σ3, H3, t3, R3, p3, s3⟩ := reach_done env0 (ps := [0, 2, 6, 7, 999999]) (X := fun k => a2.tmps.getD k undef) (K := []) (b := b) (cs := cs) (m := m) (by simp) 100 R2 ⟨fun k _ => rfl, fun _ => p2.2 rfl⟩ (by simpa using s1'.trans s2) (it_next l φ i)
    have e8' : a3.tmps.getD 8 undef = .int .i64 ((i + 1 : Nat) : Int) := by
      have := svr_int (R3.slot 8 _ rfl trivial)
      rw [this]
      rw [show (V37.w ((i : Int) + 1)) = (i : Int) + 1 from wrap_id (by omega) (by omega)]
      simp
    exact ih (i + 1) (by omega) (by omega) a3 w3 ((p3.1 2 rfl).trans q2) ((p3.1 6 rfl).trans q6) ((p3.1 7 rfl).trans q7) e8' R3.size ((p3.1 0 rfl).trans q0) (p3.2 rfl) (hgrow _ _ _ J2 (grown_trans t3)) b cs m hb (by simpa using s3)
end

theorem itFunc : Try.prog.funcs[(29 : Nat)]? = some itF := by kernel_rfl
theorem itRes : itF.results = #[] := by kernel_rfl

/-- the iterator yields what is kept -/
theorem itSeq (l : List Po.D) (φ : (Ty.cons Po .nil).D → Bool × Bool) (hl : l.length ≤ 4611686018427387904) (hφ : ∀ x ∈ l, (φ (x, ())).1 = true) (σ : Store Try.prog) (caps : Array Value)
    (hc : ArgsR σ [⟨.ptr (.slice Po), (true, l)⟩, ⟨.ptr KF, (true, φ)⟩] caps) : Enc σ (.seq Po) (true, l.filter (kp φ)) [.func (.func 29) #[] caps] := by
  refine ⟨_, rfl, rfl, rfl, fun _ => ⟨29, caps, rfl, ⟨itF, itFunc, by kernel_rfl, by kernel_rfl⟩, fun τ w lp I hle hhold hgrow hyield h0 => ?_⟩⟩
  intro cs
  have hcs : caps.size = 2 := hc.1
  have hc1 := RelV.mono hle (hc.2 0 _ caps[0] rfl (by simp [hcs]))
  have hc2 := RelV.mono hle (hc.2 1 _ caps[1] rfl (by simp [hcs]))
  obtain ⟨vs, hvs⟩ : ∃ vs : Array Value, vs = #[.func (.yield lp) #[] #[]] ++ caps := ⟨_, rfl⟩
  rw [← hvs]
  have hvz : vs.size = 3 := by rw [hvs]; simp [hcs]
  let b : Frame := { (default : Frame) with fn := 29, kind := .normal }
  obtain ⟨a, ha⟩ : ∃ a : Act, a = { tmps := vs ++ Array.replicate (itF.ntmps - vs.size) undef, defers := [] } := ⟨_, rfl⟩
  have henter : Frame.enter Try.prog 29 vs .normal = b.at a [.code (.seq itR0 itB)] := by
    simp [Frame.enter, Frame.at, itFunc, itBody, b, ha]
  have hget : ∀ k, k < 3 → a.tmps.getD k undef = vs.getD k undef := by
    intro k hk
    rw [ha]
    simp [Array.getD_eq_getD_getElem?, Array.getElem?_append, hvz, hk]
  have ez : a.tmps.size = itF.ntmps := by rw [ha]; simp [hvz, itN]
  have e0 : a.tmps.getD 0 undef = .func (.yield lp) #[] #[] := by rw [hget 0 (by omega), hvs]; simp [Array.getD_eq_getD_getElem?, Array.getElem?_append]
  have e1 : a.tmps.getD 1 undef = caps[0] := by rw [hget 1 (by omega), hvs]; simp [Array.getD_eq_getD_getElem?, Array.getElem?_append, hcs]
  have e2 : a.tmps.getD 2 undef = caps[1] := by rw [hget 2 (by omega), hvs]; simp [Array.getD_eq_getD_getElem?, Array.getElem?_append, hcs]
  have hR : Rel (fun _ => True) itF.ntmps w.heap.size τ (fun _ => undef) (it0 l φ) a w := by
    refine rel_flat (hhold _ _ h0) ez (by rw [ha]) ?_
    intro p hp
    simp only [List.mem_cons, List.not_mem_nil, or_false] at hp
    rcases hp with rfl | rfl
    · show RelV τ _ _; simp only [e1]; exact hc1
    · show RelV τ _ _; simp only [e2]; exact hc2
  -- the first region: the slice is looked up
  obtain ⟨ad, c0, q1, q2, q3⟩ : ∃ ad c0, caps[0] = .pointer (some ad) ∧ Lies τ ad c0 ∧ Enc τ (.slice Po) l c0 := RelV.ptr (bx := []) (H := fun _ => undef) hc1 rfl
  have hg0 : Gives Try.prog (itO0 0) a w τ [] (fun _ => undef) (.tv ⟨.slice Po, l⟩) := gives_load p0 (env0.types _ _ pt0) (by show a.tmps.getD 1 undef = _; rw [e1]; exact q1) (q2.at (hhold _ _ h0)) q3
  obtain ⟨v6, hv6, h6⟩ := hg0
  have pin3 : ∀ {X : Nat → Value} {a : Act} {d : Nat} {v : Value}, Pinned [0, 2, 999999] X a → [0, 2, 999999].any (Nat.beq d) = false → Pinned [0, 2, 999999] X (a.put (some d) v) := fun h hd => h.put fun k hk => by cases hk; exact hd
  have hreg : wpOpsIn (fence none) 0 Try.prog itOps0 (fun e a' w' => e = .normal ∧ Pinned [0, 2, 999999] (fun k => a.tmps.getD k undef) a' ∧ a'.tmps.size = itF.ntmps ∧ a'.tmps.getD 6 undef = v6 ∧ a'.tmps.getD 7 undef = .int .i64 l.length ∧ a'.tmps.getD 8 undef = .int .i64 0 ∧ I 0 w') [0, 1, 2] a w := by
    obtain ⟨Q, hQe⟩ : ∃ Q : Exit → Act → World → Prop, Q = fun e a' w' => e = .normal ∧ Pinned [0, 2, 999999] (fun k => a.tmps.getD k undef) a' ∧ a'.tmps.size = itF.ntmps ∧ a'.tmps.getD 6 undef = v6 ∧ a'.tmps.getD 7 undef = .int .i64 l.length ∧ a'.tmps.getD 8 undef = .int .i64 0 ∧ I 0 w' := ⟨_, rfl⟩
    rw [← hQe]
    have hQ : ∀ a w, ¬ Q .outgrown a w := by rw [hQe]; rintro _ _ ⟨h, _⟩; cases h
    have pa : Pinned [0, 2, 999999] (fun k => a.tmps.getD k undef) a := ⟨fun k _ => rfl, fun _ => by rw [ha]⟩
    refine opsIn_go (itOp0 0 (by omega)) (want_none pg0) ⟨fun _ _ => trivial, ?_⟩
    rw [Oper.semAt_eq _ _ _ (nd_of pn0), hv6]
    simp only [Oper.uponIn, pd0]
    have R1 : Rel (fun _ => True) itF.ntmps w.heap.size τ (fun _ => undef) (t1 l φ) (a.put (some 6) v6) w := hR.put (d := some 6) (by intro j hj; cases hj; rw [itN]; omega) h6
    refine opsIn_val env0 (itOp0 1 (by omega)) (want_none pg1) (nd_of pn1) hQ R1 (pv1 l φ) (by rw [pd1]; intro j hj; cases hj; rw [itN]; omega) fun u1 σ2 w2 s2 r2 R2 => ?_
    rw [pd1] at R2 ⊢
    have J2 := hgrow _ _ _ h0 (grown_step s2)
    refine opsIn_val env0 (itOp0 2 (by omega)) (want_none pg2) (nd_of pn2) hQ R2 (pv2 l φ) (by rw [pd2]; intro j hj; cases hj; rw [itN]; omega) fun u2 σ3 w3 s3 r3 R3 => ?_
    rw [pd2] at R3 ⊢
    have J3 := hgrow _ _ _ J2 (grown_step s3)
    simp only [wpOpsIn, hQe]
    have hz := ez
    rw [itN] at hz
    have f1 := svr_int r2
    have f2 := svr_int r3
    refine ⟨trivial, pin3 (pin3 (pin3 pa rfl) rfl) rfl, by simp only [put_size]; exact ez, ?_, ?_, ?_, J3⟩
    · rw [put_other (by simp only [put_size]; omega) (by omega), put_other (by simp only [put_size]; omega) (by omega), put_this (by omega)]
    · rw [put_other (by simp only [put_size]; omega) (by omega), put_this (by simp only [put_size]; omega)]; exact f1
    · rw [put_this (by simp only [put_size]; omega)]; exact f2
  have hst : Steps Try.prog (lone (Frame.enter Try.prog 29 vs .normal) cs w) (lone (b.atR a (.code (.region itId0 itOps0 false) :: [.code itB])) cs w) := by
    rw [henter, ← itR0_eq, ← Frame.atR_of_none (by rfl)]; exact .one stepR_seq
  obtain ⟨a1, w1, ⟨_, p1, z1, f6, f7, f8, J1⟩, s1⟩ := regionIn (n := 0) (a := a) (Q := fun e a' w' => e = .normal ∧ Pinned [0, 2, 999999] (fun k => a.tmps.getD k undef) a' ∧ a'.tmps.size = itF.ntmps ∧ a'.tmps.getD 6 undef = v6 ∧ a'.tmps.getD 7 undef = .int .i64 l.length ∧ a'.tmps.getD 8 undef = .int .i64 0 ∧ I 0 w') (fun e a w h => h.1) (by rw [itSize0]; exact hreg) b rfl [.code itB] cs
  have g2 := (p1.1 2 rfl).trans e2
  have R1 := relHead (i := 0) (H := fun _ => undef) (hhold _ _ J1) (p1.2 rfl) hc2 h6 g2 f6 f7 (by simpa using f8) z1
  obtain ⟨a2, w2, σ2, H2, t2', R2, p2, s2⟩ := reach_done env0 (ps := [0, 2, 6, 7, 8, 999999]) (X := fun k => a1.tmps.getD k undef) (K := []) (b := b) (cs := cs) (by simp) 100 R1 ⟨fun k _ => rfl, fun _ => p1.2 rfl⟩ (hst.trans s1) (it_start l φ)
  obtain ⟨a3, w3, d3', I3, s3⟩ := itWalk hl hφ hc2 h6 hhold hgrow (fun i x u w' hx hI he hu => hyield i x u w' hx hI he hu) l.length 0 (by omega) (by omega) a2 w2 ((p2.1 2 rfl).trans g2) ((p2.1 6 rfl).trans f6) ((p2.1 7 rfl).trans f7) (by simpa using (p2.1 8 rfl).trans f8) R2.size ((p2.1 0 rfl).trans ((p1.1 0 rfl).trans e0)) (p2.2 rfl)
    (by simpa [cnt] using hgrow _ _ _ J1 (grown_trans t2')) b cs _ rfl (by simpa using s2)
  refine calls_end itFunc itRes rfl rfl rfl d3' s3 ⟨⟨_, rfl⟩, ?_⟩
  simpa [cnt] using I3
end Go.Lift.V37
