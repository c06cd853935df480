/- A part of the proof that the law returns true for every input: no condition. -/
import Derived.Test.YtgfndgkdamomdaaB
set_option maxRecDepth 100000
set_option linter.unusedVariables false
set_option linter.unusedSimpArgs false
namespace Go.Lift.V48
open Go.Lift Go.Proofs

abbrev Po : Ty := .cons (.int .i64) (.cons (.int .i64) (.cons (.int .i64) (.cons (.int .i64) .nil)))
abbrev LI : Ty := .slice (.int .i64)
abbrev LLI : Ty := .slice LI
abbrev D3 : Ty := .cons (.int .i64) (.cons (.int .i64) (.cons (.int .i64) .nil))
abbrev D2 : Ty := .cons (.int .i64) (.cons (.int .i64) .nil)
abbrev Fa : Ty := .cons (.int .i64) (.cons (.int .i64) (.cons (.int .i64) (.cons D3 (.cons D2 (.cons (.int .i64) .nil)))))
abbrev LF : Ty := .slice Fa
abbrev Hh : Ty := .cons (.int .i64) (.cons (.int .i64) (.cons (.int .i64) (.cons LF .nil)))
abbrev LP : Ty := .slice Po
abbrev Qp : Ty := .cons (.int .i64) (.cons (.int .i64) (.cons (.int .i64) (.cons (.int .i64) (.cons (.int .i64) (.cons (.int .i64) (.cons (.int .i64) .nil))))))
abbrev LQ : Ty := .slice Qp
abbrev Ac : Ty := .cons Hh (.cons LP (.cons LQ (.cons (.int .i64) (.cons (.int .i64) .nil))))
abbrev LA : Ty := .slice Ac
abbrev LLA : Ty := .slice LA
theorem nmA : T 42 = some Ac := by kernel_rfl
theorem nmB : T 29 = some LLI := by kernel_rfl
theorem nmC : T 25 = some LI := by kernel_rfl

/-! shard.Partition: its code -/
noncomputable abbrev pF : Func := Try.f12
noncomputable def pX : Code := cAt pF [1, 1, 1, 0, 1, 0, 0]
noncomputable def pEnd : Code := cAt pF [1, 1, 1, 1]
noncomputable def pR3 : Code := cAt pF [1, 1, 0]
noncomputable def pB : Code := cAt pF [1, 1, 1]
noncomputable def pR8 : Code := cAt pF [1, 1, 1, 0, 1, 0, 0, 1, 1, 0, 0, 1, 1]
noncomputable def pR7 : Code := cAt pF [1, 1, 1, 0, 1, 0, 0, 1, 1, 0, 0, 1, 0]
noncomputable def pR9 : Code := cAt pF [1, 1, 1, 0, 1, 0, 0, 1, 1, 1]
noncomputable def pops (c : Code) : Array Oper := match c with | .region _ ops _ => ops | _ => #[]
noncomputable def pid (c : Code) : Nat := match c with | .region id _ _ => id | _ => 0
theorem pR3_eq : pR3 = .region (pid pR3) (pops pR3) false := by kernel_rfl
theorem pR8_eq : pR8 = .region (pid pR8) (pops pR8) false := by kernel_rfl
noncomputable abbrev zA : Ac.D := ((0, 0, 0, [], ()), [], [], 0, 0, ())
abbrev FOf (k7 : Int → Int → Bool) (r7 : Int → Int → Int) := FC2 (.int .i64) (.int .i64) k7 (fun x0 x1 => .tv (I (r7 x0 x1)))
noncomputable def GP (k7 : Int → Int → Bool) (r7 : Int → Int → Int) : Tbl := Tbl.none.add 7 (FOf k7 r7)
noncomputable abbrev pK : List Item := [.inBlock 0, .code pEnd]
noncomputable def pS (l : List Ac.D) (n i : Int) : St := ⟨[(1, .tv (I n)), (17, .tv ⟨LA, l⟩), (18, .tv (I (l.length : Int))), (19, .tv (I i))], []⟩
noncomputable abbrev runQ (G : Tbl) (ps ks : List Nat) (n : Nat) (todo : List Item) (st : St) : Leaf := runP (some ps) G T pF.ntmps [] (fun _ => ks) n todo st

theorem pR7_eq : pR7 = .region (pid pR7) (pops pR7) false := by kernel_rfl
theorem p_entry (G : Tbl) (l : List Ac.D) (n : Int) : runQ G [999999] [0, 1, 4] 8 (bod pF) (entry [⟨LA, l⟩, I n]) =
    bif (bif (decide (n < 1)) then true else (decide (n > 8))) then .more [.code .ret, .code (cAt pF [1, 1])] ⟨[(0, .tv ⟨LA, l⟩), (1, .tv (I n)), (4, .ref 4)], [(4, .vec LI [])]⟩ else .more [.code pR3, .code pB] ⟨[(0, .tv ⟨LA, l⟩), (1, .tv (I n)), (4, .ref 4)], [(4, .vec LI [])]⟩ := by kernel_rfl
theorem p_ret (G : Tbl) (l : List Ac.D) (n : Int) : run G T pF.ntmps pF.results.toList (fun _ => []) 3 [.code .ret, .code (cAt pF [1, 1])] ⟨[(0, .tv ⟨LA, l⟩), (1, .tv (I n)), (4, .tv ⟨LLI, []⟩)], []⟩ = .ret (.tv ⟨LLI, []⟩) := by kernel_rfl
noncomputable def pS3 (l : List Ac.D) (n : Int) : St := ⟨[(0, .tv ⟨LA, l⟩), (1, .tv (I n))], []⟩
theorem p_start (G : Tbl) (l : List Ac.D) (n : Int) : runQ G [5, 999999] [1, 17, 18, 19] 20 [.code pB] (pS3 l n) = .loop pX pK (pS l n 0) := by kernel_rfl
noncomputable def pS7 (l : List Ac.D) (n i : Int) : St := ⟨[(1, .tv (I n)), (6, .tv (I i)), (7, .ptr 7 none []), (17, .tv ⟨LA, l⟩), (18, .tv (I (l.length : Int))), (19, .tv (I i))], [(7, .var ⟨Ac, l.getD i.toNat zA⟩)]⟩
noncomputable abbrev pK7 : List Item := .code pR7 :: .code pR8 :: .inBlock 1 :: .code pR9 :: .inLoop pX :: pK
theorem p_round (G : Tbl) (l : List Ac.D) (n i : Int) : runQ G [5, 999999] [1, 6, 7, 17, 18, 19] 10 (.code pX :: .inLoop pX :: pK) (pS l n i) =
    bif decide (i < (l.length : Int)) then bif inB i l.length then .more pK7 (pS7 l n i) else .fail else .fail := by kernel_rfl
theorem p_next (G : Tbl) (l : List Ac.D) (n i : Int) : runQ G [5, 999999] [1, 17, 18, 19] 10 (.inBlock 1 :: .code pR9 :: .inLoop pX :: pK) (pS l n i) = .loop pX pK (pS l n (w (i + 1))) := by kernel_rfl
noncomputable def pSE (l : List Ac.D) (n i : Int) (p : List (List Int)) : St := ⟨[(1, .tv (I n)), (5, .tv ⟨LLI, p⟩), (17, .tv ⟨LA, l⟩), (18, .tv (I (l.length : Int))), (19, .tv (I i))], []⟩
theorem p_final (G : Tbl) (l : List Ac.D) (n i : Int) (p : List (List Int)) : run G T pF.ntmps pF.results.toList (fun _ => [5]) 5 (.code pX :: .inLoop pX :: pK) (pSE l n i p) =
    bif decide (i < (l.length : Int)) then .more [.code (cAt pF [1, 1, 1, 0, 1, 0, 0, 1, 1]), .inLoop pX, .inBlock 0, .code pEnd] ⟨[(5, .tv ⟨LLI, p⟩)], []⟩ else .more [.code pEnd] ⟨[(5, .tv ⟨LLI, p⟩)], []⟩ := by kernel_rfl
theorem p_last (G : Tbl) (p : List (List Int)) : run G T pF.ntmps pF.results.toList (fun _ => []) 15 [.code pEnd] ⟨[(5, .tv ⟨LLI, p⟩)], []⟩ = .ret (.tv ⟨LLI, p⟩) := by kernel_rfl
end Go.Lift.V48
set_option maxRecDepth 100000
set_option linter.unusedVariables false
set_option linter.unusedSimpArgs false
namespace Go.Lift.V48
open Go.Lift Go.Proofs

theorem lenOK_spec {n : Nat} (h : lenOK n = true) : n ≤ lenBound := of_decide_eq_true h

/-! a row of rows: memory -/
section
variable {P : Program} {σ σ' : Store P} {w w' : World}
theorem opsIn_run {ops : Array Oper} {ro : Option Nat} {n i : Nat} {is : List Nat} {o : Oper} {a : Act} {Q : Exit → Act → World → Prop} {v : Value} (ho : ops[i]? = some o) (hg : o.guard = none) (hnd : ∀ c, o.op ≠ .defer c)
    (hrun : (execOp a.eval o).run P w = .ok (.value v) w') (h : wpOpsIn (fence ro) n P ops Q is (a.put o.dst v) w') : wpOpsIn (fence ro) n P ops Q (i :: is) a w := by
  refine opsIn_go ho (want_none hg) ⟨fun _ _ => trivial, ?_⟩
  rw [Oper.semAt_eq _ _ _ hnd, hrun]
  exact h
theorem opsIn_skip {ops : Array Oper} {ro : Option Nat} {n i : Nat} {is : List Nat} {o : Oper} {a : Act} {Q : Exit → Act → World → Prop} (ho : ops[i]? = some o) (hg : o.guard = none) (hd : o.dst = none) (hnd : ∀ c, o.op ≠ .defer c)
    (hrun : (execOp a.eval o).run P w = .ok .skip w') (h : wpOpsIn (fence ro) n P ops Q is a w') : wpOpsIn (fence ro) n P ops Q (i :: is) a w := by
  refine opsIn_go ho (want_none hg) ⟨fun _ _ => trivial, ?_⟩
  rw [Oper.semAt_eq _ _ _ hnd, hrun]
  simp only [Oper.uponIn, hd]
  exact h

theorem ownsRow_block {B t s n : Nat} {v : Value} {xs : List Value} (h : w.ownsRow B t s v n xs) (hb : ∀ b, hBlock v = some b → w'.heap[b]? = w.heap[b]?) : w'.ownsRow B t s v n xs := by
  refine ⟨h.1, ?_⟩
  rcases h.2 with e | ⟨g, cap, cur, e, h1, h2, h3⟩
  · exact .inl e
  · subst e
    exact .inr ⟨g, cap, cur, rfl, h1, (hb g rfl).trans h2, h3⟩
theorem ownsRow_hb {B t s n : Nat} {v : Value} {xs : List Value} (h : w.ownsRow B t s v n xs) : ∀ b, hBlock v = some b → B ≤ b ∧ b < w.heap.size := by
  intro b hb
  rcases h.2 with ⟨e, _⟩ | ⟨g, cap, cur, e, h1, h2, h3⟩
  · subst e; cases hb
  · subst e; cases hb
    exact ⟨h1, (Array.getElem?_eq_some_iff.1 h2).1⟩

/-- a row whose cells are vectors of numbers, each in a block of its own -/
structure PRow (B : Nat) (σ : Store P) (ls : List (List Int)) (g et : Nat) (cur : List Value) (w : World) : Prop where
  ge : B ≤ g
  free : σ g = none
  row : w.heap[g]? = some (.cells cur.toArray et (0, 0))
  len : cur.length = ls.length
  own : ∀ j, j < ls.length → ∃ tag, w.ownsRow B tag 1 (cur.getD j undef) (ls.getD j []).length ((ls.getD j []).map (Value.int .i64))
  away : ∀ j b, j < ls.length → hBlock (cur.getD j undef) = some b → b ≠ g ∧ σ b = none
  apart : ∀ i j b, i < ls.length → j < ls.length → i ≠ j → hBlock (cur.getD i undef) = some b → hBlock (cur.getD j undef) ≠ some b

theorem PRow.keep {B : Nat} {ls : List (List Int)} {g et : Nat} {cur : List Value} (h : PRow B σ ls g et cur w) (hb : ∀ b, b < w.heap.size → w'.heap[b]? = w.heap[b]?) (hn : ∀ b o, σ' b = some o → σ b = some o ∨ w.heap.size ≤ b) : PRow B σ' ls g et cur w' := by
  have hg : g < w.heap.size := (Array.getElem?_eq_some_iff.1 h.row).1
  have hno : ∀ b, b < w.heap.size → σ b = none → σ' b = none := fun b hb hs => by
    cases e : σ' b with
    | none => rfl
    | some o =>
      rcases hn b o e with h1 | h1
      · rw [hs] at h1; cases h1
      · omega
  refine ⟨h.ge, hno g hg h.free, (hb g hg).trans h.row, h.len, fun j hj => ?_, fun j b hj hb' => ?_, h.apart⟩
  · obtain ⟨tag, ho⟩ := h.own j hj
    exact ⟨tag, ownsRow_block ho fun b hb' => hb b (ownsRow_hb ho b hb').2⟩
  · obtain ⟨tag, ho⟩ := h.own j hj
    obtain ⟨h1, h2⟩ := h.away j b hj hb'
    exact ⟨h1, hno b (ownsRow_hb ho b hb').2 h2⟩

theorem getD_set {α : Type} (l : List α) (k j : Nat) (x d : α) (hk : k < l.length) : (l.set k x).getD j d = if j = k then x else l.getD j d := by
  simp only [List.getD, List.getElem?_set]
  by_cases e : j = k
  · subst e; simp [hk]
  · rw [if_neg (Ne.symm e), if_neg e]

/-- one element more in the vector of place k -/
theorem PRow.push {B : Nat} {ls : List (List Int)} {g et : Nat} {cur : List Value} (h : PRow B σ ls g et cur w) (hh : Holds w σ) (hB : B ≤ w.heap.size) {k : Nat} (hk : k < ls.length) (i : Int) (hlen : (ls.getD k []).length + 1 ≤ 17592186044416)
    {t : Nat} (ht : chk P LI t = true) (ty : Nat) {ad : Addr} {c : Nat} (hat : At w ad [Value.int .i64 i]) :
    ∃ v' w2, (Builtin.append_ #[t, t] ty #[cur.getD k undef, .slice (some ad) 1 c]).run P w = .ok v' w2 ∧
      (Instr.storeAt t (.pointer (some ⟨g, k, none⟩)) v').run P w2 = .ok () (w2.setRow g (cur.set k v').toArray) ∧ PRow B σ (ls.set k (ls.getD k [] ++ [i])) g et (cur.set k v') (w2.setRow g (cur.set k v').toArray) ∧
      Trans B σ w σ (w2.setRow g (cur.set k v').toArray) := by
  obtain ⟨et3, hu, hce, _⟩ := chk_slice ht
  obtain ⟨inf, z, k1, k2, k3, k4, k5, k6⟩ := enc_zero hce σ
  obtain ⟨tag, hown⟩ := h.own k hk
  have hg : g < w.heap.size := (Array.getElem?_eq_some_iff.1 h.row).1
  obtain ⟨v', w2, tag', hr, hown', hgrow, hblk⟩ := run_append_mine (P := P) (ty := ty) hu k1 k3 k2 k6 hown (m := 1) (c := c) (ad := some ad) (news := [Value.int .i64 i]) rfl (fun a ha => by cases ha; exact hat) (fun _ => ⟨_, rfl⟩) (by intro u hu'; simp at hu'; subst hu'; rfl) hlen (by
    have h8 : inf.bytes ≤ 8 := k5
    have := Nat.mul_le_mul_left ((ls.getD k []).length + 1) h8
    omega) hB
  have hmap : (ls.getD k []).map (Value.int .i64) ++ [Value.int .i64 i] = (ls.getD k [] ++ [i]).map (Value.int .i64) := by rw [List.map_append]; rfl
  have hown2 : w2.ownsRow B tag' 1 v' (ls.getD k [] ++ [i]).length ((ls.getD k [] ++ [i]).map (Value.int .i64)) := by
    rw [← hmap, List.length_append]; exact hown'
  have hxg : hBlock (cur.getD k undef) ≠ some g := fun e => (h.away k g hk e).1 rfl
  have hg2 : w2.heap[g]? = some (.cells cur.toArray et (0, 0)) := (hgrow.block g hg (Ne.symm hxg)).trans h.row
  -- what lay, but the vector's own block, lies as it lay
  have hkeep : ∀ b, b < w.heap.size → hBlock (cur.getD k undef) ≠ some b → w2.heap[b]? = w.heap[b]? := fun b hb hne => hgrow.block b hb (Ne.symm hne)
  have hvb : ∀ b, hBlock v' = some b → b ≠ g ∧ σ b = none := by
    intro b hb
    rcases hblk b hb with e | e
    · exact h.away k b hk e
    · subst e
      exact ⟨by omega, holds_new hh⟩
  have hcl : k < cur.length := by rw [h.len]; exact hk
  have hset : (cur.set k v') = cur.take k ++ [v'] ++ cur.drop (k + 1) := by
    rw [List.set_eq_take_append_cons_drop, if_pos hcl]; simp
  have hcur : cur.toArray.toList = cur.take k ++ [cur.getD k undef] ++ cur.drop (k + 1) := by
    have : cur.getD k undef = cur[k] := by simp [List.getD, List.getElem?_eq_getElem hcl]
    rw [this, List.append_assoc, List.singleton_append, List.getElem_cons_drop, List.take_append_drop]
  have hhs2 : Holds w2 σ := fun b o hb => by
    have hb' := hh b o hb
    rw [hkeep b (Array.getElem?_eq_some_iff.1 hb').1 fun e => by have := (h.away k b hk e).2; rw [hb] at this; cases this]
    exact hb'
  -- the new vector, as data of a store that holds all
  have hrel : RelV (P := P) (fun b => w2.heap[b]?) ⟨LI, ls.getD k [] ++ [i]⟩ v' := by
    refine box_slice' (σ := σ) (w := w2) (n0 := B) (fun b o hb => hhs2 b o hb) (fun g _ => rfl) ⟨tag', _, hown2, ?_, fun b hb => (hvb b hb).2, Nat.one_pos⟩
    have enc : ∀ l : List Int, EncL σ (.int .i64) l (l.map (Value.int .i64)) := by
      intro l
      induction l with
      | nil => rfl
      | cons x r ih => exact ⟨[Value.int .i64 x], _, rfl, rfl, ih⟩
    exact enc _
  have hcells : v'.cells.toList = [v'] := cells_of_not (by have := hrel.2; simpa [Ty.isAgg] using this)
  have hst := run_storeAt (P := P) ht hrel hg2 (off := k) hcur (by rw [List.length_take]; omega) rfl
  rw [hcells, ← hset] at hst
  refine ⟨v', w2, hr, hst, ?_, ?_⟩
  · have hset2 : ∀ b, b ≠ g → (w2.setRow g (cur.set k v').toArray).heap[b]? = w2.heap[b]? := fun b hb => setRow_other w2 g b _ hb
    refine ⟨h.ge, h.free, setRow_heap w2 g _ _ et _ hg2, by simp [h.len], fun j hj => ?_, fun j b hj hb => ?_, fun a b x ha hb hne hx => ?_⟩
    · rw [List.length_set] at hj
      rw [getD_set _ _ _ _ _ hk, getD_set _ _ _ _ _ hcl]
      by_cases e : j = k
      · rw [if_pos e, if_pos e]
        refine ⟨tag', ownsRow_block (w := w2) hown2 fun b hb => hset2 b (hvb b hb).1⟩
      · rw [if_neg e, if_neg e]
        obtain ⟨t2, ho⟩ := h.own j hj
        refine ⟨t2, ownsRow_block ho fun b hb => ?_⟩
        rw [hset2 b (h.away j b hj hb).1]
        exact hkeep b (ownsRow_hb ho b hb).2 (h.apart j k b hj hk e hb)
    · rw [List.length_set] at hj
      rw [getD_set _ _ _ _ _ hcl] at hb
      by_cases e : j = k
      · rw [if_pos e] at hb; exact hvb b hb
      · rw [if_neg e] at hb; exact h.away j b hj hb
    · rw [List.length_set] at ha hb
      rw [getD_set _ _ _ _ _ hcl] at hx ⊢
      have new : ∀ j, j < ls.length → j ≠ k → hBlock v' = some x → hBlock (cur.getD j undef) ≠ some x := by
        intro j hj hjk hv hc
        rcases hblk x hv with e | e
        · exact h.apart j k x hj hk hjk hc e
        · obtain ⟨t2, ho⟩ := h.own j hj
          have := (ownsRow_hb ho x hc).2
          omega
      by_cases e : a = k
      · have e' : b ≠ k := fun e2 => hne (e.trans e2.symm)
        rw [if_pos e] at hx
        rw [if_neg e']
        exact new b hb e' hx
      · rw [if_neg e] at hx
        by_cases e' : b = k
        · rw [if_pos e']
          intro hv
          exact new a ha e hv hx
        · rw [if_neg e']; exact h.apart a b x ha hb hne hx
  · have hgB := h.ge
    have hblkB : ∀ b, hBlock (cur.getD k undef) = some b → B ≤ b := fun b hb => (ownsRow_hb hown b hb).1
    have hcellk : ∀ b o, hBlock (cur.getD k undef) = some b → w.heap[b]? = some o → noCells o = false := by
      intro b o hb ho
      rcases hown.2 with ⟨e, _⟩ | ⟨g', cap, cu, e, h1, h2, h3⟩
      · rw [e] at hb; cases hb
      · rw [e] at hb; cases hb
        rw [h2] at ho; cases ho; rfl
    refine ⟨Store.le.refl σ, fun b o hb => ?_, fun _ _ h => .inl h, ?_, fun b hb hc => ?_, hgrow.os, hgrow.output, hgrow.tape⟩
    · rw [setRow_other w2 g b _ (fun e => by subst e; rw [h.free] at hb; cases hb)]
      exact hhs2 b o hb
    · have := hgrow.size
      simpa [World.setRow] using this
    · have hne : b ≠ g := by
        rintro rfl
        rcases hc with hc | ⟨o, h1, h2⟩
        · omega
        · rw [h.row] at h1; cases h1; cases h2
      rw [setRow_other w2 g b _ hne]
      refine hkeep b hb fun e => ?_
      rcases hc with hc | ⟨o, h1, h2⟩
      · have := hblkB b e; omega
      · rw [hcellk b o e h1] at h2; cases h2
end
end Go.Lift.V48
set_option maxRecDepth 100000
set_option linter.unusedVariables false
set_option linter.unusedSimpArgs false
namespace Go.Lift.V48
open Go.Lift Go.Proofs

/-! the operations of the regions that make and fill the rows -/
noncomputable def q3 (i : Nat) : Oper := match (pops pR3).toList[i]? with | some o => o | none => default
noncomputable def q7 (i : Nat) : Oper := match (pops pR7).toList[i]? with | some o => o | none => default
noncomputable def q8 (i : Nat) : Oper := match (pops pR8).toList[i]? with | some o => o | none => default
theorem q3at (k : Nat) (h : k < 3) : (pops pR3)[k]? = some (q3 k) := by
  have e : (pops pR3).toList.length = 3 := by kernel_rfl
  unfold q3
  have h2 : (pops pR3).toList[k]? = some ((pops pR3).toList[k]'(by omega)) := by simp [h, e]
  rw [h2]; simp
theorem q7at (k : Nat) (h : k < 6) : (pops pR7)[k]? = some (q7 k) := by
  have e : (pops pR7).toList.length = 6 := by kernel_rfl
  unfold q7
  have h2 : (pops pR7).toList[k]? = some ((pops pR7).toList[k]'(by omega)) := by simp [h, e]
  rw [h2]; simp
theorem q8at (k : Nat) (h : k < 11) : (pops pR8)[k]? = some (q8 k) := by
  have e : (pops pR8).toList.length = 11 := by kernel_rfl
  unfold q8
  have h2 : (pops pR8).toList[k]? = some ((pops pR8).toList[k]'(by omega)) := by simp [h, e]
  rw [h2]; simp
theorem q3n : (pops pR3).size = 3 := by kernel_rfl
theorem q7n : (pops pR7).size = 6 := by kernel_rfl
theorem q8n : (pops pR8).size = 11 := by kernel_rfl
theorem q3o0 : (q3 0).op = .move (.tmp 1) := by kernel_rfl
theorem q3o1 : (q3 1).op = .makeSlice 29 (.tmp 15) (.tmp 15) := by kernel_rfl
theorem q3o2 : (q3 2).op = .assign (.tmp 16) := by kernel_rfl
theorem q3d0 : (q3 0).dst = some 15 := by kernel_rfl
theorem q3d1 : (q3 1).dst = some 16 := by kernel_rfl
theorem q3d2 : (q3 2).dst = some 5 := by kernel_rfl
theorem q3g0 : (q3 0).guard = none := by kernel_rfl
theorem q3g1 : (q3 1).guard = none := by kernel_rfl
theorem q3g2 : (q3 2).guard = none := by kernel_rfl
theorem q8o0 : (q8 0).op = .move (.tmp 5) := by kernel_rfl
theorem q8o1 : (q8 1).op = .move (.tmp 8) := by kernel_rfl
theorem q8o2 : (q8 2).op = .move (.tmp 5) := by kernel_rfl
theorem q8o3 : (q8 3).op = .move (.tmp 8) := by kernel_rfl
theorem q8o4 : (q8 4).op = .indexAddr 29 (.tmp 31) (.tmp 32) := by kernel_rfl
theorem q8o5 : (q8 5).op = .load 25 (.tmp 33) := by kernel_rfl
theorem q8o6 : (q8 6).op = .move (.tmp 6) := by kernel_rfl
theorem q8o7 : (q8 7).op = .buildSlice 25 1 #[(0, .tmp 35)] := by kernel_rfl
theorem q8o8 : (q8 8).op = .call { callee := .builtin .append, args := #[.tmp 34, .tmp 36], argTypes := #[25, 25] } := by kernel_rfl
theorem q8o9 : (q8 9).op = .indexAddr 29 (.tmp 29) (.tmp 30) := by kernel_rfl
theorem q8o10 : (q8 10).op = .store 25 (.tmp 38) (.tmp 37) := by kernel_rfl
theorem q8d0 : (q8 0).dst = some 29 := by kernel_rfl
theorem q8d1 : (q8 1).dst = some 30 := by kernel_rfl
theorem q8d2 : (q8 2).dst = some 31 := by kernel_rfl
theorem q8d3 : (q8 3).dst = some 32 := by kernel_rfl
theorem q8d4 : (q8 4).dst = some 33 := by kernel_rfl
theorem q8d5 : (q8 5).dst = some 34 := by kernel_rfl
theorem q8d6 : (q8 6).dst = some 35 := by kernel_rfl
theorem q8d7 : (q8 7).dst = some 36 := by kernel_rfl
theorem q8d8 : (q8 8).dst = some 37 := by kernel_rfl
theorem q8d9 : (q8 9).dst = some 38 := by kernel_rfl
theorem q8d10 : (q8 10).dst = none := by kernel_rfl
theorem q8g0 : (q8 0).guard = none := by kernel_rfl
theorem q8g1 : (q8 1).guard = none := by kernel_rfl
theorem q8g2 : (q8 2).guard = none := by kernel_rfl
theorem q8g3 : (q8 3).guard = none := by kernel_rfl
theorem q8g4 : (q8 4).guard = none := by kernel_rfl
theorem q8g5 : (q8 5).guard = none := by kernel_rfl
theorem q8g6 : (q8 6).guard = none := by kernel_rfl
theorem q8g7 : (q8 7).guard = none := by kernel_rfl
theorem q8g8 : (q8 8).guard = none := by kernel_rfl
theorem q8g9 : (q8 9).guard = none := by kernel_rfl
theorem q8g10 : (q8 10).guard = none := by kernel_rfl
theorem q7d0 : (q7 0).dst = some 24 := by kernel_rfl
theorem q7d1 : (q7 1).dst = some 25 := by kernel_rfl
theorem q7d2 : (q7 2).dst = some 26 := by kernel_rfl
theorem q7d3 : (q7 3).dst = some 27 := by kernel_rfl
theorem q7d4 : (q7 4).dst = some 28 := by kernel_rfl
theorem q7d5 : (q7 5).dst = some 8 := by kernel_rfl
theorem q7g0 : (q7 0).guard = none := by kernel_rfl
theorem q7g1 : (q7 1).guard = none := by kernel_rfl
theorem q7g2 : (q7 2).guard = none := by kernel_rfl
theorem q7g3 : (q7 3).guard = none := by kernel_rfl
theorem q7g4 : (q7 4).guard = none := by kernel_rfl
theorem q7g5 : (q7 5).guard = none := by kernel_rfl
def opKind : Op → Nat
  | .defer _ => 1
  | _ => 0
theorem nd_of {o : Oper} (h : opKind o.op = 0) : ∀ c, o.op ≠ .defer c := fun c e => by rw [e] at h; cases h
theorem q7n0 : opKind (q7 0).op = 0 := by kernel_rfl
theorem q7n1 : opKind (q7 1).op = 0 := by kernel_rfl
theorem q7n2 : opKind (q7 2).op = 0 := by kernel_rfl
theorem q7n3 : opKind (q7 3).op = 0 := by kernel_rfl
theorem q7n4 : opKind (q7 4).op = 0 := by kernel_rfl
theorem q7n5 : opKind (q7 5).op = 0 := by kernel_rfl
theorem pN : pF.ntmps = 41 := by kernel_rfl
section
variable (G : Tbl) (k7 : Int → Int → Bool) (r7 : Int → Int → Int) (l : List Ac.D) (n i : Int)
noncomputable abbrev hO (l : List Ac.D) (i : Int) : Int := (l.getD i.toNat zA).1.1
noncomputable def t0 : St := pS7 l n i
noncomputable def t1 : St := (t0 l n i).put (some 24) (.ptr 7 none [0])
noncomputable def t2 : St := (t1 l n i).put (some 25) (.ptr 7 none [0, 0])
noncomputable def t3 : St := (t2 l n i).put (some 26) (.tv (I (hO l i)))
noncomputable def t4 : St := (t3 l n i).put (some 27) (.tv (I n))
noncomputable def t5 : St := (t4 l n i).put (some 28) (.tv (I (r7 (hO l i) n)))
noncomputable def t6 : St := (t5 r7 l n i).put (some 8) (.tv (I (r7 (hO l i) n)))
theorem u0 : opVal (GP k7 r7) T (t0 l n i).bx (opd (t0 l n i)) (q7 0) = some (true, .ptr 7 none [0]) := by kernel_rfl
theorem u1 : opVal (GP k7 r7) T (t1 l n i).bx (opd (t1 l n i)) (q7 1) = some (true, .ptr 7 none [0, 0]) := by kernel_rfl
theorem u2 : opVal (GP k7 r7) T (t2 l n i).bx (opd (t2 l n i)) (q7 2) = some (true, .tv (I (hO l i))) := by kernel_rfl
theorem u3 : opVal (GP k7 r7) T (t3 l n i).bx (opd (t3 l n i)) (q7 3) = some (true, .tv (I n)) := by kernel_rfl
theorem u4 : opVal (GP k7 r7) T (t4 l n i).bx (opd (t4 l n i)) (q7 4) = some (k7 (hO l i) n, .tv (I (r7 (hO l i) n))) := by kernel_rfl
theorem u5 : opVal (GP k7 r7) T (t5 r7 l n i).bx (opd (t5 r7 l n i)) (q7 5) = some (true, .tv (I (r7 (hO l i) n))) := by kernel_rfl
theorem t6l1 : look 1 (t6 r7 l n i).sl = some (.tv (I n)) := by kernel_rfl
theorem t6l6 : look 6 (t6 r7 l n i).sl = some (.tv (I i)) := by kernel_rfl
theorem t6l8 : look 8 (t6 r7 l n i).sl = some (.tv (I (r7 (hO l i) n))) := by kernel_rfl
theorem t6l17 : look 17 (t6 r7 l n i).sl = some (.tv ⟨LA, l⟩) := by kernel_rfl
theorem t6l18 : look 18 (t6 r7 l n i).sl = some (.tv (I (l.length : Int))) := by kernel_rfl
theorem t6l19 : look 19 (t6 r7 l n i).sl = some (.tv (I i)) := by kernel_rfl
end
end Go.Lift.V48
set_option maxRecDepth 100000
set_option linter.unusedVariables false
set_option linter.unusedSimpArgs false
namespace Go.Lift.V48
open Go.Lift Go.Proofs

theorem put_facts {a : Act} {d : Nat} {v : Value} (hz : a.tmps.size = 41) (hd : d < 41) :
    (a.put (some d) v).tmps.size = 41 ∧ (∀ k, k ≠ d → (a.put (some d) v).tmps.getD k undef = a.tmps.getD k undef) ∧ (a.put (some d) v).tmps.getD d undef = v ∧ (a.put (some d) v).defers = a.defers := by
  refine ⟨by rw [put_size]; exact hz, fun k hk => ?_, ?_, by rw [put_defers]⟩
  · rw [getD_put (by omega), if_neg hk]
  · rw [getD_put (by omega), if_pos rfl]
theorem ev_tmp (a : Act) (k : Nat) : a.eval (.tmp k) = a.tmps.getD k undef := rfl
theorem run_move {P : Program} {o : Oper} {a : Act} {w : World} {k : Nat} (h : o.op = .move (.tmp k)) : (execOp a.eval o).run P w = .ok (.value (a.tmps.getD k undef)) w := by
  simp [execOp, h, ev_tmp]
theorem run_assign {P : Program} {o : Oper} {a : Act} {w : World} {k : Nat} (h : o.op = .assign (.tmp k)) : (execOp a.eval o).run P w = .ok (.value (a.tmps.getD k undef)) w := by
  simp [execOp, h, ev_tmp]

theorem chkLLI : chk Try.prog LLI 29 = true := types 29 LLI nmB
theorem chkLI : chk Try.prog LI 25 = true := types 25 LI nmC
theorem und29 : Try.prog.underlying 29 = some (.slice 25) := by kernel_rfl
theorem inf25 : (Try.prog.info? 25).map (fun i => (i.zero, i.size, i.bytes)) = some (some (.slice none 0 0), 1, 24) := by kernel_rfl

theorem PRow.start {σ : Store Try.prog} {w : World} (hh : Holds w σ) {B : Nat} (hB : B ≤ w.heap.size) (m et : Nat) :
    PRow B σ (List.replicate m []) w.heap.size et (List.replicate m (.slice none 0 0)) (w.alloc (.cells (List.replicate m (Value.slice none 0 0)).toArray et)) := by
  have hg : ∀ j, j < m → (List.replicate m (Value.slice none 0 0)).getD j undef = .slice none 0 0 := fun j hj => by simp [List.getD, hj]
  have hl : ∀ j, (List.replicate m ([] : List Int)).getD j [] = [] := fun j => by
    simp only [List.getD, List.getElem?_replicate]; split <;> rfl
  refine ⟨hB, holds_new hh, allocNew w _, by simp, fun j hj => ⟨et, ?_⟩, fun j b hj hb => ?_, fun i j b hi hj _ hb => ?_⟩
  · rw [List.length_replicate] at hj
    rw [hg j hj, hl j]
    exact World.ownsRow_nil _ _ _ _
  · rw [List.length_replicate] at hj
    rw [hg j hj] at hb; cases hb
  · rw [List.length_replicate] at hi
    rw [hg i hi] at hb; cases hb

/-- 'out := make([][]int, n)' -/
theorem reg3 {σ : Store Try.prog} {w : World} {a : Act} (hh : Holds w σ) {B : Nat} (hB : B ≤ w.heap.size) (hz : a.tmps.size = 41) {m : Nat} (hm : m ≤ 8) (h1 : a.tmps.getD 1 undef = .int .i64 m) :
    wpOpsIn (fence none) 0 Try.prog (pops pR3) (fun e a' w' => e = .normal ∧ a'.tmps.size = 41 ∧ a'.defers = a.defers ∧ a'.tmps.getD 0 undef = a.tmps.getD 0 undef ∧ a'.tmps.getD 1 undef = .int .i64 m ∧
      a'.tmps.getD 5 undef = .slice (some ⟨w.heap.size, 0, none⟩) m m ∧ Step σ w σ w' ∧ PRow B σ (List.replicate m []) w.heap.size 25 (List.replicate m (.slice none 0 0)) w') [0, 1, 2] a w := by
  obtain ⟨inf, k1, k3, k2, k4⟩ := info_parts inf25
  refine opsIn_run (q3at 0 (by omega)) q3g0 (by rw [q3o0]; simp) (run_move q3o0) ?_
  rw [q3d0, h1]
  obtain ⟨z1, f1, s1, d1⟩ := put_facts (v := .int .i64 m) hz (d := 15) (by omega)
  generalize a.put (some 15) (.int .i64 m) = a1 at *
  have hr := run_make (P := Try.prog) w 29 25 inf (.slice none 0 0) und29 k1 k3 .i64 .i64 m m (by omega) (Int.le_refl _) (by rw [k4]; omega) (by omega)
  have hr' : (execOp a1.eval (q3 1)).run Try.prog w = .ok (.value (.slice (some ⟨w.heap.size, 0, none⟩) m m)) (w.alloc (.cells (List.replicate m (Value.slice none 0 0)).toArray 25)) := by
    have e : madeCells (Value.slice none 0 0).cells ((m : Int).toNat * inf.size) = (List.replicate m (Value.slice none 0 0)).toArray := by
      apply Array.toList_inj.1
      rw [madeCells_list, k2, Int.toNat_natCast, Nat.mul_one]
      apply List.ext_getElem
      · simp
      · intro j h1 h2
        simp [Value.cells, Nat.mod_one]
    rw [e] at hr
    simp [execOp, q3o1, ev_tmp, s1, hr]
  refine opsIn_run (q3at 1 (by omega)) q3g1 (by rw [q3o1]; simp) hr' ?_
  rw [q3d1]
  obtain ⟨z2, f2, s2, d2⟩ := put_facts (v := .slice (some ⟨w.heap.size, 0, none⟩) m m) z1 (d := 16) (by omega)
  generalize a1.put (some 16) (.slice (some ⟨w.heap.size, 0, none⟩) m m) = a2 at *
  refine opsIn_run (q3at 2 (by omega)) q3g2 (by rw [q3o2]; simp) (run_assign q3o2) ?_
  rw [q3d2, s2]
  obtain ⟨z3, f3, s3, d3⟩ := put_facts (v := .slice (some ⟨w.heap.size, 0, none⟩) m m) z2 (d := 5) (by omega)
  generalize a2.put (some 5) (.slice (some ⟨w.heap.size, 0, none⟩) m m) = a3 at *
  simp only [wpOpsIn]
  exact ⟨trivial, z3, by rw [d3, d2, d1], by rw [f3 0 (by omega), f2 0 (by omega), f1 0 (by omega)], by rw [f3 1 (by omega), f2 1 (by omega), f1 1 (by omega), h1], s3, step_alloc hh _, PRow.start hh hB m 25⟩

/-- 'k := Of(a.Household.Id, n)' -/
theorem reg7 {k7 : Int → Int → Bool} {r7 : Int → Int → Int} (hE : Env Try.prog T (GP k7 r7)) {σ : Store Try.prog} {w : World} {a : Act} {H : Nat → Value} {n0 : Nat} (l : List Ac.D) (n i : Int) (hk : k7 (hO l i) n = true) (hR : Rel (fun _ => True) pF.ntmps n0 σ H (t0 l n i) a w) :
    wpOpsIn (fence none) 0 Try.prog (pops pR7) (fun e a' w' => e = .normal ∧ ∃ σ', Step σ w σ' w' ∧ a'.tmps.size = 41 ∧ a'.defers = a.defers ∧ a'.tmps.getD 5 undef = a.tmps.getD 5 undef ∧ a'.tmps.getD 1 undef = .int .i64 n ∧ a'.tmps.getD 6 undef = .int .i64 i ∧
      a'.tmps.getD 8 undef = .int .i64 (r7 (hO l i) n) ∧ RelV σ' ⟨LA, l⟩ (a'.tmps.getD 17 undef) ∧ a'.tmps.getD 18 undef = .int .i64 l.length ∧ a'.tmps.getD 19 undef = .int .i64 i) [0, 1, 2, 3, 4, 5] a w := by
  obtain ⟨Q, hQe⟩ : ∃ Q : Exit → Act → World → Prop, Q = fun e a' w' => e = .normal ∧ ∃ σ', Step σ w σ' w' ∧ a'.tmps.size = 41 ∧ a'.defers = a.defers ∧ a'.tmps.getD 5 undef = a.tmps.getD 5 undef ∧ a'.tmps.getD 1 undef = .int .i64 n ∧ a'.tmps.getD 6 undef = .int .i64 i ∧
      a'.tmps.getD 8 undef = .int .i64 (r7 (hO l i) n) ∧ RelV σ' ⟨LA, l⟩ (a'.tmps.getD 17 undef) ∧ a'.tmps.getD 18 undef = .int .i64 l.length ∧ a'.tmps.getD 19 undef = .int .i64 i := ⟨_, rfl⟩
  rw [← hQe]
  have hQ : ∀ a w, ¬ Q .outgrown a w := by rw [hQe]; rintro _ _ ⟨h, _⟩; cases h
  have dk : ∀ d : Nat, d < 41 → dstOK pF.ntmps (some d) := fun d hd j hj => by cases hj; rw [pN]; exact hd
  have z0 : a.tmps.size = 41 := hR.size.trans pN
  refine opsIn_val hE (q7at 0 (by omega)) (want_none q7g0) (nd_of q7n0) hQ hR (u0 k7 r7 l n i) (by rw [q7d0]; exact dk _ (by omega)) fun v1 σ1 w1 p1 _ R1 => ?_
  rw [q7d0] at R1 ⊢
  obtain ⟨z1, f1, _, d1⟩ := put_facts (v := v1) z0 (d := 24) (by omega)
  generalize a.put (some 24) v1 = a1 at *
  refine opsIn_val hE (q7at 1 (by omega)) (want_none q7g1) (nd_of q7n1) hQ R1 (u1 k7 r7 l n i) (by rw [q7d1]; exact dk _ (by omega)) fun v2 σ2 w2 p2 _ R2 => ?_
  rw [q7d1] at R2 ⊢
  obtain ⟨z2, f2, _, d2⟩ := put_facts (v := v2) z1 (d := 25) (by omega)
  generalize a1.put (some 25) v2 = a2 at *
  refine opsIn_val hE (q7at 2 (by omega)) (want_none q7g2) (nd_of q7n2) hQ R2 (u2 k7 r7 l n i) (by rw [q7d2]; exact dk _ (by omega)) fun v3 σ3 w3 p3 _ R3 => ?_
  rw [q7d2] at R3 ⊢
  obtain ⟨z3, f3, _, d3⟩ := put_facts (v := v3) z2 (d := 26) (by omega)
  generalize a2.put (some 26) v3 = a3 at *
  refine opsIn_val hE (q7at 3 (by omega)) (want_none q7g3) (nd_of q7n3) hQ R3 (u3 k7 r7 l n i) (by rw [q7d3]; exact dk _ (by omega)) fun v4 σ4 w4 p4 _ R4 => ?_
  rw [q7d3] at R4 ⊢
  obtain ⟨z4, f4, _, d4⟩ := put_facts (v := v4) z3 (d := 27) (by omega)
  generalize a3.put (some 27) v4 = a4 at *
  refine opsIn_val hE (q7at 4 (by omega)) (want_none q7g4) (nd_of q7n4) hQ R4 ((u4 k7 r7 l n i).trans (by rw [hk])) (by rw [q7d4]; exact dk _ (by omega)) fun v5 σ5 w5 p5 _ R5 => ?_
  rw [q7d4] at R5 ⊢
  obtain ⟨z5, f5, _, d5⟩ := put_facts (v := v5) z4 (d := 28) (by omega)
  generalize a4.put (some 28) v5 = a5 at *
  refine opsIn_val hE (q7at 5 (by omega)) (want_none q7g5) (nd_of q7n5) hQ R5 (u5 k7 r7 l n i) (by rw [q7d5]; exact dk _ (by omega)) fun v6 σ6 w6 p6 _ R6 => ?_
  rw [q7d5] at R6 ⊢
  obtain ⟨z6, f6, _, d6⟩ := put_facts (v := v6) z5 (d := 8) (by omega)
  generalize a5.put (some 8) v6 = a6 at *
  have R : Rel (fun _ => True) pF.ntmps n0 σ6 H (t6 r7 l n i) a6 w6 := R6
  simp only [wpOpsIn]
  rw [hQe]
  exact ⟨rfl, σ6, ((((p1.tr p2).tr p3).tr p4).tr p5).tr p6, z6, by rw [d6, d5, d4, d3, d2, d1], by rw [f6 5 (by omega), f5 5 (by omega), f4 5 (by omega), f3 5 (by omega), f2 5 (by omega), f1 5 (by omega)],
    svr_int (R.slot 1 _ (t6l1 r7 l n i) trivial), svr_int (R.slot 6 _ (t6l6 r7 l n i) trivial), svr_int (R.slot 8 _ (t6l8 r7 l n i) trivial), R.slot 17 _ (t6l17 r7 l n i) trivial, svr_int (R.slot 18 _ (t6l18 r7 l n i) trivial), svr_int (R.slot 19 _ (t6l19 r7 l n i) trivial)⟩
end Go.Lift.V48
set_option maxRecDepth 100000
set_option linter.unusedVariables false
set_option linter.unusedSimpArgs false
namespace Go.Lift.V48
open Go.Lift Go.Proofs

theorem run_load1 {P : Program} {w : World} {t : Ty} {ty : Nat} (h : chk P t ty = true) (hag : t.isAgg = false) {a : Addr} {u : Value} (ha : w.cell? a = some u) : (Instr.loadAt ty (.pointer (some a))).run P w = .ok u w := by
  unfold Instr.loadAt Instr.sureAddr loadVar
  simp only [Sem.run_bind, Sem.run_pure, Result.andThen_ok, run_isAgg h, hag]
  simp [ha]

/-- 'out[k] = append(out[k], i)' -/
theorem reg8 {σ : Store Try.prog} {w : World} {a : Act} {B g et : Nat} {ls : List (List Int)} {cur : List Value} (hP : PRow B σ ls g et cur w) (hh : Holds w σ) (hB : B ≤ w.heap.size) (hz : a.tmps.size = 41) (hd : a.defers = []) {k : Nat} (hk : k < ls.length) (i : Int)
    (hlen : (ls.getD k []).length + 1 ≤ 17592186044416) {cp : Nat} (h5 : a.tmps.getD 5 undef = .slice (some ⟨g, 0, none⟩) ls.length cp) (h6 : a.tmps.getD 6 undef = .int .i64 i) (h8 : a.tmps.getD 8 undef = .int .i64 k) :
    wpOpsIn (fence none) 0 Try.prog (pops pR8) (fun e a' w' => e = .normal ∧ a'.tmps.size = 41 ∧ a'.defers = [] ∧ (∀ j, j < 29 → a'.tmps.getD j undef = a.tmps.getD j undef) ∧ ∃ cur', PRow B σ (ls.set k (ls.getD k [] ++ [i])) g et cur' w' ∧ Trans B σ w σ w') [0, 1, 2, 3, 4, 5, 6, 7, 8, 9, 10] a w := by
  have hcl : k < cur.length := by rw [hP.len]; exact hk
  refine opsIn_run (q8at 0 (by omega)) q8g0 (by rw [q8o0]; simp) (run_move q8o0) ?_
  rw [q8d0, h5]
  obtain ⟨z1, f1, s1, d1⟩ := put_facts (v := .slice (some ⟨g, 0, none⟩) ls.length cp) hz (d := 29) (by omega)
  generalize a.put (some 29) (.slice (some ⟨g, 0, none⟩) ls.length cp) = a1 at *
  refine opsIn_run (q8at 1 (by omega)) q8g1 (by rw [q8o1]; simp) (run_move q8o1) ?_
  rw [q8d1, f1 8 (by omega), h8]
  obtain ⟨z2, f2, s2, d2⟩ := put_facts (v := .int .i64 k) z1 (d := 30) (by omega)
  generalize a1.put (some 30) (.int .i64 k) = a2 at *
  refine opsIn_run (q8at 2 (by omega)) q8g2 (by rw [q8o2]; simp) (run_move q8o2) ?_
  rw [q8d2, f2 5 (by omega), f1 5 (by omega), h5]
  obtain ⟨z3, f3, s3, d3⟩ := put_facts (v := .slice (some ⟨g, 0, none⟩) ls.length cp) z2 (d := 31) (by omega)
  generalize a2.put (some 31) (.slice (some ⟨g, 0, none⟩) ls.length cp) = a3 at *
  refine opsIn_run (q8at 3 (by omega)) q8g3 (by rw [q8o3]; simp) (run_move q8o3) ?_
  rw [q8d3, f3 8 (by omega), f2 8 (by omega), f1 8 (by omega), h8]
  obtain ⟨z4, f4, s4, d4⟩ := put_facts (v := .int .i64 k) z3 (d := 32) (by omega)
  generalize a3.put (some 32) (.int .i64 k) = a4 at *
  have hidx : ∀ w : World, (Instr.indexAt 29 (.slice (some ⟨g, 0, none⟩) ls.length cp) (.int .i64 k)).run Try.prog w = .ok (.pointer (some ⟨g, k, none⟩)) w := fun w => by
    have := run_indexAt (P := Try.prog) (w := w) und29 chkLI ⟨g, 0, none⟩ ls.length cp .i64 (k : Int) (by omega) (by omega)
    rw [this, Int.toNat_natCast, addr_lit]
    show Result.ok (Value.pointer (some ⟨g, 0 + k * 1, none⟩)) w = _
    rw [Nat.mul_one, Nat.zero_add]
  have r5 : (execOp a4.eval (q8 4)).run Try.prog w = .ok (.value (.pointer (some ⟨g, k, none⟩))) w := by
    simp [execOp, q8o4, ev_tmp, s4, f4 31 (by omega), s3, hidx]
  refine opsIn_run (q8at 4 (by omega)) q8g4 (by rw [q8o4]; simp) r5 ?_
  rw [q8d4]
  obtain ⟨z5, f5, s5, d5⟩ := put_facts (v := .pointer (some ⟨g, k, none⟩)) z4 (d := 33) (by omega)
  generalize a4.put (some 33) (.pointer (some ⟨g, k, none⟩)) = a5 at *
  have hcell : w.cell? ⟨g, k, none⟩ = some (cur.getD k undef) := by
    simp [World.cell?, hP.row, List.getD, List.getElem?_eq_getElem hcl]
  have r6 : (execOp a5.eval (q8 5)).run Try.prog w = .ok (.value (cur.getD k undef)) w := by
    have := run_load1 (w := w) chkLI rfl hcell
    simp only [execOp, q8o5, ev_tmp, s5, Sem.run_bind, this, Result.andThen_ok, Sem.run_pure]
  refine opsIn_run (q8at 5 (by omega)) q8g5 (by rw [q8o5]; simp) r6 ?_
  rw [q8d5]
  obtain ⟨z6, f6, s6, d6⟩ := put_facts (v := cur.getD k undef) z5 (d := 34) (by omega)
  generalize a5.put (some 34) (cur.getD k undef) = a6 at *
  refine opsIn_run (q8at 6 (by omega)) q8g6 (by rw [q8o6]; simp) (run_move q8o6) ?_
  rw [q8d6, f6 6 (by omega), f5 6 (by omega), f4 6 (by omega), f3 6 (by omega), f2 6 (by omega), f1 6 (by omega), h6]
  obtain ⟨z7, f7, s7, d7⟩ := put_facts (v := .int .i64 i) z6 (d := 35) (by omega)
  generalize a6.put (some 35) (.int .i64 i) = a7 at *
  -- the new element's slice
  have hd7 : a7.defers = [] := by rw [d7, d6, d5, d4, d3, d2, d1, hd]
  have hR7 : Rel (fun _ => True) 41 w.heap.size σ (fun _ => undef) ⟨[(35, .tv (I i))], []⟩ a7 w := by
    refine ⟨hh, z7, by rw [hd7]; trivial, Nat.le_refl _, fun k b hk => by simp [look] at hk, fun k k' b b' g hk => by simp [look] at hk, fun k s hk _ => ?_⟩
    simp only [look] at hk
    cases e : Nat.beq 35 k with
    | false => rw [e] at hk; cases hk
    | true =>
      rw [e] at hk
      have := Nat.eq_of_beq_eq_true e; subst this
      simp only [cond_true, Option.some.injEq] at hk
      subst hk
      show RelV σ _ _
      rw [s7]; exact relV_int _ _ _
  have hnq : ∀ (Q : Exit → Act → World → Prop), (∀ a w, ¬ Q .outgrown a w) → (∀ v σ' w' H', Trans w.heap.size σ w σ' w' → Rel (fun _ => True) 41 w.heap.size σ' H' ((⟨[(35, .tv (I i))], []⟩ : St).newBox 36 (.vec (.int .i64) [i]) (.ref 36)) (a7.put (some 36) v) w' →
      wpOpsIn (fence none) 0 Try.prog (pops pR8) Q [8, 9, 10] (a7.put (some 36) v) w') → wpOpsIn (fence none) 0 Try.prog (pops pR8) Q [7, 8, 9, 10] a7 w := by
    intro Q hQ hn
    refine opsIn_go (q8at 7 (by omega)) (want_none q8g7) (wpIn_of_wp (by rw [q8o7]; simp) hQ ?_)
    refine eff_buildSlice hR7 q8o7 q8d7 (by omega) chkLI rfl (fun _ _ _ _ _ => trivial) (l := [i]) rfl _ _ fun v σ' w' t ⟨H', r⟩ => ?_
    rw [q8d7] at r ⊢
    exact hn v σ' w' H' t r
  refine hnq _ (by rintro _ _ ⟨h, _⟩; cases h) fun v8 σ8 w8 H8 t8 R8 => ?_
  obtain ⟨z8, f8, s8, d8⟩ := put_facts (v := v8) z7 (d := 36) (by omega)
  have hv8 : SVR σ8 _ H8 (.ref 36) ((a7.put (some 36) v8).tmps.getD 36 undef) := R8.slot 36 _ rfl trivial
  rw [s8] at hv8
  obtain ⟨_, _, _, e8⟩ := hv8
  have hb8 := R8.box 36 (.vec (.int .i64) [i]) rfl
  rw [← e8] at hb8
  obtain ⟨ety8, xs8, own8, enc8, sg8, _⟩ := hb8
  obtain ⟨g8, cap8, cur8, ev8, hg8, hn8, hc8, ht8, hb8⟩ := ownsRow_inv own8 Nat.one_pos
  have hxs8 : xs8 = [Value.int .i64 i] := by
    obtain ⟨c, r, e1, e2, e3⟩ := enc8
    have e2' : c = [Value.int .i64 i] := e2
    have e3' : r = [] := e3
    rw [e1, e2', e3']; rfl
  generalize a7.put (some 36) v8 = a8 at *
  subst ev8
  have hP8 : PRow B σ ls g et cur w8 := hP.keep (fun b hb => t8.block b hb (.inl hb)) (fun b o h => .inl h)
  have hh8 : Holds w8 σ := fun b o hb => t8.holds b o (t8.le b o hb)
  have hB8 : B ≤ w8.heap.size := Nat.le_trans hB t8.size
  have hat8 : At w8 ⟨g8, 0, none⟩ [Value.int .i64 i] := by
    rw [← hxs8, ← ht8]
    intro j u hj
    rw [addr_lit, cell_of_row w8 g8 _ cur8 ety8 (0, 0) hg8, Nat.zero_add, ← Array.getElem?_toList]
    rw [List.getElem?_take] at hj
    split at hj
    · exact hj
    · cases hj
  obtain ⟨v9, w9, ra, rs, hP9, t9⟩ := hP8.push hh8 hB8 hk i hlen chkLI (q8 8).type (c := cap8) hat8
  have r9 : (execOp a8.eval (q8 8)).run Try.prog w8 = .ok (.value v9) w9 := by
    have e34 : a8.tmps.getD 34 undef = cur.getD k undef := by rw [f8 34 (by omega), f7 34 (by omega), s6]
    simp only [execOp, q8o8, resolve, invoke, builtin, Sem.run_bind, Sem.run_pure, Result.andThen_ok, List.map_toArray, List.map_cons, List.map_nil, ev_tmp, e34, s8]
    have ra' : (Builtin.append_ #[25, 25] (q8 8).type #[cur.getD k undef, .slice (some ⟨g8, 0, none⟩) [i].length cap8]).run Try.prog w8 = .ok v9 w9 := ra
    rw [ra']; rfl
  refine opsIn_run (q8at 8 (by omega)) q8g8 (by rw [q8o8]; simp) r9 ?_
  rw [q8d8]
  obtain ⟨z9, f9, s9, d9⟩ := put_facts (v := v9) z8 (d := 37) (by omega)
  generalize a8.put (some 37) v9 = a9 at *
  have r10 : (execOp a9.eval (q8 9)).run Try.prog w9 = .ok (.value (.pointer (some ⟨g, k, none⟩))) w9 := by
    have e29 : a9.tmps.getD 29 undef = .slice (some ⟨g, 0, none⟩) ls.length cp := by rw [f9 29 (by omega), f8 29 (by omega), f7 29 (by omega), f6 29 (by omega), f5 29 (by omega), f4 29 (by omega), f3 29 (by omega), f2 29 (by omega), s1]
    have e30 : a9.tmps.getD 30 undef = .int .i64 k := by rw [f9 30 (by omega), f8 30 (by omega), f7 30 (by omega), f6 30 (by omega), f5 30 (by omega), f4 30 (by omega), f3 30 (by omega), s2]
    simp [execOp, q8o9, ev_tmp, e29, e30, hidx]
  refine opsIn_run (q8at 9 (by omega)) q8g9 (by rw [q8o9]; simp) r10 ?_
  rw [q8d9]
  obtain ⟨z10, f10, s10, d10⟩ := put_facts (v := .pointer (some ⟨g, k, none⟩)) z9 (d := 38) (by omega)
  generalize a9.put (some 38) (.pointer (some ⟨g, k, none⟩)) = a10 at *
  have r11 : (execOp a10.eval (q8 10)).run Try.prog w9 = .ok .skip (w9.setRow g (cur.set k v9).toArray) := by
    have e37 : a10.tmps.getD 37 undef = v9 := by rw [f10 37 (by omega), s9]
    simp only [execOp, q8o10, ev_tmp, s10, e37, Sem.run_bind, rs, Result.andThen_ok, Sem.run_pure]
  refine opsIn_skip (q8at 10 (by omega)) q8g10 q8d10 (by rw [q8o10]; simp) r11 ?_
  simp only [wpOpsIn]
  refine ⟨trivial, z10, by rw [d10, d9, d8, hd7], fun j hj => ?_, _, hP9, ?_⟩
  · rw [f10 j (by omega), f9 j (by omega), f8 j (by omega), f7 j (by omega), f6 j (by omega), f5 j (by omega), f4 j (by omega), f3 j (by omega), f2 j (by omega), f1 j (by omega)]
  · exact Trans.trans ⟨Store.le.refl σ, hh8, fun _ _ h => .inl h, t8.size, fun b hb _ => t8.block b hb (.inl hb), t8.os, t8.output, t8.tape⟩ t9
end Go.Lift.V48
set_option maxRecDepth 100000
set_option linter.unusedVariables false
set_option linter.unusedSimpArgs false
namespace Go.Lift.V48
open Go.Lift Go.Proofs

/-! shard.Partition: the walk -/
section
variable {P : Program} {T : Nat → Option Ty} {G : Tbl} {w : World} {σ : Store P}
/-- a call, from the way to its end -/
theorem calls_of_final (hE : Env P T G) {f : Nat} {fn : Func} {c : Code} (hf : P.funcs[f]? = some fn) (hb : fn.body = some c) {tds : List TD} (hlen : tds.length ≤ fn.ntmps) {r : SV}
    (hg : ∀ (b : Frame) (cs : List Frame) (a : Act) (H : Nat → Value), b.roundOf = none → a.defers = [] → Rel (fun _ => True) fn.ntmps w.heap.size σ H (entry tds) a w → Final P T fn.ntmps w.heap.size fn.results.toList b cs (lone (b.at a [.code c]) cs w) σ w r) {vs : Array Value} (hh : Holds w σ) (hargs : ArgsR σ tds vs) :
    Calls P f vs w fun e w' => ∃ v σ', e = .returned v ∧ Step σ w σ' w' ∧ RetR σ' w' w.heap.size r v := by
  intro cs
  let b : Frame := { (default : Frame) with fn := f, kind := .normal }
  have henter : Frame.enter P f vs .normal = b.at { tmps := vs ++ Array.replicate (fn.ntmps - vs.size) undef, defers := [] } [.code c] := by
    simp [Frame.enter, Frame.at, hf, hb, b]
  have hR : Rel (fun _ => True) fn.ntmps w.heap.size σ (fun _ => undef) (entry tds) { tmps := vs ++ Array.replicate (fn.ntmps - vs.size) undef, defers := [] } w := by
    refine ⟨hh, by simp; have := hargs.1; omega, trivial, Nat.le_refl _, fun k b hk => by simp [entry, look] at hk, fun k k' b b' g hk => by simp [entry, look] at hk, fun k s hk _ => ?_⟩
    simp only [entry] at hk
    rw [look_entry] at hk
    simp only [Nat.zero_le, if_true, Nat.sub_zero, Option.map_eq_some_iff] at hk
    obtain ⟨d, hd, rfl⟩ := hk
    have hlt : k < vs.size := by rw [hargs.1]; exact (List.getElem?_eq_some_iff.1 hd).1
    have hv : vs[k]? = some vs[k] := by simp [hlt]
    have := hargs.2 k d vs[k] hd hv
    have e : (vs ++ Array.replicate (fn.ntmps - vs.size) undef).getD k undef = vs[k] := by
      simp [Array.getD_eq_getD_getElem?, Array.getElem?_append, hlt]
    rw [e]; exact this
  have hfin := hg b cs _ _ rfl rfl hR
  rw [← henter] at hfin
  obtain ⟨a, w', σ', H, st, todo, hret, htr, hrel, hs⟩ := hfin
  obtain ⟨w2, l1, l2, l3, l4, l5, l6, l7, l8⟩ := leave_marks a.defers w' { b.at a todo with mode := .returning } cs rfl rfl hrel.holds hrel.defers
  have hrel2 : Rel (fun _ => True) fn.ntmps w.heap.size σ' H st { tmps := a.tmps, defers := [] } w2 := hrel.world l2 trivial (by rw [l3]; exact Nat.le_refl _) l5 hrel.size fun _ _ _ _ => rfl
  obtain ⟨v, hv1, hv2⟩ := run_results hE hrel2 hret
  have hst := htr.step
  refine ⟨.returned v, w2, _, ⟨v, σ', rfl, ⟨hst.le, l2, hst.news, by rw [l3]; exact hst.size, fun g hg => (l4 g hg).trans (hst.block g hg), l6.trans hst.os, l7.trans hst.output, l8.trans hst.tape⟩, hv2⟩, hs.trans l1, rfl, rfl, rfl, rfl, fn, hf, hv1⟩

theorem has_of_calls (hE : Env P T Tbl.none) {f : Nat} {fn : Func} {c : Code} (hf : P.funcs[f]? = some fn) (hb : fn.body = some c) (hn : (fn.name == "runtime.NumGoroutine") = false) {F : List TD → Option (Bool × SV)}
    (h : ∀ tds r, F tds = some (true, r) → ∀ (σ : Store P) (w : World) (vs : Array Value), Holds w σ → ArgsR σ tds vs → Calls P f vs w fun e w' => ∃ v σ', e = .returned v ∧ Step σ w σ' w' ∧ RetR σ' w' w.heap.size r v) : Has P T f F := by
  refine ⟨hE.types, fun g tds r hg => ?_, fun g tds r hg => ?_, hE.seqs, hE.mixed, hE.owns, hE.maps⟩
  · simp only [Tbl.add] at hg
    cases hb' : Nat.beq g f with
    | true => have := Nat.eq_of_beq_eq_true hb'; subst this; exact ⟨fn, hf, by simp [hb], hn⟩
    | false => rw [hb'] at hg; exact hE.fns g tds r hg
  · simp only [Tbl.add] at hg
    cases hb' : Nat.beq g f with
    | true =>
      have := Nat.eq_of_beq_eq_true hb'
      subst this
      rw [hb', cond_true] at hg
      exact h tds r hg
    | false => rw [hb', cond_false] at hg; exact hE.good g tds r hg

/-- all that lies in blocks from B on becomes data -/
noncomputable def frozeB (σ : Store P) (B : Nat) (w : World) : Store P := fun b => if b < B then σ b else w.heap[b]?
theorem frozeB_trans (hh : Holds w σ) {B : Nat} {σ0 : Store P} {w0 : World} (hB : B = w0.heap.size) (t : Trans B σ0 w0 σ w) : Trans B σ0 w0 (frozeB σ B w) w := by
  refine ⟨fun b o hb => ?_, fun b o hb => ?_, fun b o hb => ?_, t.size, t.block, t.os, t.output, t.tape⟩
  · have h1 := t.le b o hb
    unfold frozeB
    split
    · exact h1
    · exact hh b o h1
  · unfold frozeB at hb
    split at hb
    · exact hh b o hb
    · exact hb
  · unfold frozeB at hb
    split at hb
    · exact t.news b o hb
    · exact .inr (.inl (by omega))
theorem PRow.data (hh : Holds w σ) {B : Nat} {ls : List (List Int)} {g et : Nat} {cur : List Value} (h : PRow B σ ls g et cur w) : RelV (frozeB σ B w) ⟨LLI, ls⟩ (.slice (some ⟨g, 0, none⟩) ls.length ls.length) := by
  have hle : Store.le σ (frozeB σ B w) := fun b o hb => by
    unfold frozeB
    split
    · exact hb
    · exact hh b o hb
  have hat : ∀ b, B ≤ b → frozeB σ B w b = w.heap[b]? := fun b hb => by
    unfold frozeB
    rw [if_neg (by omega)]
  refine ⟨⟨some ⟨g, 0, none⟩, ls.length, rfl, Nat.le_refl _, (fun h => by cases h), fun i hi => ?_⟩, rfl⟩
  have hcl : i < cur.length := by rw [h.len]; exact hi
  refine ⟨⟨g, 0, none⟩, [cur.getD i undef], rfl, rfl, fun j v hj => ?_, ?_⟩
  · cases j with
    | succ j => simp at hj
    | zero =>
      simp only [List.getElem?_cons_zero, Option.some.injEq] at hj
      subst hj
      rw [addr_lit, addr_lit]
      show Store.cell? _ ⟨g, 0 + i * 1 + 0, none⟩ = _
      rw [Nat.zero_add, Nat.mul_one, Nat.add_zero]
      simp [Store.cell?, hat g h.ge, h.row, List.getD, List.getElem?_eq_getElem hcl]
  · obtain ⟨tag, ho⟩ := h.own i hi
    have hli : ls.getD i [] = ls[i] := by simp [List.getD, List.getElem?_eq_getElem hi]
    rw [hli] at ho
    have enc : ∀ l : List Int, EncL σ (.int .i64) l (l.map (Value.int .i64)) := by
      intro l
      induction l with
      | nil => rfl
      | cons x r ih => exact ⟨[Value.int .i64 x], _, rfl, rfl, ih⟩
    have hr := box_slice' (e := .int .i64) (l := ls[i]) (n0 := B) hle (fun b hb => hat b (ownsRow_hb ho b hb).1) ⟨tag, _, ho, enc _, fun b hb => (h.away i b hi hb).2, Nat.one_pos⟩
    have hc := hr.1
    rw [cells_of_not (by simpa [Ty.isAgg] using hr.2)] at hc
    exact hc
end

noncomputable def pIdx (r7 : Int → Int → Int) (l : List Ac.D) (n : Int) (i k : Nat) : List Int := ((List.range i).filter (fun (j : Nat) => r7 (hO l (j : Int)) n == (k : Int))).map (fun (j : Nat) => (j : Int))
noncomputable def pLs (r7 : Int → Int → Int) (l : List Ac.D) (n : Int) (m i : Nat) : List (List Int) := (List.range m).map (pIdx r7 l n i)
theorem pLs_len (r7 : Int → Int → Int) (l : List Ac.D) (n : Int) (m i : Nat) : (pLs r7 l n m i).length = m := by simp [pLs]
theorem pLs_at (r7 : Int → Int → Int) (l : List Ac.D) (n : Int) (m i k : Nat) (h : k < m) : (pLs r7 l n m i).getD k [] = pIdx r7 l n i k := by simp [pLs, List.getD, h]
theorem pLs_zero (r7 : Int → Int → Int) (l : List Ac.D) (n : Int) (m : Nat) : pLs r7 l n m 0 = List.replicate m [] := by
  unfold pLs pIdx
  apply List.ext_getElem
  · simp
  · intro j h1 h2; simp
theorem pIdx_len (r7 : Int → Int → Int) (l : List Ac.D) (n : Int) (i k : Nat) : (pIdx r7 l n i k).length ≤ i := by
  unfold pIdx
  rw [List.length_map]
  exact Nat.le_trans (List.length_filter_le _ _) (by simp)
theorem pLs_next (r7 : Int → Int → Int) (l : List Ac.D) (n : Int) (m i k : Nat) (hk : k < m) (h : r7 (hO l (i : Int)) n = (k : Int)) : pLs r7 l n m (i + 1) = (pLs r7 l n m i).set k ((pLs r7 l n m i).getD k [] ++ [(i : Int)]) := by
  rw [pLs_at _ _ _ _ _ _ hk]
  apply List.ext_getElem
  · simp [pLs]
  · intro j h1 h2
    have hj : j < m := by simpa [pLs] using h1
    rw [List.getElem_set]
    have e : ∀ j (h : j < (pLs r7 l n m (i + 1)).length), (pLs r7 l n m (i + 1))[j] = pIdx r7 l n (i + 1) j := fun j h => by simp [pLs]
    have e' : ∀ j (h : j < (pLs r7 l n m i).length), (pLs r7 l n m i)[j] = pIdx r7 l n i j := fun j h => by simp [pLs]
    rw [e]
    have hs : pIdx r7 l n (i + 1) j = pIdx r7 l n i j ++ (if r7 (hO l (i : Int)) n = (j : Int) then [(i : Int)] else []) := by
      unfold pIdx
      rw [List.range_succ, List.filter_append, List.map_append]
      congr 1
      by_cases c : r7 (hO l (i : Int)) n = (j : Int)
      · rw [if_pos c]; simp [List.filter_cons, c]
      · rw [if_neg c]; simp [List.filter_cons, c]
    rw [hs, h]
    by_cases c : k = j
    · subst c; rw [if_pos rfl, if_pos rfl]
    · rw [if_neg (by omega), if_neg c, List.append_nil, e']

section
variable {k7 : Int → Int → Bool} {r7 : Int → Int → Int} (hE : Env Try.prog T (GP k7 r7)) {l : List Ac.D} {m : Nat}
include hE
theorem pWalk (hl : l.length + 2 ≤ lenBound) (hk7 : ∀ h : Int, k7 h m = true) (hr7 : ∀ h : Int, 0 ≤ r7 h m ∧ r7 h m < m) {b : Frame} (hb : b.roundOf = none) {cs : List Frame} {M : Machine} {σ0 : Store Try.prog} {w0 : World} {g : Nat} :
    ∀ (d i : Nat), i + d = l.length → ∀ (a : Act) (w : World) (σ : Store Try.prog) (cur : List Value), a.tmps.size = 41 → a.defers = [] → a.tmps.getD 1 undef = .int .i64 m → a.tmps.getD 5 undef = .slice (some ⟨g, 0, none⟩) m m → RelV σ ⟨LA, l⟩ (a.tmps.getD 17 undef) →
      a.tmps.getD 18 undef = .int .i64 l.length → a.tmps.getD 19 undef = .int .i64 i → Trans w0.heap.size σ0 w0 σ w → PRow w0.heap.size σ (pLs r7 l m m i) g 25 cur w → Steps Try.prog M (lone (b.atR a (.code pX :: .inLoop pX :: pK)) cs w) →
      Final Try.prog T pF.ntmps w0.heap.size pF.results.toList b cs M σ0 w0 (.tv ⟨LLI, pLs r7 l m m l.length⟩) := by
  have slots : ∀ (σ : Store Try.prog) (w : World) (a : Act) (i n0 : Nat) (H : Nat → Value) (sl : List (Nat × SV)), Holds w σ → n0 ≤ w.heap.size → a.tmps.size = 41 → a.defers = [] → (∀ p ∈ sl, SVR σ [] H p.2 (a.tmps.getD p.1 undef)) → Rel (fun _ => True) pF.ntmps n0 σ H ⟨sl, []⟩ a w := by
    intro σ w a i n0 H sl hh hn hz hd hs
    exact ⟨hh, by rw [pN]; exact hz, by rw [hd]; trivial, hn, fun k b hk => by simp [look] at hk, fun k k' b b' g hk => by simp [look] at hk, fun k s hk _ => hs (k, s) (look_mem' _ _ _ hk)⟩
  intro d
  induction d with
  | zero =>
    intro i hi a w σ cur hz hd h1 h5 h17 h18 h19 t hP hs
    have hil : i = l.length := by omega
    subst hil
    have t' := frozeB_trans (t.holds) rfl t
    have hle : Store.le σ (frozeB σ w0.heap.size w) := fun bb o hbb => by
      unfold frozeB
      split
      · exact hbb
      · exact t.holds bb o hbb
    have hdat := hP.data t.holds
    rw [pLs_len] at hdat
    have hR : Rel (fun _ => True) pF.ntmps w0.heap.size (frozeB σ w0.heap.size w) (fun _ => undef) (pSE l m l.length (pLs r7 l m m l.length)) a w := by
      refine slots _ _ _ 0 _ _ _ t'.holds t.size hz hd ?_
      intro p hp
      simp only [List.mem_cons, List.not_mem_nil, or_false] at hp
      rcases hp with rfl | rfl | rfl | rfl | rfl
      · show RelV _ _ _; simp only [h1]; exact relV_int _ _ _
      · show RelV _ _ _; simp only [h5]; exact hdat
      · show RelV _ _ _; exact h17.mono hle
      · show RelV _ _ _; simp only [h18]; exact relV_int _ _ _
      · show RelV _ _ _; simp only [h19]; exact relV_int _ _ _
    have hg : Goes (GP k7 r7) T pF.ntmps pF.results.toList (.loop pX pK (pSE l m l.length (pLs r7 l m m l.length))) (.tv ⟨LLI, pLs r7 l m m l.length⟩) := by
      refine .loop 5 _ _ _ _ _ (.of_eq (p_final _ l m l.length _) ?_)
      rw [decide_eq_false (Int.lt_irrefl _), cond_false]
      exact .more 15 _ _ _ _ (.of_eq (p_last _ _) (.ret _))
    refine goes_sound hE hg (n0 := w0.heap.size) (b := b) hb ⟨a, w, _, _, t', hR, ?_⟩
    rw [Frame.atR_of_none hb] at hs
    exact hs
  | succ d ih =>
    intro i hi a w σ cur hz hd h1 h5 h17 h18 h19 t hP hs
    have hil : i < l.length := by omega
    have hlb : lenBound = 68719476736 := rfl
    have hR : Rel (fun _ => True) pF.ntmps w.heap.size σ (fun _ => undef) (pS l m i) a w := by
      refine slots _ _ _ 0 _ _ _ t.holds (Nat.le_refl _) hz hd ?_
      intro p hp
      simp only [List.mem_cons, List.not_mem_nil, or_false] at hp
      rcases hp with rfl | rfl | rfl | rfl
      · show RelV _ _ _; simp only [h1]; exact relV_int _ _ _
      · exact h17
      · show RelV _ _ _; simp only [h18]; exact relV_int _ _ _
      · show RelV _ _ _; simp only [h19]; exact relV_int _ _ _
    have hpr := p_round (GP k7 r7) l m i
    rw [decide_eq_true (by omega : (i : Int) < (l.length : Int)), cond_true, show inB (i : Int) l.length = true by unfold inB; rw [decide_eq_true (by omega), decide_eq_true (by omega)]; rfl, cond_true] at hpr
    obtain ⟨a1, w1, σ1, H1, t1, R1, p1, s1⟩ := reach_done hE (K := []) (X := fun k => a.tmps.getD k undef) (b := b) (cs := cs) (m := M) (by simp) 10 hR ⟨fun k _ => rfl, fun _ => hd⟩ (by simpa using hs) hpr
    rw [List.append_nil] at s1
    have e5 : a1.tmps.getD 5 undef = .slice (some ⟨g, 0, none⟩) m m := (p1.1 5 rfl).trans h5
    have hd1 : a1.defers = [] := p1.2 rfl
    have t1' : Step σ w σ1 w1 := t1.step
    have hP1 := hP.keep t1'.block t1'.news
    -- the shard's number
    obtain ⟨a2, w2, ⟨_, σ2, st2, z2, d2, g5, g1, g6, g8, g17, g18, g19⟩, s2⟩ := regionIn (Q := fun e a' w' => e = .normal ∧ ∃ σ', Step σ1 w1 σ' w' ∧ a'.tmps.size = 41 ∧ a'.defers = a1.defers ∧ a'.tmps.getD 5 undef = a1.tmps.getD 5 undef ∧ a'.tmps.getD 1 undef = .int .i64 m ∧ a'.tmps.getD 6 undef = .int .i64 i ∧
      a'.tmps.getD 8 undef = .int .i64 (r7 (hO l i) m) ∧ RelV σ' ⟨LA, l⟩ (a'.tmps.getD 17 undef) ∧ a'.tmps.getD 18 undef = .int .i64 l.length ∧ a'.tmps.getD 19 undef = .int .i64 i) (id := pid pR7) (fun e a w h => h.1) (by rw [q7n]; exact reg7 hE l m i (hk7 _) R1) b hb (.code pR8 :: .inBlock 1 :: .code pR9 :: .inLoop pX :: pK) cs
    rw [← pR7_eq] at s2
    have hP2 := hP1.keep st2.block st2.news
    have T2 : Trans w0.heap.size σ0 w0 σ2 w2 := (t.trans (t1'.trans' t.size)).trans (st2.trans' (Nat.le_trans t.size t1.size))
    obtain ⟨hr1, hr2⟩ := hr7 (hO l i)
    obtain ⟨k, hk⟩ : ∃ k : Nat, r7 (hO l i) m = (k : Int) := ⟨(r7 (hO l i) m).toNat, by omega⟩
    have hkm : k < m := by omega
    -- the shard's list grows
    obtain ⟨a3, w3, ⟨_, z3, d3, f3, cur3, hP3, t3⟩, s3⟩ := regionIn (Q := fun e a' w' => e = .normal ∧ a'.tmps.size = 41 ∧ a'.defers = [] ∧ (∀ j, j < 29 → a'.tmps.getD j undef = a2.tmps.getD j undef) ∧ ∃ cur', PRow w0.heap.size σ2 ((pLs r7 l m m i).set k ((pLs r7 l m m i).getD k [] ++ [(i : Int)])) g 25 cur' w' ∧ Trans w0.heap.size σ2 w2 σ2 w') (id := pid pR8) (fun e a w h => h.1) (by
        rw [q8n]
        refine reg8 hP2 T2.holds T2.size z2 (by rw [d2, hd1]) (k := k) (by rw [pLs_len]; exact hkm) i ?_ (cp := m) (by rw [g5, e5, pLs_len]) g6 (by rw [g8, hk])
        rw [pLs_at _ _ _ _ _ _ hkm]
        have := pIdx_len r7 l m i k
        omega) b hb (.inBlock 1 :: .code pR9 :: .inLoop pX :: pK) cs
    rw [← pR8_eq] at s3
    rw [← pLs_next r7 l m m i k hkm hk] at hP3
    have T3 := T2.trans t3
    have hR3 : Rel (fun _ => True) pF.ntmps w3.heap.size σ2 (fun _ => undef) (pS l m i) a3 w3 := by
      refine slots _ _ _ 0 _ _ _ T3.holds (Nat.le_refl _) z3 d3 ?_
      intro p hp
      simp only [List.mem_cons, List.not_mem_nil, or_false] at hp
      rcases hp with rfl | rfl | rfl | rfl
      · show RelV _ _ _; simp only [f3 1 (by omega), g1]; exact relV_int _ _ _
      · show RelV _ _ _; simp only [f3 17 (by omega)]; exact g17
      · show RelV _ _ _; simp only [f3 18 (by omega), g18]; exact relV_int _ _ _
      · show RelV _ _ _; simp only [f3 19 (by omega), g19]; exact relV_int _ _ _
    have hw : Go.Lift.V48.w ((i : Int) + 1) = ((i + 1 : Nat) : Int) := by
      rw [show Go.Lift.V48.w ((i : Int) + 1) = (i : Int) + 1 from wrap_id (by omega) (by omega)]; omega
    have hpn := p_next (GP k7 r7) l m i
    rw [hw] at hpn
    obtain ⟨a4, w4, σ4, H4, t4, R4, p4, s4⟩ := reach_done hE (K := []) (X := fun k => a3.tmps.getD k undef) (b := b) (cs := cs) (m := M) (by simp) 10 hR3 ⟨fun k _ => rfl, fun _ => d3⟩ (by rw [List.append_nil]; exact ((s1.trans s2).trans s3)) hpn
    rw [List.append_nil] at s4
    have t4' : Step σ2 w3 σ4 w4 := t4.step
    exact ih (i + 1) (by omega) a4 w4 σ4 cur3 (R4.size.trans pN) (p4.2 rfl) (svr_int (R4.slot 1 _ rfl trivial)) ((p4.1 5 rfl).trans ((f3 5 (by omega)).trans (g5.trans e5))) (R4.slot 17 _ rfl trivial) (svr_int (R4.slot 18 _ rfl trivial)) (svr_int (R4.slot 19 _ rfl trivial))
      (T3.trans (t4'.trans' T3.size)) (hP3.keep t4'.block t4'.news) s4
end
end Go.Lift.V48
set_option maxRecDepth 100000
set_option linter.unusedVariables false
set_option linter.unusedSimpArgs false
namespace Go.Lift.V48
open Go.Lift Go.Proofs

noncomputable def rPart (r7 : Int → Int → Int) (l : List Ac.D) (n : Int) : List (List Int) := bif (decide (n < 1) || decide (n > 8)) then [] else pLs r7 l n n.toNat l.length
theorem calls_Part {k7 : Int → Int → Bool} {r7 : Int → Int → Int} (hOf : Hs 7 (FOf k7 r7)) (hk7 : ∀ h n : Int, k7 h n = true) (hr7 : ∀ h n : Int, 1 ≤ n → n ≤ 8 → 0 ≤ r7 h n ∧ r7 h n < n) (l : List Ac.D) (n : Int) (hk : lenOK (l.length + 2) = true) {σ : Store Try.prog} {w : World} {vs : Array Value} (hh : Holds w σ) (hargs : ArgsR σ [⟨LA, l⟩, I n] vs) :
    Calls Try.prog 12 vs w fun e w' => ∃ v σ', e = .returned v ∧ Step σ w σ' w' ∧ RetR σ' w' w.heap.size (.tv ⟨LLI, rPart r7 l n⟩) v := by
  have hE : Env Try.prog T (GP k7 r7) := env0.more hOf
  have hf : Try.prog.funcs[12]? = some pF := by kernel_rfl
  have hb : pF.body = some ((pF.body).getD .skip) := by kernel_rfl
  refine calls_of_final hE hf hb (by rw [pN]; exact Nat.le_of_ble_eq_true rfl) (fun b cs a H hb hd hR => ?_) hh hargs
  obtain ⟨v, hv⟩ : ∃ v, v = rPart r7 l n := ⟨_, rfl⟩
  have hen := p_entry (GP k7 r7) l n
  unfold rPart
  cases hc : (decide (n < 1) || decide (n > 8)) with
  | true =>
    have hc' : (bif decide (n < 1) then true else decide (n > 8)) = true := by rw [← hc]; cases decide (n < 1) <;> rfl
    rw [hc', cond_true] at hen
    rw [cond_true]
    obtain ⟨a1, w1, σ1, H1, t1, R1, p1, s1⟩ := reach_done hE (K := []) (X := fun k => a.tmps.getD k undef) (b := b) (cs := cs) (m := lone (b.at a [.code ((pF.body).getD .skip)]) cs w) (by simp) 8 hR ⟨fun k _ => rfl, fun _ => hd⟩ (by rw [List.append_nil, Frame.atR_of_none hb]; exact Steps.refl _ _) hen
    rw [List.append_nil, Frame.atR_of_none hb] at s1
    obtain ⟨σ2, t2, R2⟩ := R1.freeze 4
    have hg : Goes (GP k7 r7) T pF.ntmps pF.results.toList (.more [.code .ret, .code (cAt pF [1, 1])] ⟨[(0, .tv ⟨LA, l⟩), (1, .tv (I n)), (4, .tv ⟨LLI, []⟩)], []⟩) (.tv ⟨LLI, []⟩) := .more 3 _ _ _ _ (.of_eq (p_ret _ _ _) (.ret _))
    exact goes_sound hE hg hb ⟨a1, w1, σ2, H1, t1.trans t2, R2, s1⟩
  | false =>
    have hc' : (bif decide (n < 1) then true else decide (n > 8)) = false := by rw [← hc]; cases decide (n < 1) <;> rfl
    rw [hc', cond_false] at hen
    rw [cond_false]
    obtain ⟨c1, c2⟩ := Bool.or_eq_false_iff.1 hc
    have c1 := of_decide_eq_false c1
    have c2 := of_decide_eq_false c2
    obtain ⟨m, rfl⟩ : ∃ m : Nat, n = (m : Int) := ⟨n.toNat, by omega⟩
    rw [Int.toNat_natCast]
    obtain ⟨a1, w1, σ1, H1, t1, R1, p1, s1⟩ := reach_done hE (K := []) (X := fun k => a.tmps.getD k undef) (b := b) (cs := cs) (m := lone (b.at a [.code ((pF.body).getD .skip)]) cs w) (by simp) 8 hR ⟨fun k _ => rfl, fun _ => hd⟩ (by rw [List.append_nil, Frame.atR_of_none hb]; exact Steps.refl _ _) hen
    rw [List.append_nil] at s1
    have hd1 : a1.defers = [] := p1.2 rfl
    obtain ⟨a2, w2, ⟨_, z2, d2, g0, g1, g5, st2, hP2⟩, s2⟩ := regionIn (Q := fun e a' w' => e = .normal ∧ a'.tmps.size = 41 ∧ a'.defers = a1.defers ∧ a'.tmps.getD 0 undef = a1.tmps.getD 0 undef ∧ a'.tmps.getD 1 undef = .int .i64 m ∧
      a'.tmps.getD 5 undef = .slice (some ⟨w1.heap.size, 0, none⟩) m m ∧ Step σ1 w1 σ1 w' ∧ PRow w.heap.size σ1 (List.replicate m []) w1.heap.size 25 (List.replicate m (.slice none 0 0)) w') (id := pid pR3) (fun e a w h => h.1)
      (by rw [q3n]; exact reg3 R1.holds R1.base (R1.size.trans pN) (by omega) (svr_int (R1.slot 1 _ rfl trivial))) b hb [.code pB] cs
    rw [← pR3_eq] at s2
    have T2 : Trans w.heap.size σ w σ1 w2 := t1.trans (st2.trans' R1.base)
    have hR2 : Rel (fun _ => True) pF.ntmps w2.heap.size σ1 (fun _ => undef) (pS3 l m) a2 w2 := by
      refine ⟨T2.holds, by rw [pN]; exact z2, by rw [d2, hd1]; trivial, Nat.le_refl _, fun k b hk => by simp [pS3, look] at hk, fun k k' b b' g hk => by simp [pS3, look] at hk, fun k s hk _ => ?_⟩
      have hs : ∀ p ∈ (pS3 l m).sl, SVR σ1 [] (fun _ => undef) p.2 (a2.tmps.getD p.1 undef) := by
        intro p hp
        unfold pS3 at hp
        simp only [List.mem_cons, List.not_mem_nil, or_false] at hp
        rcases hp with rfl | rfl
        · show RelV _ _ _
          simp only [g0]
          exact R1.slot 0 (.tv ⟨LA, l⟩) rfl trivial
        · show RelV _ _ _
          simp only [g1]
          exact relV_int _ _ _
      exact hs (k, s) (look_mem' _ _ _ hk)
    obtain ⟨a3, w3, σ3, H3, t3, R3, p3, s3⟩ := reach_done hE (K := []) (X := fun k => a2.tmps.getD k undef) (b := b) (cs := cs) (m := lone (b.at a [.code ((pF.body).getD .skip)]) cs w) (by simp) 20 hR2 ⟨fun k _ => rfl, fun _ => d2.trans hd1⟩ (by rw [List.append_nil]; exact s1.trans s2) (p_start (GP k7 r7) l m)
    rw [List.append_nil] at s3
    have t3' : Step σ1 w2 σ3 w3 := t3.step
    refine pWalk hE (lenOK_spec hk) (fun h => hk7 h m) (fun h => hr7 h m (by omega) (by omega)) hb (g := w1.heap.size) l.length 0 (by omega) a3 w3 σ3 (List.replicate m (.slice none 0 0)) (R3.size.trans pN) (p3.2 rfl) (svr_int (R3.slot 1 _ rfl trivial)) ((p3.1 5 rfl).trans g5) (R3.slot 17 _ rfl trivial) (svr_int (R3.slot 18 _ rfl trivial))
      (svr_int (R3.slot 19 _ rfl trivial)) (T2.trans (t3'.trans' T2.size)) ?_ s3
    rw [pLs_zero]
    exact hP2.keep t3'.block t3'.news
theorem has_Part {k7 : Int → Int → Bool} {r7 : Int → Int → Int} (hOf : Hs 7 (FOf k7 r7)) (hk7 : ∀ h n : Int, k7 h n = true) (hr7 : ∀ h n : Int, 1 ≤ n → n ≤ 8 → 0 ≤ r7 h n ∧ r7 h n < n) :
    Hs 12 (FC2 LA (.int .i64) (fun l _ => lenOK (List.length l + 2)) fun l n => .tv ⟨LLI, rPart r7 l n⟩) := by
  refine has_of_calls env0 (fn := pF) (c := (pF.body).getD .skip) (by kernel_rfl) (by kernel_rfl) (by kernel_rfl) fun tds r hF σ w vs hh hargs => ?_
  obtain ⟨l, n, rfl, hk, rfl⟩ := FC2.inv hF
  exact calls_Part hOf hk7 hr7 l n hk hh hargs
end Go.Lift.V48
set_option maxRecDepth 100000
set_option linter.unusedVariables false
set_option linter.unusedSimpArgs false
namespace Go.Lift.V48
open Go.Lift Go.Proofs

theorem e7 (G : Tbl)  (a0 : Int) (a1 : Int) :
    runL G [] Try.f7 1000 (bod Try.f7) (entry [(I a0), (I a1)]) =
  bif (bif (bif (decide (a1 < 1)) then true else (decide (a1 > 65536))) then true else (decide (a0 < 0))) then
    .ret (.tv (I 0))
  else
    .ret (.tv (I (w (Int.tdiv (w ((Int.tmod (w ((Int.tmod a0 1048576) * 40503)) 65536) * a1)) 65536)))) := by kernel_rfl

theorem e8 (G : Tbl)  (a0 : Int) (a1 : Int) :
    runL G [] Try.f8 1000 (bod Try.f8) (entry [(I a0), (I a1)]) =
  bif (bif (bif (decide (a1 < 1)) then true else (decide (a1 > 65536))) then true else (decide (a0 < 0))) then
    .ret (.tv (I 0))
  else
    .ret (.tv (I (w (Int.tdiv (w ((Int.tmod (w ((Int.tmod a0 1048576) * 40503)) 65536) * a1)) 65536)))) := by kernel_rfl

noncomputable def M10 : Leaf := .loop (cAt Try.f10 [1, 1, 0, 1, 0, 0]) [.inBlock 0, .code (cAt Try.f10 [1, 1, 1])] ⟨[], []⟩
def S10 (s0 : (List Int)) (s4 : Int) (b3 : (List (Ty.D Ac))) : St := ⟨[(0, .tv (TD.mk LI s0)), (3, .ref 3), (4, .tv (I s4))], [(3, .vec Ac b3)]⟩
theorem i10 (G : Tbl)  (s0 : (List Int)) (s4 : Int) (b3 : (List (Ty.D Ac))) :
    runL G [(194, [0, 3, 4])] Try.f10 1000 M10.round (S10 s0 s4 b3) =
  bif (decide (s4 < ((List.length s0 : Nat) : Int))) then
    bif (inB s4 (List.length s0)) then
      bif (inB s4 (List.length b3)) then
        bif (inB s4 (List.length (List.set b3 (Int.toNat s4) (((List.getD s0 (Int.toNat s4) 0), (((List.getD b3 (Int.toNat s4) ((0, 0, 0, [], ()), [], [], 0, 0, ()))).1).2.1, (((List.getD b3 (Int.toNat s4) ((0, 0, 0, [], ()), [], [], 0, 0, ()))).1).2.2.1, (((List.getD b3 (Int.toNat s4) ((0, 0, 0, [], ()), [], [], 0, 0, ()))).1).2.2.2.1, ()), ((List.getD b3 (Int.toNat s4) ((0, 0, 0, [], ()), [], [], 0, 0, ()))).2.1, ((List.getD b3 (Int.toNat s4) ((0, 0, 0, [], ()), [], [], 0, 0, ()))).2.2.1, ((List.getD b3 (Int.toNat s4) ((0, 0, 0, [], ()), [], [], 0, 0, ()))).2.2.2.1, ((List.getD b3 (Int.toNat s4) ((0, 0, 0, [], ()), [], [], 0, 0, ()))).2.2.2.2.1, ())))) then
          .loop M10.body M10.kont (S10 s0 (w (s4 + 1)) (List.set (List.set b3 (Int.toNat s4) (((List.getD s0 (Int.toNat s4) 0), (((List.getD b3 (Int.toNat s4) ((0, 0, 0, [], ()), [], [], 0, 0, ()))).1).2.1, (((List.getD b3 (Int.toNat s4) ((0, 0, 0, [], ()), [], [], 0, 0, ()))).1).2.2.1, (((List.getD b3 (Int.toNat s4) ((0, 0, 0, [], ()), [], [], 0, 0, ()))).1).2.2.2.1, ()), ((List.getD b3 (Int.toNat s4) ((0, 0, 0, [], ()), [], [], 0, 0, ()))).2.1, ((List.getD b3 (Int.toNat s4) ((0, 0, 0, [], ()), [], [], 0, 0, ()))).2.2.1, ((List.getD b3 (Int.toNat s4) ((0, 0, 0, [], ()), [], [], 0, 0, ()))).2.2.2.1, ((List.getD b3 (Int.toNat s4) ((0, 0, 0, [], ()), [], [], 0, 0, ()))).2.2.2.2.1, ())) (Int.toNat s4) (((List.getD (List.set b3 (Int.toNat s4) (((List.getD s0 (Int.toNat s4) 0), (((List.getD b3 (Int.toNat s4) ((0, 0, 0, [], ()), [], [], 0, 0, ()))).1).2.1, (((List.getD b3 (Int.toNat s4) ((0, 0, 0, [], ()), [], [], 0, 0, ()))).1).2.2.1, (((List.getD b3 (Int.toNat s4) ((0, 0, 0, [], ()), [], [], 0, 0, ()))).1).2.2.2.1, ()), ((List.getD b3 (Int.toNat s4) ((0, 0, 0, [], ()), [], [], 0, 0, ()))).2.1, ((List.getD b3 (Int.toNat s4) ((0, 0, 0, [], ()), [], [], 0, 0, ()))).2.2.1, ((List.getD b3 (Int.toNat s4) ((0, 0, 0, [], ()), [], [], 0, 0, ()))).2.2.2.1, ((List.getD b3 (Int.toNat s4) ((0, 0, 0, [], ()), [], [], 0, 0, ()))).2.2.2.2.1, ())) (Int.toNat s4) ((0, 0, 0, [], ()), [], [], 0, 0, ()))).1, ((List.getD (List.set b3 (Int.toNat s4) (((List.getD s0 (Int.toNat s4) 0), (((List.getD b3 (Int.toNat s4) ((0, 0, 0, [], ()), [], [], 0, 0, ()))).1).2.1, (((List.getD b3 (Int.toNat s4) ((0, 0, 0, [], ()), [], [], 0, 0, ()))).1).2.2.1, (((List.getD b3 (Int.toNat s4) ((0, 0, 0, [], ()), [], [], 0, 0, ()))).1).2.2.2.1, ()), ((List.getD b3 (Int.toNat s4) ((0, 0, 0, [], ()), [], [], 0, 0, ()))).2.1, ((List.getD b3 (Int.toNat s4) ((0, 0, 0, [], ()), [], [], 0, 0, ()))).2.2.1, ((List.getD b3 (Int.toNat s4) ((0, 0, 0, [], ()), [], [], 0, 0, ()))).2.2.2.1, ((List.getD b3 (Int.toNat s4) ((0, 0, 0, [], ()), [], [], 0, 0, ()))).2.2.2.2.1, ())) (Int.toNat s4) ((0, 0, 0, [], ()), [], [], 0, 0, ()))).2.1, ((List.getD (List.set b3 (Int.toNat s4) (((List.getD s0 (Int.toNat s4) 0), (((List.getD b3 (Int.toNat s4) ((0, 0, 0, [], ()), [], [], 0, 0, ()))).1).2.1, (((List.getD b3 (Int.toNat s4) ((0, 0, 0, [], ()), [], [], 0, 0, ()))).1).2.2.1, (((List.getD b3 (Int.toNat s4) ((0, 0, 0, [], ()), [], [], 0, 0, ()))).1).2.2.2.1, ()), ((List.getD b3 (Int.toNat s4) ((0, 0, 0, [], ()), [], [], 0, 0, ()))).2.1, ((List.getD b3 (Int.toNat s4) ((0, 0, 0, [], ()), [], [], 0, 0, ()))).2.2.1, ((List.getD b3 (Int.toNat s4) ((0, 0, 0, [], ()), [], [], 0, 0, ()))).2.2.2.1, ((List.getD b3 (Int.toNat s4) ((0, 0, 0, [], ()), [], [], 0, 0, ()))).2.2.2.2.1, ())) (Int.toNat s4) ((0, 0, 0, [], ()), [], [], 0, 0, ()))).2.2.1, s4, ((List.getD (List.set b3 (Int.toNat s4) (((List.getD s0 (Int.toNat s4) 0), (((List.getD b3 (Int.toNat s4) ((0, 0, 0, [], ()), [], [], 0, 0, ()))).1).2.1, (((List.getD b3 (Int.toNat s4) ((0, 0, 0, [], ()), [], [], 0, 0, ()))).1).2.2.1, (((List.getD b3 (Int.toNat s4) ((0, 0, 0, [], ()), [], [], 0, 0, ()))).1).2.2.2.1, ()), ((List.getD b3 (Int.toNat s4) ((0, 0, 0, [], ()), [], [], 0, 0, ()))).2.1, ((List.getD b3 (Int.toNat s4) ((0, 0, 0, [], ()), [], [], 0, 0, ()))).2.2.1, ((List.getD b3 (Int.toNat s4) ((0, 0, 0, [], ()), [], [], 0, 0, ()))).2.2.2.1, ((List.getD b3 (Int.toNat s4) ((0, 0, 0, [], ()), [], [], 0, 0, ()))).2.2.2.2.1, ())) (Int.toNat s4) ((0, 0, 0, [], ()), [], [], 0, 0, ()))).2.2.2.2.1, ())))
        else
          .fail
      else
        .fail
    else
      .fail
  else
    .ret (.own Ac b3) := by kernel_rfl
theorem e10 (G : Tbl)  (a0 : (List Int)) :
    runL G [(194, [0, 3, 4])] Try.f10 1000 (bod Try.f10) (entry [(TD.mk LI a0)]) =
  bif (decide (0 ≤ ((List.length a0 : Nat) : Int)) && decide (((List.length a0 : Nat) : Int) ≤ ((List.length a0 : Nat) : Int)) && capOK Ac (Int.toNat ((List.length a0 : Nat) : Int))) then
    .loop M10.body M10.kont (S10 a0 0 (zeros Ac (Int.toNat ((List.length a0 : Nat) : Int))))
  else
    .fail := by kernel_rfl

noncomputable def M11 : Leaf := .loop (cAt Try.f11 [1, 1, 0, 1, 0, 0]) [.inBlock 0, .code (cAt Try.f11 [1, 1, 1])] ⟨[], []⟩
def S11 (s0 : (List (List Int))) (s1 : (List (List Int))) (s5 : Int) : St := ⟨[(0, .tv (TD.mk LLI s0)), (1, .tv (TD.mk LLI s1)), (5, .tv (I s5))], []⟩
theorem i11 (G : Tbl) (k18 : (List Int) → (List Int) → Bool) (r18 : (List Int) → (List Int) → Bool) (s0 : (List (List Int))) (s1 : (List (List Int))) (s5 : Int) :
    runL (G.add 18 (FC2 LI LI k18 (fun x0 x1 => .tv (B (r18 x0 x1))))) [(258, [0, 1, 5])] Try.f11 1000 M11.round (S11 s0 s1 s5) =
  bif (bif (decide (s5 < ((List.length s0 : Nat) : Int))) then (decide (s5 < ((List.length s1 : Nat) : Int))) else false) then
    bif (inB s5 (List.length s0)) then
      bif (inB s5 (List.length s1)) then
        bif (k18 (List.getD s0 (Int.toNat s5) []) (List.getD s1 (Int.toNat s5) [])) then
          bif (!(r18 (List.getD s0 (Int.toNat s5) []) (List.getD s1 (Int.toNat s5) []))) then
            .ret (.tv (B false))
          else
            .loop M11.body M11.kont (S11 s0 s1 (w (s5 + 1)))
        else
          .fail
      else
        .fail
    else
      .fail
  else
    .ret (.tv (B true)) := by kernel_rfl
theorem e11 (G : Tbl) (k18 : (List Int) → (List Int) → Bool) (r18 : (List Int) → (List Int) → Bool) (a0 : (List (List Int))) (a1 : (List (List Int))) :
    runL (G.add 18 (FC2 LI LI k18 (fun x0 x1 => .tv (B (r18 x0 x1))))) [(258, [0, 1, 5])] Try.f11 1000 (bod Try.f11) (entry [(TD.mk LLI a0), (TD.mk LLI a1)]) =
  bif (((List.length a0 : Nat) : Int) != ((List.length a1 : Nat) : Int)) then
    .ret (.tv (B false))
  else
    .loop M11.body M11.kont (S11 a0 a1 0) := by kernel_rfl

noncomputable def M13 : Leaf := .loop (cAt Try.f13 [1, 1, 1, 0, 1, 0, 0]) [.inBlock 0, .code (cAt Try.f13 [1, 1, 1, 1])] ⟨[], []⟩
def S13 (s0 : (List (Ty.D Ac))) (s1 : Int) (s6 : Int) (b5 : (List (List Int))) : St := ⟨[(0, .tv (TD.mk LA s0)), (1, .tv (I s1)), (5, .ref 5), (6, .tv (I s6))], [(5, .vec LI b5)]⟩
noncomputable def M13a : Leaf := .loop (cAt Try.f13 [1, 1, 1, 0, 1, 0, 0, 1, 0, 0, 1, 0, 1, 0, 0]) [.inBlock 2, .code (cAt Try.f13 [1, 1, 1, 0, 1, 0, 0, 1, 0, 0, 1, 1]), .inBlock 1, .code (cAt Try.f13 [1, 1, 1, 0, 1, 0, 0, 1, 1]), .inLoop (cAt Try.f13 [1, 1, 1, 0, 1, 0, 0]), .inBlock 0, .code (cAt Try.f13 [1, 1, 1, 1])] ⟨[], []⟩
def S13a (s0 : (List (Ty.D Ac))) (s1 : Int) (s6 : Int) (s8 : Int) (b5 : (List (List Int))) (b7 : (List Int)) : St := ⟨[(0, .tv (TD.mk LA s0)), (1, .tv (I s1)), (5, .ref 5), (6, .tv (I s6)), (7, .ref 7), (8, .tv (I s8))], [(5, .vec LI b5), (7, .vec (.int .i64) b7)]⟩
theorem i13 (G : Tbl) (k8 : Int → Int → Bool) (r8 : Int → Int → Int) (s0 : (List (Ty.D Ac))) (s1 : Int) (s6 : Int) (b5 : (List (List Int))) :
    runL (G.add 8 (FC2 (.int .i64) (.int .i64) k8 (fun x0 x1 => .tv (I (r8 x0 x1))))) [(322, [0, 1, 5, 6]), (583, [0, 1, 5, 6, 7, 8])] Try.f13 1000 M13.round (S13 s0 s1 s6 b5) =
  bif (decide (s6 < s1)) then
    .loop M13a.body M13a.kont (S13a s0 s1 s6 0 b5 [])
  else
    .ret (.own LI b5) := by kernel_rfl
theorem i13a (G : Tbl) (k8 : Int → Int → Bool) (r8 : Int → Int → Int) (s0 : (List (Ty.D Ac))) (s1 : Int) (s6 : Int) (s8 : Int) (b5 : (List (List Int))) (b7 : (List Int)) :
    runL (G.add 8 (FC2 (.int .i64) (.int .i64) k8 (fun x0 x1 => .tv (I (r8 x0 x1))))) [(322, [0, 1, 5, 6]), (583, [0, 1, 5, 6, 7, 8])] Try.f13 1000 M13a.round (S13a s0 s1 s6 s8 b5 b7) =
  bif (decide (s8 < ((List.length s0 : Nat) : Int))) then
    bif (inB s8 (List.length s0)) then
      bif (k8 ((((List.getD s0 (Int.toNat s8) ((0, 0, 0, [], ()), [], [], 0, 0, ()))).1).1) s1) then
        bif ((r8 ((((List.getD s0 (Int.toNat s8) ((0, 0, 0, [], ()), [], [], 0, 0, ()))).1).1) s1) == s6) then
          bif (capOK (.int .i64) ((List.length b7) + (List.length [s8]))) then
            .loop M13a.body M13a.kont (S13a s0 s1 s6 (w (s8 + 1)) b5 (b7 ++ [s8]))
          else
            .fail
        else
          .loop M13a.body M13a.kont (S13a s0 s1 s6 (w (s8 + 1)) b5 b7)
      else
        .fail
    else
      .fail
  else
    bif (capOK LI ((List.length b5) + (List.length [b7]))) then
      .loop M13.body M13.kont (S13 s0 s1 (w (s6 + 1)) (b5 ++ [b7]))
    else
      .fail := by kernel_rfl
theorem e13 (G : Tbl) (k8 : Int → Int → Bool) (r8 : Int → Int → Int) (a0 : (List (Ty.D Ac))) (a1 : Int) :
    runL (G.add 8 (FC2 (.int .i64) (.int .i64) k8 (fun x0 x1 => .tv (I (r8 x0 x1))))) [(322, [0, 1, 5, 6]), (583, [0, 1, 5, 6, 7, 8])] Try.f13 1000 (bod Try.f13) (entry [(TD.mk LA a0), (I a1)]) =
  bif (bif (decide (a1 < 1)) then true else (decide (a1 > 8))) then
    .ret (.own LI [])
  else
    .loop M13.body M13.kont (S13 a0 a1 0 []) := by kernel_rfl

noncomputable def M14 : Leaf := .loop (cAt Try.f14 [1, 1, 0, 1, 0, 0]) [.inBlock 0, .code (cAt Try.f14 [1, 1, 1])] ⟨[], []⟩
def S14 (s1 : (List (List Int))) (s2 : (List (List (Ty.D Ac)))) (s7 : Int) : St := ⟨[(1, .tv (TD.mk LLI s1)), (2, .tv (TD.mk LLA s2)), (7, .tv (I s7))], []⟩
noncomputable def M14a : Leaf := .loop (cAt Try.f14 [1, 1, 1, 0, 1, 0, 0]) [.inBlock 2, .code (cAt Try.f14 [1, 1, 1, 1])] ⟨[], []⟩
def S14a (s2 : (List (List (Ty.D Ac)))) (s8 : Int) : St := ⟨[(2, .tv (TD.mk LLA s2)), (8, .tv (I s8))], []⟩
theorem i14 (G : Tbl)  (s1 : (List (List Int))) (s2 : (List (List (Ty.D Ac)))) (s7 : Int) :
    runL G [(258, [1, 2, 7]), (578, [2, 8])] Try.f14 1000 M14.round (S14 s1 s2 s7) =
  bif (decide (s7 < ((List.length s1 : Nat) : Int))) then
    bif (inB s7 (List.length s1)) then
      bif (decide (((List.length (List.getD s1 (Int.toNat s7) []) : Nat) : Int) > 40)) then
        .ret (.tv (B false))
      else
        .loop M14.body M14.kont (S14 s1 s2 (w (s7 + 1)))
    else
      .fail
  else
    .loop M14a.body M14a.kont (S14a s2 0) := by kernel_rfl
theorem i14a (G : Tbl)  (s2 : (List (List (Ty.D Ac)))) (s8 : Int) :
    runL G [(258, [1, 2, 7]), (578, [2, 8])] Try.f14 1000 M14a.round (S14a s2 s8) =
  bif (decide (s8 < ((List.length s2 : Nat) : Int))) then
    bif (inB s8 (List.length s2)) then
      bif (decide (((List.length (List.getD s2 (Int.toNat s8) []) : Nat) : Int) > 40)) then
        .ret (.tv (B false))
      else
        .loop M14a.body M14a.kont (S14a s2 (w (s8 + 1)))
    else
      .fail
  else
    .ret (.tv (B true)) := by kernel_rfl
theorem e14 (G : Tbl)  (a0 : (List (Ty.D Ac))) (a1 : (List (List Int))) (a2 : (List (List (Ty.D Ac)))) :
    runL G [(258, [1, 2, 7]), (578, [2, 8])] Try.f14 1000 (bod Try.f14) (entry [(TD.mk LA a0), (TD.mk LLI a1), (TD.mk LLA a2)]) =
  bif (bif (bif (decide (((List.length a0 : Nat) : Int) > 40)) then true else (decide (((List.length a1 : Nat) : Int) > 12))) then true else (decide (((List.length a2 : Nat) : Int) > 12))) then
    .ret (.tv (B false))
  else
    .loop M14.body M14.kont (S14 a1 a2 0) := by kernel_rfl

noncomputable def M15 : Leaf := .loop (cAt Try.f15 [1, 1, 0, 1, 0, 0]) [.inBlock 0, .code (cAt Try.f15 [1, 1, 1])] ⟨[], []⟩
def S15 (s0 : (List (Ty.D Ac))) (s1 : (List (Ty.D Ac))) (s5 : Int) : St := ⟨[(0, .tv (TD.mk LA s0)), (1, .tv (TD.mk LA s1)), (5, .tv (I s5))], []⟩
theorem i15 (G : Tbl) (k19 : (Ty.D Ac) → (Ty.D Ac) → Bool) (r19 : (Ty.D Ac) → (Ty.D Ac) → Bool) (s0 : (List (Ty.D Ac))) (s1 : (List (Ty.D Ac))) (s5 : Int) :
    runL (G.add 19 (FC2 Ac Ac k19 (fun x0 x1 => .tv (B (r19 x0 x1))))) [(258, [0, 1, 5])] Try.f15 1000 M15.round (S15 s0 s1 s5) =
  bif (bif (decide (s5 < ((List.length s0 : Nat) : Int))) then (decide (s5 < ((List.length s1 : Nat) : Int))) else false) then
    bif (inB s5 (List.length s0)) then
      bif (inB s5 (List.length s1)) then
        bif (k19 (List.getD s0 (Int.toNat s5) ((0, 0, 0, [], ()), [], [], 0, 0, ())) (List.getD s1 (Int.toNat s5) ((0, 0, 0, [], ()), [], [], 0, 0, ()))) then
          bif (!(r19 (List.getD s0 (Int.toNat s5) ((0, 0, 0, [], ()), [], [], 0, 0, ())) (List.getD s1 (Int.toNat s5) ((0, 0, 0, [], ()), [], [], 0, 0, ())))) then
            .ret (.tv (B false))
          else
            .loop M15.body M15.kont (S15 s0 s1 (w (s5 + 1)))
        else
          .fail
      else
        .fail
    else
      .fail
  else
    .ret (.tv (B true)) := by kernel_rfl
theorem e15 (G : Tbl) (k19 : (Ty.D Ac) → (Ty.D Ac) → Bool) (r19 : (Ty.D Ac) → (Ty.D Ac) → Bool) (a0 : (List (Ty.D Ac))) (a1 : (List (Ty.D Ac))) :
    runL (G.add 19 (FC2 Ac Ac k19 (fun x0 x1 => .tv (B (r19 x0 x1))))) [(258, [0, 1, 5])] Try.f15 1000 (bod Try.f15) (entry [(TD.mk LA a0), (TD.mk LA a1)]) =
  bif (((List.length a0 : Nat) : Int) != ((List.length a1 : Nat) : Int)) then
    .ret (.tv (B false))
  else
    .loop M15.body M15.kont (S15 a0 a1 0) := by kernel_rfl

noncomputable def M16 : Leaf := .loop (cAt Try.f16 [1, 1, 0, 1, 0, 0]) [.inBlock 0, .code (cAt Try.f16 [1, 1, 1])] ⟨[], []⟩
def S16 (s1 : (List (List Int))) (s2 : (List (List (Ty.D Ac)))) (s13 : (List (Ty.D Ac))) (s14 : Int) (s15 : Int) (b7 : (List (Ty.D Ac))) : St := ⟨[(1, .tv (TD.mk LLI s1)), (2, .tv (TD.mk LLA s2)), (7, .ref 7), (13, .tv (TD.mk LA s13)), (14, .tv (I s14)), (15, .tv (I s15))], [(7, .vec Ac b7)]⟩
noncomputable def M16a : Leaf := .loop (cAt Try.f16 [1, 1, 1, 0, 1, 0, 0]) [.inBlock 2, .code (cAt Try.f16 [1, 1, 1, 1])] ⟨[], []⟩
def S16a (s1 : (List (List Int))) (s2 : (List (List (Ty.D Ac)))) (s26 : Int) (s27 : Int) (b7 : (List (Ty.D Ac))) : St := ⟨[(1, .tv (TD.mk LLI s1)), (2, .tv (TD.mk LLA s2)), (7, .ref 7), (26, .tv (I s26)), (27, .tv (I s27))], [(7, .vec Ac b7)]⟩
noncomputable def M16b : Leaf := .loop (cAt Try.f16 [1, 1, 1, 0, 1, 0, 0, 1, 1, 0, 0, 1, 1, 0, 0]) [.inBlock 4, .inBlock 3, .code (cAt Try.f16 [1, 1, 1, 0, 1, 0, 0, 1, 1, 1]), .inLoop (cAt Try.f16 [1, 1, 1, 0, 1, 0, 0]), .inBlock 2, .code (cAt Try.f16 [1, 1, 1, 1])] ⟨[], []⟩
def S16b (s1 : (List (List Int))) (s2 : (List (List (Ty.D Ac)))) (s10 : Int) (s26 : Int) (s27 : Int) (s33 : (List Int)) (s34 : Int) (s35 : Int) (b7 : (List (Ty.D Ac))) : St := ⟨[(1, .tv (TD.mk LLI s1)), (2, .tv (TD.mk LLA s2)), (7, .ref 7), (10, .tv (I s10)), (26, .tv (I s26)), (27, .tv (I s27)), (33, .tv (TD.mk LI s33)), (34, .tv (I s34)), (35, .tv (I s35))], [(7, .vec Ac b7)]⟩
theorem i16 (G : Tbl) (k20 : (Ty.D Ac) → Bool) (r20 : (Ty.D Ac) → (Ty.D Ac)) (s1 : (List (List Int))) (s2 : (List (List (Ty.D Ac)))) (s13 : (List (Ty.D Ac))) (s14 : Int) (s15 : Int) (b7 : (List (Ty.D Ac))) :
    runL (G.add 20 (FC1 Ac k20 (fun x0 => .tv (TD.mk Ac (r20 x0))))) [(194, [1, 2, 7, 13, 14, 15]), (514, [1, 2, 7, 26, 27]), (710, [1, 2, 7, 10, 26, 27, 33, 34, 35])] Try.f16 1000 M16.round (S16 s1 s2 s13 s14 s15 b7) =
  bif (decide (s15 < s14)) then
    bif (inB s15 (List.length s13)) then
      bif (k20 (List.getD s13 (Int.toNat s15) ((0, 0, 0, [], ()), [], [], 0, 0, ()))) then
        bif (capOK Ac ((List.length b7) + (List.length [(r20 (List.getD s13 (Int.toNat s15) ((0, 0, 0, [], ()), [], [], 0, 0, ())))]))) then
          .loop M16.body M16.kont (S16 s1 s2 s13 s14 (w (s15 + 1)) (b7 ++ [(r20 (List.getD s13 (Int.toNat s15) ((0, 0, 0, [], ()), [], [], 0, 0, ())))]))
        else
          .fail
      else
        .fail
    else
      .fail
  else
    .loop M16a.body M16a.kont (S16a s1 s2 ((List.length s1 : Nat) : Int) 0 b7) := by kernel_rfl
theorem i16a (G : Tbl) (k20 : (Ty.D Ac) → Bool) (r20 : (Ty.D Ac) → (Ty.D Ac)) (s1 : (List (List Int))) (s2 : (List (List (Ty.D Ac)))) (s26 : Int) (s27 : Int) (b7 : (List (Ty.D Ac))) :
    runL (G.add 20 (FC1 Ac k20 (fun x0 => .tv (TD.mk Ac (r20 x0))))) [(194, [1, 2, 7, 13, 14, 15]), (514, [1, 2, 7, 26, 27]), (710, [1, 2, 7, 10, 26, 27, 33, 34, 35])] Try.f16 1000 M16a.round (S16a s1 s2 s26 s27 b7) =
  bif (decide (s27 < s26)) then
    bif (inB s27 (List.length s1)) then
      .loop M16b.body M16b.kont (S16b s1 s2 s27 s26 s27 (List.getD s1 (Int.toNat s27) []) ((List.length (List.getD s1 (Int.toNat s27) []) : Nat) : Int) 0 b7)
    else
      .fail
  else
    .ret (.own Ac b7) := by kernel_rfl
theorem i16b (G : Tbl) (k20 : (Ty.D Ac) → Bool) (r20 : (Ty.D Ac) → (Ty.D Ac)) (s1 : (List (List Int))) (s2 : (List (List (Ty.D Ac)))) (s10 : Int) (s26 : Int) (s27 : Int) (s33 : (List Int)) (s34 : Int) (s35 : Int) (b7 : (List (Ty.D Ac))) :
    runL (G.add 20 (FC1 Ac k20 (fun x0 => .tv (TD.mk Ac (r20 x0))))) [(194, [1, 2, 7, 13, 14, 15]), (514, [1, 2, 7, 26, 27]), (710, [1, 2, 7, 10, 26, 27, 33, 34, 35])] Try.f16 1000 M16b.round (S16b s1 s2 s10 s26 s27 s33 s34 s35 b7) =
  bif (decide (s35 < s34)) then
    bif (inB s35 (List.length s33)) then
      bif ((inB s10 (List.length s2)) || (!(decide (s10 < ((List.length s2 : Nat) : Int))))) then
        bif (bif (bif (bif (decide (s10 < ((List.length s2 : Nat) : Int))) then (decide (s35 < ((List.length (List.getD s2 (Int.toNat s10) []) : Nat) : Int))) else false) then (decide ((List.getD s33 (Int.toNat s35) 0) ≥ 0)) else false) then (decide ((List.getD s33 (Int.toNat s35) 0) < ((List.length b7 : Nat) : Int))) else false) then
          bif (inB s10 (List.length s2)) then
            bif (inB s35 (List.length (List.getD s2 (Int.toNat s10) []))) then
              bif (k20 (List.getD (List.getD s2 (Int.toNat s10) []) (Int.toNat s35) ((0, 0, 0, [], ()), [], [], 0, 0, ()))) then
                bif (inB (List.getD s33 (Int.toNat s35) 0) (List.length b7)) then
                  .loop M16b.body M16b.kont (S16b s1 s2 s10 s26 s27 s33 s34 (w (s35 + 1)) (List.set b7 (Int.toNat (List.getD s33 (Int.toNat s35) 0)) (r20 (List.getD (List.getD s2 (Int.toNat s10) []) (Int.toNat s35) ((0, 0, 0, [], ()), [], [], 0, 0, ())))))
                else
                  .fail
              else
                .fail
            else
              .fail
          else
            .fail
        else
          .loop M16b.body M16b.kont (S16b s1 s2 s10 s26 s27 s33 s34 (w (s35 + 1)) b7)
      else
        .fail
    else
      .fail
  else
    .loop M16a.body M16a.kont (S16a s1 s2 s26 (w (s27 + 1)) b7) := by kernel_rfl
theorem e16 (G : Tbl) (k20 : (Ty.D Ac) → Bool) (r20 : (Ty.D Ac) → (Ty.D Ac)) (a0 : (List (Ty.D Ac))) (a1 : (List (List Int))) (a2 : (List (List (Ty.D Ac)))) :
    runL (G.add 20 (FC1 Ac k20 (fun x0 => .tv (TD.mk Ac (r20 x0))))) [(194, [1, 2, 7, 13, 14, 15]), (514, [1, 2, 7, 26, 27]), (710, [1, 2, 7, 10, 26, 27, 33, 34, 35])] Try.f16 1000 (bod Try.f16) (entry [(TD.mk LA a0), (TD.mk LLI a1), (TD.mk LLA a2)]) =
  .loop M16.body M16.kont (S16 a1 a2 a0 ((List.length a0 : Nat) : Int) 0 []) := by kernel_rfl

noncomputable def M17 : Leaf := .loop (cAt Try.f17 [1, 1, 1, 0, 1, 0, 0]) [.inBlock 0, .code (cAt Try.f17 [1, 1, 1, 1])] ⟨[], []⟩
def S17 (s1 : (List (List Int))) (s2 : (List (List (Ty.D Ac)))) (s8 : Int) (b7 : (List (Ty.D Ac))) : St := ⟨[(1, .tv (TD.mk LLI s1)), (2, .tv (TD.mk LLA s2)), (7, .ref 7), (8, .tv (I s8))], [(7, .vec Ac b7)]⟩
noncomputable def M17a : Leaf := .loop (cAt Try.f17 [1, 1, 1, 0, 1, 0, 0, 1, 0, 0, 1, 0, 0]) [.inBlock 2, .inBlock 1, .code (cAt Try.f17 [1, 1, 1, 0, 1, 0, 0, 1, 1]), .inLoop (cAt Try.f17 [1, 1, 1, 0, 1, 0, 0]), .inBlock 0, .code (cAt Try.f17 [1, 1, 1, 1])] ⟨[], []⟩
def S17a (s1 : (List (List Int))) (s2 : (List (List (Ty.D Ac)))) (s8 : Int) (s9 : Int) (b7 : (List (Ty.D Ac))) : St := ⟨[(1, .tv (TD.mk LLI s1)), (2, .tv (TD.mk LLA s2)), (7, .ref 7), (8, .tv (I s8)), (9, .tv (I s9))], [(7, .vec Ac b7)]⟩
theorem i17 (G : Tbl)  (s1 : (List (List Int))) (s2 : (List (List (Ty.D Ac)))) (s8 : Int) (b7 : (List (Ty.D Ac))) :
    runL G [(258, [1, 2, 7, 8]), (454, [1, 2, 7, 8, 9])] Try.f17 1000 M17.round (S17 s1 s2 s8 b7) =
  bif (bif (decide (s8 < ((List.length s1 : Nat) : Int))) then (decide (s8 < ((List.length s2 : Nat) : Int))) else false) then
    .loop M17a.body M17a.kont (S17a s1 s2 s8 0 b7)
  else
    .ret (.own Ac b7) := by kernel_rfl
theorem i17a (G : Tbl)  (s1 : (List (List Int))) (s2 : (List (List (Ty.D Ac)))) (s8 : Int) (s9 : Int) (b7 : (List (Ty.D Ac))) :
    runL G [(258, [1, 2, 7, 8]), (454, [1, 2, 7, 8, 9])] Try.f17 1000 M17a.round (S17a s1 s2 s8 s9 b7) =
  bif (inB s8 (List.length s1)) then
    bif ((inB s8 (List.length s2)) || (!(decide (s9 < ((List.length (List.getD s1 (Int.toNat s8) []) : Nat) : Int))))) then
      bif (bif (decide (s9 < ((List.length (List.getD s1 (Int.toNat s8) []) : Nat) : Int))) then (decide (s9 < ((List.length (List.getD s2 (Int.toNat s8) []) : Nat) : Int))) else false) then
        bif (inB s8 (List.length s1)) then
          bif (inB s9 (List.length (List.getD s1 (Int.toNat s8) []))) then
            bif (bif (decide ((List.getD (List.getD s1 (Int.toNat s8) []) (Int.toNat s9) 0) ≥ 0)) then (decide ((List.getD (List.getD s1 (Int.toNat s8) []) (Int.toNat s9) 0) < ((List.length b7 : Nat) : Int))) else false) then
              bif (inB s8 (List.length s2)) then
                bif (inB s9 (List.length (List.getD s2 (Int.toNat s8) []))) then
                  bif (inB (List.getD (List.getD s1 (Int.toNat s8) []) (Int.toNat s9) 0) (List.length b7)) then
                    .loop M17a.body M17a.kont (S17a s1 s2 s8 (w (s9 + 1)) (List.set b7 (Int.toNat (List.getD (List.getD s1 (Int.toNat s8) []) (Int.toNat s9) 0)) (List.getD (List.getD s2 (Int.toNat s8) []) (Int.toNat s9) ((0, 0, 0, [], ()), [], [], 0, 0, ()))))
                  else
                    .fail
                else
                  .fail
              else
                .fail
            else
              .loop M17a.body M17a.kont (S17a s1 s2 s8 (w (s9 + 1)) b7)
          else
            .fail
        else
          .fail
      else
        .loop M17.body M17.kont (S17 s1 s2 (w (s8 + 1)) b7)
    else
      .fail
  else
    .fail := by kernel_rfl
theorem e17 (G : Tbl)  (a0 : (List (Ty.D Ac))) (a1 : (List (List Int))) (a2 : (List (List (Ty.D Ac)))) :
    runL G [(258, [1, 2, 7, 8]), (454, [1, 2, 7, 8, 9])] Try.f17 1000 (bod Try.f17) (entry [(TD.mk LA a0), (TD.mk LLI a1), (TD.mk LLA a2)]) =
  bif (capOK Ac (0 + (List.length a0))) then
    .loop M17.body M17.kont (S17 a1 a2 0 ([] ++ a0))
  else
    .fail := by kernel_rfl

noncomputable def M18 : Leaf := .loop (cAt Try.f18 [1, 1, 0, 1, 0, 0]) [.inBlock 0, .code (cAt Try.f18 [1, 1, 1])] ⟨[], []⟩
def S18 (s0 : (List Int)) (s1 : (List Int)) (s5 : Int) : St := ⟨[(0, .tv (TD.mk LI s0)), (1, .tv (TD.mk LI s1)), (5, .tv (I s5))], []⟩
theorem i18 (G : Tbl)  (s0 : (List Int)) (s1 : (List Int)) (s5 : Int) :
    runL G [(258, [0, 1, 5])] Try.f18 1000 M18.round (S18 s0 s1 s5) =
  bif (bif (decide (s5 < ((List.length s0 : Nat) : Int))) then (decide (s5 < ((List.length s1 : Nat) : Int))) else false) then
    bif (inB s5 (List.length s0)) then
      bif (inB s5 (List.length s1)) then
        bif ((List.getD s0 (Int.toNat s5) 0) != (List.getD s1 (Int.toNat s5) 0)) then
          .ret (.tv (B false))
        else
          .loop M18.body M18.kont (S18 s0 s1 (w (s5 + 1)))
      else
        .fail
    else
      .fail
  else
    .ret (.tv (B true)) := by kernel_rfl
theorem e18 (G : Tbl)  (a0 : (List Int)) (a1 : (List Int)) :
    runL G [(258, [0, 1, 5])] Try.f18 1000 (bod Try.f18) (entry [(TD.mk LI a0), (TD.mk LI a1)]) =
  bif (((List.length a0 : Nat) : Int) != ((List.length a1 : Nat) : Int)) then
    .ret (.tv (B false))
  else
    .loop M18.body M18.kont (S18 a0 a1 0) := by kernel_rfl

theorem e19 (G : Tbl) (k21 : (Ty.D Hh) → (Ty.D Hh) → Bool) (r21 : (Ty.D Hh) → (Ty.D Hh) → Bool) (k22 : (List (Ty.D Po)) → (List (Ty.D Po)) → Bool) (r22 : (List (Ty.D Po)) → (List (Ty.D Po)) → Bool) (k23 : (List (Ty.D Qp)) → (List (Ty.D Qp)) → Bool) (r23 : (List (Ty.D Qp)) → (List (Ty.D Qp)) → Bool) (a0 : (Ty.D Ac)) (a1 : (Ty.D Ac)) :
    runL (((G.add 21 (FC2 Hh Hh k21 (fun x0 x1 => .tv (B (r21 x0 x1))))).add 22 (FC2 LP LP k22 (fun x0 x1 => .tv (B (r22 x0 x1))))).add 23 (FC2 LQ LQ k23 (fun x0 x1 => .tv (B (r23 x0 x1))))) [] Try.f19 1000 (bod Try.f19) (entry [(TD.mk Ac a0), (TD.mk Ac a1)]) =
  bif (k21 a0.1 a1.1) then
    bif ((k22 a0.2.1 a1.2.1) || (!(r21 a0.1 a1.1))) then
      bif ((k23 a0.2.2.1 a1.2.2.1) || (!(bif (r21 a0.1 a1.1) then (r22 a0.2.1 a1.2.1) else false))) then
        .ret (.tv (B (bif (bif (bif (bif (r21 a0.1 a1.1) then (r22 a0.2.1 a1.2.1) else false) then (r23 a0.2.2.1 a1.2.2.1) else false) then (a0.2.2.2.1 == a1.2.2.2.1) else false) then (a0.2.2.2.2.1 == a1.2.2.2.2.1) else false)))
      else
        .fail
    else
      .fail
  else
    .fail := by kernel_rfl

theorem e20 (G : Tbl)  (a0 : (Ty.D Ac)) :
    runL G [] Try.f20 1000 (bod Try.f20) (entry [(TD.mk Ac a0)]) =
  bif (capOK Fa (0 + (List.length a0.1.2.2.2.1))) then
    bif (capOK Po (0 + (List.length a0.2.1))) then
      bif (capOK Qp (0 + (List.length a0.2.2.1))) then
        .ret (.tv (TD.mk Ac ((a0.1.1, a0.1.2.1, a0.1.2.2.1, ([] ++ a0.1.2.2.2.1), ()), ([] ++ a0.2.1), ([] ++ a0.2.2.1), a0.2.2.2.1, a0.2.2.2.2.1, ())))
      else
        .fail
    else
      .fail
  else
    .fail := by kernel_rfl

theorem e21 (G : Tbl) (k24 : (List (Ty.D Fa)) → (List (Ty.D Fa)) → Bool) (r24 : (List (Ty.D Fa)) → (List (Ty.D Fa)) → Bool) (a0 : (Ty.D Hh)) (a1 : (Ty.D Hh)) :
    runL (G.add 24 (FC2 LF LF k24 (fun x0 x1 => .tv (B (r24 x0 x1))))) [] Try.f21 1000 (bod Try.f21) (entry [(TD.mk Hh a0), (TD.mk Hh a1)]) =
  bif ((k24 a0.2.2.2.1 a1.2.2.2.1) || (!(bif (bif (a0.1 == a1.1) then (a0.2.1 == a1.2.1) else false) then (a0.2.2.1 == a1.2.2.1) else false))) then
    .ret (.tv (B (bif (bif (bif (a0.1 == a1.1) then (a0.2.1 == a1.2.1) else false) then (a0.2.2.1 == a1.2.2.1) else false) then (r24 a0.2.2.2.1 a1.2.2.2.1) else false)))
  else
    .fail := by kernel_rfl

noncomputable def M22 : Leaf := .loop (cAt Try.f22 [1, 1, 0, 1, 0, 0]) [.inBlock 0, .code (cAt Try.f22 [1, 1, 1])] ⟨[], []⟩
def S22 (s0 : (List (Ty.D Po))) (s1 : (List (Ty.D Po))) (s5 : Int) : St := ⟨[(0, .tv (TD.mk LP s0)), (1, .tv (TD.mk LP s1)), (5, .tv (I s5))], []⟩
theorem i22 (G : Tbl)  (s0 : (List (Ty.D Po))) (s1 : (List (Ty.D Po))) (s5 : Int) :
    runL G [(258, [0, 1, 5])] Try.f22 1000 M22.round (S22 s0 s1 s5) =
  bif (bif (decide (s5 < ((List.length s0 : Nat) : Int))) then (decide (s5 < ((List.length s1 : Nat) : Int))) else false) then
    bif (inB s5 (List.length s0)) then
      bif (inB s5 (List.length s1)) then
        bif (!(eqD Po (List.getD s0 (Int.toNat s5) (0, 0, 0, 0, ())) (List.getD s1 (Int.toNat s5) (0, 0, 0, 0, ())))) then
          .ret (.tv (B false))
        else
          .loop M22.body M22.kont (S22 s0 s1 (w (s5 + 1)))
      else
        .fail
    else
      .fail
  else
    .ret (.tv (B true)) := by kernel_rfl
theorem e22 (G : Tbl)  (a0 : (List (Ty.D Po))) (a1 : (List (Ty.D Po))) :
    runL G [(258, [0, 1, 5])] Try.f22 1000 (bod Try.f22) (entry [(TD.mk LP a0), (TD.mk LP a1)]) =
  bif (((List.length a0 : Nat) : Int) != ((List.length a1 : Nat) : Int)) then
    .ret (.tv (B false))
  else
    .loop M22.body M22.kont (S22 a0 a1 0) := by kernel_rfl

noncomputable def M23 : Leaf := .loop (cAt Try.f23 [1, 1, 0, 1, 0, 0]) [.inBlock 0, .code (cAt Try.f23 [1, 1, 1])] ⟨[], []⟩
def S23 (s0 : (List (Ty.D Qp))) (s1 : (List (Ty.D Qp))) (s5 : Int) : St := ⟨[(0, .tv (TD.mk LQ s0)), (1, .tv (TD.mk LQ s1)), (5, .tv (I s5))], []⟩
theorem i23 (G : Tbl)  (s0 : (List (Ty.D Qp))) (s1 : (List (Ty.D Qp))) (s5 : Int) :
    runL G [(258, [0, 1, 5])] Try.f23 1000 M23.round (S23 s0 s1 s5) =
  bif (bif (decide (s5 < ((List.length s0 : Nat) : Int))) then (decide (s5 < ((List.length s1 : Nat) : Int))) else false) then
    bif (inB s5 (List.length s0)) then
      bif (inB s5 (List.length s1)) then
        bif (!(eqD Qp (List.getD s0 (Int.toNat s5) (0, 0, 0, 0, 0, 0, 0, ())) (List.getD s1 (Int.toNat s5) (0, 0, 0, 0, 0, 0, 0, ())))) then
          .ret (.tv (B false))
        else
          .loop M23.body M23.kont (S23 s0 s1 (w (s5 + 1)))
      else
        .fail
    else
      .fail
  else
    .ret (.tv (B true)) := by kernel_rfl
theorem e23 (G : Tbl)  (a0 : (List (Ty.D Qp))) (a1 : (List (Ty.D Qp))) :
    runL G [(258, [0, 1, 5])] Try.f23 1000 (bod Try.f23) (entry [(TD.mk LQ a0), (TD.mk LQ a1)]) =
  bif (((List.length a0 : Nat) : Int) != ((List.length a1 : Nat) : Int)) then
    .ret (.tv (B false))
  else
    .loop M23.body M23.kont (S23 a0 a1 0) := by kernel_rfl

noncomputable def M24 : Leaf := .loop (cAt Try.f24 [1, 1, 0, 1, 0, 0]) [.inBlock 0, .code (cAt Try.f24 [1, 1, 1])] ⟨[], []⟩
def S24 (s0 : (List (Ty.D Fa))) (s1 : (List (Ty.D Fa))) (s5 : Int) : St := ⟨[(0, .tv (TD.mk LF s0)), (1, .tv (TD.mk LF s1)), (5, .tv (I s5))], []⟩
theorem i24 (G : Tbl)  (s0 : (List (Ty.D Fa))) (s1 : (List (Ty.D Fa))) (s5 : Int) :
    runL G [(258, [0, 1, 5])] Try.f24 1000 M24.round (S24 s0 s1 s5) =
  bif (bif (decide (s5 < ((List.length s0 : Nat) : Int))) then (decide (s5 < ((List.length s1 : Nat) : Int))) else false) then
    bif (inB s5 (List.length s0)) then
      bif (inB s5 (List.length s1)) then
        bif (!(eqD Fa (List.getD s0 (Int.toNat s5) (0, 0, 0, (0, 0, 0, ()), (0, 0, ()), 0, ())) (List.getD s1 (Int.toNat s5) (0, 0, 0, (0, 0, 0, ()), (0, 0, ()), 0, ())))) then
          .ret (.tv (B false))
        else
          .loop M24.body M24.kont (S24 s0 s1 (w (s5 + 1)))
      else
        .fail
    else
      .fail
  else
    .ret (.tv (B true)) := by kernel_rfl
theorem e24 (G : Tbl)  (a0 : (List (Ty.D Fa))) (a1 : (List (Ty.D Fa))) :
    runL G [(258, [0, 1, 5])] Try.f24 1000 (bod Try.f24) (entry [(TD.mk LF a0), (TD.mk LF a1)]) =
  bif (((List.length a0 : Nat) : Int) != ((List.length a1 : Nat) : Int)) then
    .ret (.tv (B false))
  else
    .loop M24.body M24.kont (S24 a0 a1 0) := by kernel_rfl

theorem e3 (G : Tbl) (k7 : Int → Int → Bool) (r7 : Int → Int → Int) (k8 : Int → Int → Bool) (r8 : Int → Int → Int) (k9 : Bool) (r9 : Bool) (a0 : Int) (a1 : Int) :
    runL (((G.add 7 (FC2 (.int .i64) (.int .i64) k7 (fun x0 x1 => .tv (I (r7 x0 x1))))).add 8 (FC2 (.int .i64) (.int .i64) k8 (fun x0 x1 => .tv (I (r8 x0 x1))))).add 9 (FC0  k9 (.tv (B r9)))) [] Try.f3 1000 (bod Try.f3) (entry [(I a0), (I a1)]) =
  bif (k7 a0 a1) then
    bif (bif (bif (decide (a1 ≥ 1)) then (decide (a1 ≤ 65536)) else false) then (bif (decide ((r7 a0 a1) < 0)) then true else (decide ((r7 a0 a1) ≥ a1))) else false) then
      .ret (.tv (B false))
    else
      bif (k8 a0 a1) then
        bif (k9 || (!((r7 a0 a1) == (r8 a0 a1)))) then
          .ret (.tv (B (bif ((r7 a0 a1) == (r8 a0 a1)) then r9 else false)))
        else
          .fail
      else
        .fail
  else
    .fail := by kernel_rfl

theorem e4 (G : Tbl) (k9 : Bool) (r9 : Bool) (k10 : (List Int) → Bool) (r10 : (List Int) → (List (Ty.D Ac))) (k11 : (List (List Int)) → (List (List Int)) → Bool) (r11 : (List (List Int)) → (List (List Int)) → Bool) (k12 : (List (Ty.D Ac)) → Int → Bool) (r12 : (List (Ty.D Ac)) → Int → (List (List Int))) (k13 : (List (Ty.D Ac)) → Int → Bool) (r13 : (List (Ty.D Ac)) → Int → (List (List Int))) (a0 : (List Int)) (a1 : Int) :
    runL (((((G.add 9 (FC0  k9 (.tv (B r9)))).add 10 (FC1 LI k10 (fun x0 => .tv (TD.mk LA (r10 x0))))).add 11 (FC2 LLI LLI k11 (fun x0 x1 => .tv (B (r11 x0 x1))))).add 12 (FC2 LA (.int .i64) k12 (fun x0 x1 => .tv (TD.mk LLI (r12 x0 x1))))).add 13 (FC2 LA (.int .i64) k13 (fun x0 x1 => .tv (TD.mk LLI (r13 x0 x1))))) [] Try.f4 1000 (bod Try.f4) (entry [(TD.mk LI a0), (I a1)]) =
  bif (decide (((List.length a0 : Nat) : Int) > 200)) then
    bif k9 then
      .ret (.tv (B r9))
    else
      .fail
  else
    bif (k10 a0) then
      bif (k12 (r10 a0) a1) then
        bif (k13 (r10 a0) a1) then
          bif (k11 (r12 (r10 a0) a1) (r13 (r10 a0) a1)) then
            bif (k9 || (!(r11 (r12 (r10 a0) a1) (r13 (r10 a0) a1)))) then
              .ret (.tv (B (bif (r11 (r12 (r10 a0) a1) (r13 (r10 a0) a1)) then r9 else false)))
            else
              .fail
          else
            .fail
        else
          .fail
      else
        .fail
    else
      .fail := by kernel_rfl

theorem e5 (G : Tbl) (k9 : Bool) (r9 : Bool) (k14 : (List (Ty.D Ac)) → (List (List Int)) → (List (List (Ty.D Ac))) → Bool) (r14 : (List (Ty.D Ac)) → (List (List Int)) → (List (List (Ty.D Ac))) → Bool) (k15 : (List (Ty.D Ac)) → (List (Ty.D Ac)) → Bool) (r15 : (List (Ty.D Ac)) → (List (Ty.D Ac)) → Bool) (k16 : (List (Ty.D Ac)) → (List (List Int)) → (List (List (Ty.D Ac))) → Bool) (r16 : (List (Ty.D Ac)) → (List (List Int)) → (List (List (Ty.D Ac))) → (List (Ty.D Ac))) (k17 : (List (Ty.D Ac)) → (List (List Int)) → (List (List (Ty.D Ac))) → Bool) (r17 : (List (Ty.D Ac)) → (List (List Int)) → (List (List (Ty.D Ac))) → (List (Ty.D Ac))) (a0 : (List (Ty.D Ac))) (a1 : (List (List Int))) (a2 : (List (List (Ty.D Ac)))) :
    runL (((((G.add 9 (FC0  k9 (.tv (B r9)))).add 14 (FC3 LA LLI LLA k14 (fun x0 x1 x2 => .tv (B (r14 x0 x1 x2))))).add 15 (FC2 LA LA k15 (fun x0 x1 => .tv (B (r15 x0 x1))))).add 16 (FC3 LA LLI LLA k16 (fun x0 x1 x2 => .tv (TD.mk LA (r16 x0 x1 x2))))).add 17 (FC3 LA LLI LLA k17 (fun x0 x1 x2 => .tv (TD.mk LA (r17 x0 x1 x2))))) [] Try.f5 1000 (bod Try.f5) (entry [(TD.mk LA a0), (TD.mk LLI a1), (TD.mk LLA a2)]) =
  bif (k14 a0 a1 a2) then
    bif (!(r14 a0 a1 a2)) then
      bif k9 then
        .ret (.tv (B r9))
      else
        .fail
    else
      bif (k16 a0 a1 a2) then
        bif (k17 a0 a1 a2) then
          bif (k15 (r16 a0 a1 a2) (r17 a0 a1 a2)) then
            bif (k9 || (!(r15 (r16 a0 a1 a2) (r17 a0 a1 a2)))) then
              .ret (.tv (B (bif (r15 (r16 a0 a1 a2) (r17 a0 a1 a2)) then r9 else false)))
            else
              .fail
          else
            .fail
        else
          .fail
      else
        .fail
  else
    .fail := by kernel_rfl

end Go.Lift.V48
set_option maxRecDepth 100000
set_option linter.unusedVariables false
set_option linter.unusedSimpArgs false
namespace Go.Lift.V48
open Go.Lift Go.Proofs

theorem bor_bif {a b : Bool} : (bif a then true else b) = (a || b) := by cases a <;> rfl
theorem band_bif {a b : Bool} : (bif a then b else false) = (a && b) := by cases a <;> rfl
def mxOK (n : Nat) : Bool := decide (n ≤ 9223372036854775807)
theorem mxOK_spec {n : Nat} (h : mxOK n = true) : n ≤ 9223372036854775807 := of_decide_eq_true h
theorem toNat_lt {i : Int} {n : Nat} (h0 : 0 ≤ i) (h : i < (n : Int)) : inB i n = true := by
  unfold inB; rw [decide_eq_true h0, decide_eq_true h]; rfl
theorem w_step {i : Int} {n : Nat} (h0 : 0 ≤ i) (h : i < (n : Int)) (hn : n ≤ 9223372036854775807) : w (i + 1) = i + 1 := wrap_id (by omega) (by omega)
theorem drop_cons {α : Type} (l : List α) (z : α) (i : Nat) (h : i < l.length) : l.drop i = l.getD i z :: l.drop (i + 1) := by
  rw [List.drop_eq_getElem_cons h]
  simp [List.getD, List.getElem?_eq_getElem h]
theorem drop_end {α : Type} {l : List α} {i : Nat} (h : l.length ≤ i) : l.drop i = [] := List.drop_eq_nil_of_le h

/-! the shard of a household -/
def ofG (h n : Int) : Int :=
  bif (bif (bif (decide (n < 1)) then true else (decide (n > 65536))) then true else (decide (h < 0))) then 0 else w (Int.tdiv (w ((Int.tmod (w ((Int.tmod h 1048576) * 40503)) 65536) * n)) 65536)
theorem has7 : Hs 7 (FOf (fun _ _ => true) ofG) := by
  refine Has.fc2 (fn := Try.f7) env0 (by kernel_rfl) (by kernel_rfl) (by kernel_rfl) (by kernel_rfl) fun (h n : Int) _ => .run1 (e7 _ h n) ?_
  unfold ofG
  cases (bif (bif (decide (n < 1)) then true else (decide (n > 65536))) then true else (decide (h < 0))) <;> exact .ret _
theorem has8 : Hs 8 (FOf (fun _ _ => true) ofG) := by
  refine Has.fc2 (fn := Try.f8) env0 (by kernel_rfl) (by kernel_rfl) (by kernel_rfl) (by kernel_rfl) fun (h n : Int) _ => .run1 (e8 _ h n) ?_
  unfold ofG
  cases (bif (bif (decide (n < 1)) then true else (decide (n > 65536))) then true else (decide (h < 0))) <;> exact .ret _
theorem ofG_in (h n : Int) (h1 : 1 ≤ n) (h2 : n ≤ 65536) : 0 ≤ ofG h n ∧ ofG h n < n := by
  unfold ofG
  rw [bor_bif, bor_bif, decide_eq_false (by omega : ¬ n < 1), decide_eq_false (by omega : ¬ n > 65536), Bool.false_or, Bool.false_or]
  by_cases hh : h < 0
  · rw [decide_eq_true hh]
    exact ⟨Int.le_refl _, by show (0 : Int) < n; omega⟩
  · rw [decide_eq_false hh, cond_false]
    obtain ⟨a, ha⟩ : ∃ a, a = Int.tmod h 1048576 := ⟨_, rfl⟩
    have a1 : 0 ≤ a := by rw [ha]; exact Int.tmod_nonneg _ (by omega)
    have a2 : a < 1048576 := by rw [ha]; exact Int.tmod_lt_of_pos _ (by omega)
    rw [← ha, show w (a * 40503) = a * 40503 from wrap_id (by omega) (by omega)]
    obtain ⟨b, hb⟩ : ∃ b, b = Int.tmod (a * 40503) 65536 := ⟨_, rfl⟩
    have b1 : 0 ≤ b := by rw [hb]; exact Int.tmod_nonneg _ (by omega)
    have b2 : b < 65536 := by rw [hb]; exact Int.tmod_lt_of_pos _ (by omega)
    rw [← hb]
    have c1 : 0 ≤ b * n := Int.mul_nonneg b1 (by omega)
    have c2 : b * n ≤ 65535 * n := Int.mul_le_mul_of_nonneg_right (by omega) (by omega)
    rw [show w (b * n) = b * n from wrap_id (by omega) (by omega), Int.tdiv_eq_ediv_of_nonneg c1]
    have d1 : 0 ≤ b * n / 65536 := Int.ediv_nonneg c1 (by omega)
    have d2 : b * n / 65536 < n := by omega
    rw [show w (b * n / 65536) = b * n / 65536 from wrap_id (by omega) (by omega)]
    exact ⟨d1, d2⟩

/-! equal lists -/
theorem loop18 (a b : List Int) (hl : a.length ≤ 9223372036854775807) (hab : a.length = b.length) : ∀ (k : Nat) (i : Nat), i + k = a.length →
    Goes Tbl.none T Try.f18.ntmps Try.f18.results.toList (.loop M18.body M18.kont (S18 a b i)) (.tv (B (decide (a.drop i = b.drop i))))
  | 0, i, h => by
    refine Goes.lp' (i18 Tbl.none a b i) ?_
    rw [decide_eq_false (show ¬ (i : Int) < ((a.length : Nat) : Int) by omega), drop_end (l := a) (by omega), drop_end (l := b) (by omega)]
    exact .ret _
  | k + 1, i, h => by
    refine Goes.lp' (i18 Tbl.none a b i) ?_
    have hi : (i : Int) < ((a.length : Nat) : Int) := by omega
    have hj : (i : Int) < ((b.length : Nat) : Int) := by omega
    rw [decide_eq_true hi, cond_true, decide_eq_true hj, cond_true, toNat_lt (by omega) hi, cond_true, toNat_lt (by omega) hj, cond_true, w_step (by omega) hi hl, Int.toNat_natCast, drop_cons a 0 i (by omega), drop_cons b 0 i (by omega)]
    generalize a.getD i 0 = x
    generalize b.getD i 0 = y
    by_cases e : x = y
    · subst e
      rw [show (x != x) = false by simp, cond_false, show decide (x :: a.drop (i + 1) = x :: b.drop (i + 1)) = decide (a.drop (i + 1) = b.drop (i + 1)) by simp]
      exact loop18 a b hl hab k (i + 1) (by omega)
    · rw [show (x != y) = true by simp [e], cond_true, show decide (x :: a.drop (i + 1) = y :: b.drop (i + 1)) = false by simp [e]]
      exact .ret _
abbrev FEqI := FC2 LI LI (fun a _ => mxOK (List.length a)) fun (a : List Int) (b : List Int) => .tv (B (decide (a = b)))
theorem has18 : Hs 18 FEqI := by
  refine Has.fc2 (fn := Try.f18) env0 (by kernel_rfl) (by kernel_rfl) (by kernel_rfl) (by kernel_rfl) fun (a : List Int) (b : List Int) h => .run1 (e18 Tbl.none a b) ?_
  by_cases e : a.length = b.length
  · rw [show (((a.length : Nat) : Int) != ((b.length : Nat) : Int)) = false by simp [e]]
    exact loop18 a b (mxOK_spec h) e a.length 0 (by omega)
  · rw [show (((a.length : Nat) : Int) != ((b.length : Nat) : Int)) = true by simp; omega, show decide (a = b) = false by simp; intro h; exact e (by rw [h])]
    exact .ret _
noncomputable def G11 : Tbl := Tbl.none.add 18 FEqI
theorem loop11 (a b : List (List Int)) (hl : a.length ≤ 9223372036854775807) (ha : ∀ x ∈ a, mxOK (List.length x) = true) (hab : a.length = b.length) : ∀ (k : Nat) (i : Nat), i + k = a.length →
    Goes G11 T Try.f11.ntmps Try.f11.results.toList (.loop M11.body M11.kont (S11 a b i)) (.tv (B (decide (a.drop i = b.drop i))))
  | 0, i, h => by
    refine Goes.lp' (i11 Tbl.none (fun a _ => mxOK (List.length a)) (fun a b => decide (a = b)) a b i) ?_
    rw [decide_eq_false (show ¬ (i : Int) < ((a.length : Nat) : Int) by omega), drop_end (l := a) (by omega), drop_end (l := b) (by omega)]
    exact .ret _
  | k + 1, i, h => by
    refine Goes.lp' (i11 Tbl.none (fun a _ => mxOK (List.length a)) (fun a b => decide (a = b)) a b i) ?_
    have hi : (i : Int) < ((a.length : Nat) : Int) := by omega
    have hj : (i : Int) < ((b.length : Nat) : Int) := by omega
    have hm : mxOK (List.length (a.getD i [])) = true := ha _ (by simp [List.getD, show i < a.length by omega])
    rw [decide_eq_true hi, cond_true, decide_eq_true hj, cond_true, toNat_lt (by omega) hi, cond_true, toNat_lt (by omega) hj, cond_true, w_step (by omega) hi hl, Int.toNat_natCast, hm, cond_true, drop_cons a [] i (by omega), drop_cons b [] i (by omega)]
    generalize a.getD i [] = x
    generalize b.getD i [] = y
    by_cases e : x = y
    · subst e
      rw [show decide (x = x) = true by simp, Bool.not_true, cond_false, show decide (x :: a.drop (i + 1) = x :: b.drop (i + 1)) = decide (a.drop (i + 1) = b.drop (i + 1)) by simp]
      exact loop11 a b hl ha hab k (i + 1) (by omega)
    · rw [show decide (x = y) = false by simp [e], Bool.not_false, cond_true, show decide (x :: a.drop (i + 1) = y :: b.drop (i + 1)) = false by simp [e]]
      exact .ret _
def okLL (a : List (List Int)) : Bool := mxOK a.length && a.all fun x => mxOK (List.length x)
abbrev FEqLL := FC2 LLI LLI (fun a _ => okLL a) fun (a : List (List Int)) (b : List (List Int)) => .tv (B (decide (a = b)))
theorem has11 : Hs 11 FEqLL := by
  refine Has.fc2 (fn := Try.f11) (env0.more has18) (by kernel_rfl) (by kernel_rfl) (by kernel_rfl) (by kernel_rfl) fun (a : List (List Int)) (b : List (List Int)) h => .run1 (e11 Tbl.none (fun a _ => mxOK (List.length a)) (fun a b => decide (a = b)) a b) ?_
  have h' := h
  unfold okLL at h'
  rw [Bool.and_eq_true, List.all_eq_true] at h'
  by_cases e : a.length = b.length
  · rw [show (((a.length : Nat) : Int) != ((b.length : Nat) : Int)) = false by simp [e]]
    exact loop11 a b (mxOK_spec h'.1) h'.2 e a.length 0 (by omega)
  · rw [show (((a.length : Nat) : Int) != ((b.length : Nat) : Int)) = true by simp; omega, show decide (a = b) = false by simp; intro h; exact e (by rw [h])]
    exact .ret _

/-! the chapter's examples -/
noncomputable abbrev FPart := FC2 LA (.int .i64) (fun l _ => lenOK (List.length l + 2)) fun l n => .tv ⟨LLI, rPart ofG l n⟩
theorem has12 : Hs 12 FPart := has_Part has7 (fun _ _ => rfl) fun h n h1 h2 => ofG_in h n h1 (by omega)
theorem e9 : runL (((Tbl.none.add 7 (FOf (fun _ _ => true) ofG)).add 11 FEqLL).add 12 FPart) [] Try.f9 1000 (bod Try.f9) (entry []) = .ret (.tv (B true)) := by kernel_rfl
abbrev FAwake := FC0 true (.tv (B true))
theorem has9 : Hs 9 FAwake :=
  Has.fc0 (fn := Try.f9) (((env0.more has7).more has11).more has12) (by kernel_rfl) (by kernel_rfl) (by kernel_rfl) (by kernel_rfl) fun _ => .run1 e9 (.ret _)

theorem has3 : Hs 3 (FC2 (.int .i64) (.int .i64) (fun _ _ => true) fun _ _ => .tv (B true)) := by
  refine Has.fc2 (fn := Try.f3) (((env0.more has7).more has8).more has9) (by kernel_rfl) (by kernel_rfl) (by kernel_rfl) (by kernel_rfl) fun (h n : Int) _ => .run1 (e3 Tbl.none (fun _ _ => true) ofG (fun _ _ => true) ofG true true h n) ?_
  rw [cond_true]
  have hc : (bif (bif (decide (n ≥ 1)) then (decide (n ≤ 65536)) else false) then (bif (decide ((ofG h n) < 0)) then true else (decide ((ofG h n) ≥ n))) else false) = false := by
    rw [band_bif, band_bif, bor_bif]
    by_cases h1 : n ≥ 1
    · by_cases h2 : n ≤ 65536
      · obtain ⟨a, b⟩ := ofG_in h n h1 h2
        rw [decide_eq_false (by omega : ¬ ofG h n < 0), decide_eq_false (by omega : ¬ ofG h n ≥ n)]; simp
      · rw [decide_eq_false h2]; simp
    · rw [decide_eq_false h1]; simp
  rw [hc, cond_false, cond_true]
  simp only [beq_self_eq_true, Bool.true_or, cond_true]
  exact .ret _
end Go.Lift.V48
set_option maxRecDepth 100000
set_option linter.unusedVariables false
set_option linter.unusedSimpArgs false
namespace Go.Lift.V48
open Go.Lift Go.Proofs

/-! accounts with given households -/
def acc1 (h i : Int) : Ac.D := ((h, 0, 0, [], ()), [], [], i, 0, ())
def accN (ids : List Int) (n : Nat) : List Ac.D := (List.range n).map fun (j : Nat) => acc1 (ids.getD j 0) j
def accG (ids : List Int) : List Ac.D := accN ids ids.length
theorem accN_len (ids : List Int) (n : Nat) : (accN ids n).length = n := by simp [accN]
theorem accN_next (ids : List Int) (n : Nat) : accN ids (n + 1) = accN ids n ++ [acc1 (ids.getD n 0) n] := by simp [accN, List.range_succ]
theorem accN_at (ids : List Int) (n j : Nat) (h : j < n) : (accN ids n).getD j zA = acc1 (ids.getD j 0) j := by simp [accN, List.getD, h]
theorem getD_mid {α : Type} (a : List α) (x d : α) (r : List α) (i : Nat) (h : a.length = i) : (a ++ x :: r).getD i d = x := by
  subst h; simp [List.getD]
theorem set_mid {α : Type} (a : List α) (x y : α) (r : List α) (i : Nat) (h : a.length = i) : (a ++ x :: r).set i y = a ++ y :: r := by
  subst h; simp
theorem loop10 (ids : List Int) (hl : ids.length ≤ 9223372036854775807) : ∀ (k i : Nat), i + k = ids.length →
    Goes Tbl.none T Try.f10.ntmps Try.f10.results.toList (.loop M10.body M10.kont (S10 ids i (accN ids i ++ List.replicate k zA))) (.own Ac (accG ids))
  | 0, i, h => by
    refine Goes.lp' (i10 Tbl.none ids i _) ?_
    rw [decide_eq_false (show ¬ (i : Int) < ((ids.length : Nat) : Int) by omega), cond_false, List.replicate_zero, List.append_nil, show i = ids.length by omega]
    exact .ret _
  | k + 1, i, h => by
    refine Goes.lp' (i10 Tbl.none ids i _) ?_
    have hi : (i : Int) < ((ids.length : Nat) : Int) := by omega
    have hb : (i : Int) < (((accN ids i ++ List.replicate (k + 1) zA).length : Nat) : Int) := by rw [List.length_append, accN_len, List.length_replicate]; omega
    rw [decide_eq_true hi, cond_true, toNat_lt (by omega) hi, cond_true, toNat_lt (by omega) hb, cond_true, List.length_set, toNat_lt (by omega) hb, cond_true, w_step (by omega) hi hl, Int.toNat_natCast, show ((i : Int) + 1) = ((i + 1 : Nat) : Int) by omega, List.replicate_succ]
    rw [getD_mid _ _ _ _ _ (accN_len ids i), set_mid _ _ _ _ _ (accN_len ids i), getD_mid _ _ _ _ _ (accN_len ids i), set_mid _ _ _ _ _ (accN_len ids i)]
    have := loop10 ids hl k (i + 1) (by omega)
    rw [accN_next, List.append_assoc] at this
    exact this
theorem has10 : Hs 10 (FC1 LI (fun l => lenOK (List.length l)) fun l => .tv ⟨LA, accG l⟩) := by
  have h := Has.fc1 (a0 := LI) (k := fun l => lenOK (List.length l)) (r := fun l => .own Ac (accG l)) (fn := Try.f10) (f := 10) env0 (by kernel_rfl) (by kernel_rfl) (by kernel_rfl) (by kernel_rfl) fun (l : List Int) h => .run1 (e10 Tbl.none l) (by
    have hb : l.length ≤ 68719476736 := lenOK_spec h
    have hc : capOK Ac l.length = true := decide_eq_true (by show l.length * 112 ≤ 140737488355328; omega)
    rw [Int.toNat_natCast, hc, decide_eq_true (by omega : (0 : Int) ≤ ((l.length : Nat) : Int)), decide_eq_true (Int.le_refl _)]
    exact loop10 l (by omega) l.length 0 (by omega))
  refine Has.cool h fun tds s hs => ?_
  unfold FC1 at *
  split at hs
  · simp only [Option.map_eq_some_iff] at hs
    obtain ⟨x, hx, rfl⟩ := hs
    exact ⟨Ac, accG x, by simp only [hx, Option.map_some], rfl⟩
  · simp at hs

/-! the reference's partition -/
abbrev F8 := FOf (fun _ _ => true) ofG
theorem pIdx_next (r7 : Int → Int → Int) (l : List Ac.D) (n : Int) (i k : Nat) : pIdx r7 l n (i + 1) k = bif r7 (hO l (i : Int)) n == (k : Int) then pIdx r7 l n i k ++ [(i : Int)] else pIdx r7 l n i k := by
  unfold pIdx
  rw [List.range_succ, List.filter_append, List.map_append]
  cases h : (r7 (hO l (i : Int)) n == (k : Int)) with
  | true => simp [List.filter_cons, h]
  | false => simp [List.filter_cons, h]
theorem pLs_succ (r7 : Int → Int → Int) (l : List Ac.D) (n : Int) (k i : Nat) : pLs r7 l n (k + 1) i = pLs r7 l n k i ++ [pIdx r7 l n i k] := by simp [pLs, List.range_succ]
noncomputable def G13 : Tbl := Tbl.none.add 8 F8
theorem loop13a (l : List Ac.D) (hl : l.length ≤ 68719476736) (n : Int) (k : Nat) (b5 : List (List Int)) (r : SV) (hk : b5.length ≤ 8) (hn : Goes G13 T Try.f13.ntmps Try.f13.results.toList (.loop M13.body M13.kont (S13 l n (w ((k : Int) + 1)) (b5 ++ [pIdx ofG l n l.length k]))) r) : ∀ (d i : Nat), i + d = l.length →
    Goes G13 T Try.f13.ntmps Try.f13.results.toList (.loop M13a.body M13a.kont (S13a l n k i b5 (pIdx ofG l n i k))) r
  | 0, i, h => by
    refine Goes.lp' (i13a Tbl.none (fun _ _ => true) ofG l n k i b5 _) ?_
    have hc : capOK LI (b5.length + 1) = true := decide_eq_true (by show (b5.length + 1) * 24 ≤ 140737488355328; omega)
    rw [decide_eq_false (show ¬ (i : Int) < ((l.length : Nat) : Int) by omega), cond_false, List.length_singleton, hc, cond_true, show i = l.length by omega]
    exact hn
  | d + 1, i, h => by
    refine Goes.lp' (i13a Tbl.none (fun _ _ => true) ofG l n k i b5 _) ?_
    have hi : (i : Int) < ((l.length : Nat) : Int) := by omega
    have hp := pIdx_len ofG l n i k
    have hc : capOK (.int .i64) ((pIdx ofG l n i k).length + 1) = true := decide_eq_true (by show ((pIdx ofG l n i k).length + 1) * 8 ≤ 140737488355328; omega)
    rw [decide_eq_true hi, cond_true, toNat_lt (by omega) hi, cond_true, cond_true, w_step (by omega) hi (by omega), show ((i : Int) + 1) = ((i + 1 : Nat) : Int) by omega, List.length_singleton, hc, cond_true]
    have hnx := loop13a l hl n k b5 r hk hn d (i + 1) (by omega)
    rw [pIdx_next] at hnx
    change Goes _ _ _ _ (bif (ofG (hO l (i : Int)) n == (k : Int)) then _ else _) _
    cases e : (ofG (hO l (i : Int)) n == (k : Int)) with
    | true => rw [e] at hnx; exact hnx
    | false => rw [e] at hnx; exact hnx
theorem loop13 (l : List Ac.D) (hl : l.length ≤ 68719476736) (m : Nat) (hm : m ≤ 8) : ∀ (d k : Nat), k + d = m →
    Goes G13 T Try.f13.ntmps Try.f13.results.toList (.loop M13.body M13.kont (S13 l m k (pLs ofG l m k l.length))) (.own LI (pLs ofG l m m l.length))
  | 0, k, h => by
    refine Goes.lp' (i13 Tbl.none (fun _ _ => true) ofG l m k _) ?_
    rw [decide_eq_false (show ¬ (k : Int) < (m : Int) by omega), cond_false, show k = m by omega]
    exact .ret _
  | d + 1, k, h => by
    refine Goes.lp' (i13 Tbl.none (fun _ _ => true) ofG l m k _) ?_
    rw [decide_eq_true (show (k : Int) < (m : Int) by omega), cond_true]
    have hp : pIdx ofG l m 0 k = [] := by simp [pIdx]
    have hnx := loop13 l hl m hm d (k + 1) (by omega)
    rw [pLs_succ] at hnx
    have := loop13a l hl m k (pLs ofG l m k l.length) (.own LI (pLs ofG l m m l.length)) (by rw [pLs_len]; omega) (by rw [show w ((k : Int) + 1) = ((k + 1 : Nat) : Int) by rw [show w ((k : Int) + 1) = (k : Int) + 1 from wrap_id (by omega) (by omega)]; omega]; exact hnx) l.length 0 (by omega)
    rw [hp] at this
    exact this
theorem has13 : Hs 13 (FC2 LA (.int .i64) (fun l _ => lenOK (List.length l + 2)) fun l n => .tv ⟨LLI, rPart ofG l n⟩) := by
  refine Has.cool2 (Has.fc2 (fn := Try.f13) (env0.more has8) (by kernel_rfl) (by kernel_rfl) (by kernel_rfl) (by kernel_rfl) fun (l : List Ac.D) (n : Int) h => .run1 (e13 Tbl.none (fun _ _ => true) ofG l n) ?_)
  have hl : l.length + 2 ≤ 68719476736 := lenOK_spec h
  rw [bor_bif]
  unfold rPart
  refine .bif (fun g => ?_) fun g => ?_
  · rw [g]; exact .ret _
  · rw [g, cond_false]
    obtain ⟨c1, c2⟩ := Bool.or_eq_false_iff.1 g
    have c1 := of_decide_eq_false c1
    have c2 := of_decide_eq_false c2
    obtain ⟨m, rfl⟩ : ∃ m : Nat, n = (m : Int) := ⟨n.toNat, by omega⟩
    rw [Int.toNat_natCast]
    exact loop13 l (by omega) m (by omega) m 0 (by omega)
theorem okLL_part (l : List Ac.D) (hl : l.length ≤ 68719476736) (n : Int) : okLL (rPart ofG l n) = true := by
  unfold rPart
  cases hc : (decide (n < 1) || decide (n > 8)) with
  | true => rfl
  | false =>
    rw [cond_false]
    obtain ⟨c1, c2⟩ := Bool.or_eq_false_iff.1 hc
    have c1 := of_decide_eq_false c1
    have c2 := of_decide_eq_false c2
    unfold okLL
    rw [Bool.and_eq_true, List.all_eq_true]
    refine ⟨decide_eq_true (by rw [pLs_len]; omega), fun x hx => ?_⟩
    unfold pLs at hx
    obtain ⟨k, _, rfl⟩ := List.mem_map.1 hx
    have := pIdx_len ofG l n l.length k
    exact decide_eq_true (by omega)
theorem small200 {n : Nat} (h : decide (((n : Nat) : Int) > 200) = false) : n ≤ 200 := by
  have := of_decide_eq_false h; omega
theorem has4 : Hs 4 (FC2 LI (.int .i64) (fun _ _ => true) fun _ _ => .tv (B true)) := by
  refine Has.fc2 (fn := Try.f4) (((((env0.more has9).more has10).more has11).more has12).more has13) (by kernel_rfl) (by kernel_rfl) (by kernel_rfl) (by kernel_rfl) fun (ids : List Int) (n : Int) _ => .run1 (e4 Tbl.none true true (fun l => lenOK (List.length l)) accG (fun a _ => okLL a) (fun a b => decide (a = b)) (fun l _ => lenOK (List.length l + 2)) (rPart ofG) (fun l _ => lenOK (List.length l + 2)) (rPart ofG) ids n) ?_
  refine .bif (fun _ => .ret _) fun h => ?_
  have hl := small200 h
  have h1 : lenOK ids.length = true := decide_eq_true (Nat.le_trans hl (by decide))
  have h2 : (accG ids).length ≤ 200 := by unfold accG; rw [accN_len]; exact hl
  have h3 : lenOK ((accG ids).length + 2) = true := decide_eq_true (Nat.le_trans (Nat.add_le_add_right h2 2) (by decide))
  rw [h1, cond_true, h3, cond_true, cond_true, okLL_part _ (by omega), cond_true, Bool.true_or, cond_true]
  rw [show decide (rPart ofG (accG ids) n = rPart ofG (accG ids) n) = true by simp]
  exact .ret _
end Go.Lift.V48
set_option maxRecDepth 100000
set_option linter.unusedVariables false
set_option linter.unusedSimpArgs false
namespace Go.Lift.V48
open Go.Lift Go.Proofs

/-! copies -/
def cloneK (a : Ac.D) : Bool := capOK Fa (List.length a.1.2.2.2.1) && capOK Po (List.length a.2.1) && capOK Qp (List.length a.2.2.1)
abbrev FClone := FC1 Ac cloneK (fun a => .tv ⟨Ac, a⟩)
theorem has20 : Hs 20 FClone := by
  refine Has.fc1 (fn := Try.f20) env0 (by kernel_rfl) (by kernel_rfl) (by kernel_rfl) (by kernel_rfl) fun (a : Ac.D) h => .run1 (e20 Tbl.none a) ?_
  unfold cloneK at h
  simp only [Bool.and_eq_true] at h
  obtain ⟨⟨h1, h2⟩, h3⟩ := h
  rw [Nat.zero_add, Nat.zero_add, Nat.zero_add, h1, h2, h3]
  simp only [cond_true]
  exact .ret' rfl

/-! merging -/
noncomputable def mg1 (dk : List Ac.D) : List Int → Nat → List Ac.D → List Ac.D
  | [], _, out => out
  | i :: r, j, out => mg1 dk r (j + 1) (bif (bif (bif (decide (j < dk.length)) then (decide (i ≥ 0)) else false) then (decide (i < (out.length : Int))) else false) then out.set i.toNat (dk.getD j zA) else out)
noncomputable def mg2 (done : List (List Ac.D)) : List (List Int) → Nat → List Ac.D → List Ac.D
  | [], _, out => out
  | p :: r, k, out => mg2 done r (k + 1) (mg1 (done.getD k []) p 0 out)
theorem mg1_cons (dk : List Ac.D) (i : Int) (r : List Int) (j : Nat) (out : List Ac.D) : mg1 dk (i :: r) j out = mg1 dk r (j + 1) (bif (bif (bif (decide (j < dk.length)) then (decide (i ≥ 0)) else false) then (decide (i < (out.length : Int))) else false) then out.set i.toNat (dk.getD j zA) else out) := rfl
theorem getD_mem {α : Type} (l : List α) (d : α) (j : Nat) (h : j < l.length) : l.getD j d ∈ l := by
  rw [show l.getD j d = l[j] by simp [List.getD, List.getElem?_eq_getElem h]]
  exact List.getElem_mem _
theorem mg1_len (dk : List Ac.D) : ∀ (p : List Int) (j : Nat) (out : List Ac.D), (mg1 dk p j out).length = out.length
  | [], _, _ => rfl
  | i :: r, j, out => by
    unfold mg1
    rw [mg1_len dk r]
    cases (bif (bif (decide (j < dk.length)) then (decide (i ≥ 0)) else false) then (decide (i < (out.length : Int))) else false) <;> simp
theorem mg1_end (dk : List Ac.D) : ∀ (p : List Int) (j : Nat) (out : List Ac.D), dk.length ≤ j → mg1 dk p j out = out
  | [], _, _, _ => rfl
  | i :: r, j, out, h => by
    unfold mg1
    rw [decide_eq_false (by omega : ¬ j < dk.length)]
    exact mg1_end dk r (j + 1) out (by omega)
theorem mg2_len (done : List (List Ac.D)) : ∀ (p : List (List Int)) (k : Nat) (out : List Ac.D), (mg2 done p k out).length = out.length
  | [], _, _ => rfl
  | i :: r, j, out => by
    unfold mg2
    rw [mg2_len done r, mg1_len]
theorem mg2_end (done : List (List Ac.D)) : ∀ (p : List (List Int)) (k : Nat) (out : List Ac.D), done.length ≤ k → mg2 done p k out = out
  | [], _, _, _ => rfl
  | i :: r, k, out, h => by
    unfold mg2
    have e : done.getD k [] = [] := by simp [List.getD, List.getElem?_eq_none h]
    rw [e, mg1_end [] i 0 out (Nat.zero_le _)]
    exact mg2_end done r (k + 1) out (by omega)
def mergeK (l : List Ac.D) (parts : List (List Int)) (done : List (List Ac.D)) : Bool := lenOK (l.length + 2) && okLL parts && l.all cloneK && done.all fun d => d.all cloneK

theorem okLL_spec {parts : List (List Int)} (h : okLL parts = true) : parts.length ≤ 9223372036854775807 ∧ ∀ x ∈ parts, x.length ≤ 9223372036854775807 := by
  unfold okLL at h
  rw [Bool.and_eq_true, List.all_eq_true] at h
  exact ⟨mxOK_spec h.1, fun x hx => mxOK_spec (h.2 x hx)⟩
noncomputable def G16 : Tbl := Tbl.none.add 20 FClone
section
variable (parts : List (List Int)) (done : List (List Ac.D)) (hp : okLL parts = true) (hd : ∀ d ∈ done, ∀ x ∈ d, cloneK x = true)
include hp hd
theorem loop16b (k : Nat) (hk : k < parts.length) (r : List Ac.D) (hn : ∀ out, out = mg1 (done.getD k []) (parts.getD k []) 0 r → Goes G16 T Try.f16.ntmps Try.f16.results.toList (.loop M16a.body M16a.kont (S16a parts done ((parts.length : Nat) : Int) ((k + 1 : Nat) : Int) out)) (.own Ac (mg2 done (parts.drop (k + 1)) (k + 1) out))) :
    ∀ (d j : Nat) (out : List Ac.D), j + d = (parts.getD k []).length → mg1 (done.getD k []) ((parts.getD k []).drop j) j out = mg1 (done.getD k []) (parts.getD k []) 0 r →
    Goes G16 T Try.f16.ntmps Try.f16.results.toList (.loop M16b.body M16b.kont (S16b parts done k ((parts.length : Nat) : Int) k (parts.getD k []) (((parts.getD k []).length : Nat) : Int) j out)) (.own Ac (mg2 done (parts.drop (k + 1)) (k + 1) (mg1 (done.getD k []) (parts.getD k []) 0 r)))
  | 0, j, out, h, hm => by
    refine Goes.lp' (i16b Tbl.none cloneK (fun a => a) parts done k _ k (parts.getD k []) _ j out) ?_
    have hpl := (okLL_spec hp).1
    rw [decide_eq_false (show ¬ (j : Int) < (((parts.getD k []).length : Nat) : Int) by omega), cond_false, w_step (n := parts.length) (by omega) (by omega) hpl, show ((k : Int) + 1) = ((k + 1 : Nat) : Int) by omega]
    rw [drop_end (l := parts.getD k []) (by omega)] at hm
    have hm' : out = mg1 (done.getD k []) (parts.getD k []) 0 r := hm
    have := hn out hm'
    rw [hm'] at this ⊢
    exact this
  | d + 1, j, out, h, hm => by
    refine Goes.lp' (i16b Tbl.none cloneK (fun a => a) parts done k _ k (parts.getD k []) _ j out) ?_
    have hpk : (parts.getD k []).length ≤ 9223372036854775807 := (okLL_spec hp).2 _ (by simp [List.getD, hk])
    have hj : (j : Int) < (((parts.getD k []).length : Nat) : Int) := by omega
    rw [decide_eq_true hj, cond_true, toNat_lt (by omega) hj, cond_true, w_step (by omega) hj hpk, Int.toNat_natCast, Int.toNat_natCast, show ((j : Int) + 1) = ((j + 1 : Nat) : Int) by omega]
    rw [drop_cons (parts.getD k []) 0 j (by omega)] at hm
    rw [mg1_cons] at hm
    generalize (parts.getD k []).getD j 0 = i at *
    have hg : (inB (k : Int) (List.length done) || (!(decide ((k : Int) < ((List.length done : Nat) : Int))))) = true := by
      by_cases e : k < done.length
      · rw [toNat_lt (by omega) (by omega)]; rfl
      · rw [decide_eq_false (by omega)]; simp
    rw [hg, cond_true]
    by_cases e : k < done.length
    · rw [decide_eq_true (by omega : (k : Int) < ((done.length : Nat) : Int)), cond_true, toNat_lt (n := done.length) (by omega) (by omega)]
      rw [show decide ((j : Int) < (((done.getD k []).length : Nat) : Int)) = decide (j < (done.getD k []).length) by simp]
      cases hc : (bif (bif (decide (j < (done.getD k []).length)) then (decide (i ≥ 0)) else false) then (decide (i < ((out.length : Nat) : Int))) else false) with
      | true =>
        rw [hc, cond_true] at hm
        rw [cond_true, cond_true]
        rw [band_bif, band_bif, Bool.and_eq_true, Bool.and_eq_true, decide_eq_true_eq, decide_eq_true_eq, decide_eq_true_eq] at hc
        obtain ⟨⟨c1, c2⟩, c3⟩ := hc
        rw [toNat_lt (n := (done.getD k []).length) (by omega) (by omega), cond_true, toNat_lt (n := out.length) (by omega) (by omega), cond_true]
        have hcl : cloneK ((done.getD k []).getD j zA) = true := hd _ (getD_mem done [] k e) _ (getD_mem _ zA j c1)
        rw [hcl, cond_true]
        exact loop16b k hk r hn d (j + 1) _ (by omega) hm
      | false =>
        rw [hc, cond_false] at hm
        rw [cond_false]
        exact loop16b k hk r hn d (j + 1) _ (by omega) hm
    · rw [decide_eq_false (by omega : ¬ (k : Int) < ((done.length : Nat) : Int)), cond_false, cond_false, cond_false, cond_false]
      have e2 : done.getD k [] = [] := by simp [List.getD, List.getElem?_eq_none (show done.length ≤ k by omega)]
      rw [e2] at hm hn ⊢
      simp only [List.length_nil, Nat.not_lt_zero, decide_false, cond_false] at hm
      have := loop16b k hk r (by rw [e2]; exact hn) d (j + 1) out (by omega) (by rw [e2]; exact hm)
      rw [e2] at this
      exact this
theorem loop16a : ∀ (d k : Nat) (out : List Ac.D), k + d = parts.length →
    Goes G16 T Try.f16.ntmps Try.f16.results.toList (.loop M16a.body M16a.kont (S16a parts done ((parts.length : Nat) : Int) k out)) (.own Ac (mg2 done (parts.drop k) k out))
  | 0, k, out, h => by
    refine Goes.lp' (i16a Tbl.none cloneK (fun a => a) parts done _ k out) ?_
    rw [decide_eq_false (show ¬ (k : Int) < ((parts.length : Nat) : Int) by omega), cond_false, drop_end (l := parts) (by omega)]
    exact .ret _
  | d + 1, k, out, h => by
    refine Goes.lp' (i16a Tbl.none cloneK (fun a => a) parts done _ k out) ?_
    have hk : (k : Int) < ((parts.length : Nat) : Int) := by omega
    rw [decide_eq_true hk, cond_true, toNat_lt (by omega) hk, cond_true, Int.toNat_natCast, drop_cons parts [] k (by omega)]
    show Goes _ _ _ _ _ (.own Ac (mg2 done (parts.drop (k + 1)) (k + 1) (mg1 (done.getD k []) (parts.getD k []) 0 out)))
    exact loop16b parts done hp hd k (by omega) out (fun out' he => loop16a d (k + 1) out' (by omega)) (parts.getD k []).length 0 out (by omega) rfl
end
end Go.Lift.V48
set_option maxRecDepth 100000
set_option linter.unusedVariables false
set_option linter.unusedSimpArgs false
namespace Go.Lift.V48
open Go.Lift Go.Proofs

theorem capAc {n : Nat} (h : n ≤ 68719476736) : capOK Ac n = true := decide_eq_true (by show n * 112 ≤ 140737488355328; omega)
theorem loop16 (l : List Ac.D) (parts : List (List Int)) (done : List (List Ac.D)) (hp : okLL parts = true) (hd : ∀ d ∈ done, ∀ x ∈ d, cloneK x = true) (hl : l.length + 2 ≤ 68719476736) (hc : ∀ x ∈ l, cloneK x = true) : ∀ (d i : Nat), i + d = l.length →
    Goes G16 T Try.f16.ntmps Try.f16.results.toList (.loop M16.body M16.kont (S16 parts done l ((l.length : Nat) : Int) i (l.take i))) (.own Ac (mg2 done parts 0 l))
  | 0, i, h => by
    refine Goes.lp' (i16 Tbl.none cloneK (fun a => a) parts done l _ i _) ?_
    rw [decide_eq_false (show ¬ (i : Int) < ((l.length : Nat) : Int) by omega), cond_false, List.take_of_length_le (by omega)]
    have := loop16a parts done hp hd parts.length 0 l (by omega)
    rw [List.drop_zero] at this
    exact this
  | d + 1, i, h => by
    refine Goes.lp' (i16 Tbl.none cloneK (fun a => a) parts done l _ i _) ?_
    have hi : (i : Int) < ((l.length : Nat) : Int) := by omega
    have hcl : cloneK (l.getD i zA) = true := hc _ (getD_mem l zA i (by omega))
    rw [decide_eq_true hi, cond_true, toNat_lt (by omega) hi, cond_true, Int.toNat_natCast, hcl, cond_true, List.length_singleton, List.length_take, capAc (by omega), cond_true, w_step (by omega) hi (by omega), show ((i : Int) + 1) = ((i + 1 : Nat) : Int) by omega]
    have e : l.take i ++ [l.getD i zA] = l.take (i + 1) := by
      rw [List.take_succ_eq_append_getElem (by omega), show l.getD i zA = l[i] by simp [List.getD, List.getElem?_eq_getElem (show i < l.length by omega)]]
    rw [e]
    exact loop16 l parts done hp hd hl hc d (i + 1) (by omega)
noncomputable abbrev FMerge := FC3 LA LLI LLA mergeK fun l parts done => .tv ⟨LA, mg2 done parts 0 l⟩
theorem mergeK_spec {l : List Ac.D} {parts : List (List Int)} {done : List (List Ac.D)} (h : mergeK l parts done = true) : l.length + 2 ≤ 68719476736 ∧ okLL parts = true ∧ (∀ x ∈ l, cloneK x = true) ∧ ∀ d ∈ done, ∀ x ∈ d, cloneK x = true := by
  unfold mergeK at h
  simp only [Bool.and_eq_true, List.all_eq_true] at h
  exact ⟨lenOK_spec h.1.1.1, h.1.1.2, h.1.2, fun d hd x hx => h.2 d hd x hx⟩
theorem cool3 {P : Program} {T : Nat → Option Ty} {f : Nat} {a b c t : Ty} {k : a.D → b.D → c.D → Bool} {r : a.D → b.D → c.D → List t.D} (h : Has P T f (FC3 a b c k fun x y z => .own t (r x y z))) : Has P T f (FC3 a b c k fun x y z => .tv ⟨.slice t, r x y z⟩) := by
  refine Has.cool h fun tds s hs => ?_
  unfold FC3 at *
  split at hs
  · simp only [Option.bind_eq_some_iff, Option.map_eq_some_iff] at hs
    obtain ⟨x, hx, y, hy, z, hz, rfl⟩ := hs
    exact ⟨t, r x y z, by simp only [hx, hy, hz, Option.bind_some, Option.map_some], rfl⟩
  · simp at hs
theorem has16 : Hs 16 FMerge := by
  refine cool3 (Has.fc3 (fn := Try.f16) (env0.more has20) (by kernel_rfl) (by kernel_rfl) (by kernel_rfl) (by kernel_rfl) fun (l : List Ac.D) (parts : List (List Int)) (done : List (List Ac.D)) h => .run1 (e16 Tbl.none cloneK (fun a => a) l parts done) ?_)
  obtain ⟨h1, h2, h3, h4⟩ := mergeK_spec h
  exact loop16 l parts done h2 h4 h1 h3 l.length 0 (by omega)

/-! the reference's merging -/
section
variable (parts : List (List Int)) (done : List (List Ac.D)) (hp : okLL parts = true)
include hp
theorem loop17a (k : Nat) (hk : k < parts.length) (hkd : k < done.length) (r : List Ac.D) (hn : ∀ out, out = mg1 (done.getD k []) (parts.getD k []) 0 r → Goes Tbl.none T Try.f17.ntmps Try.f17.results.toList (.loop M17.body M17.kont (S17 parts done ((k + 1 : Nat) : Int) out)) (.own Ac (mg2 done (parts.drop (k + 1)) (k + 1) out))) :
    ∀ (d j : Nat) (out : List Ac.D), j + d = (parts.getD k []).length → mg1 (done.getD k []) ((parts.getD k []).drop j) j out = mg1 (done.getD k []) (parts.getD k []) 0 r →
    Goes Tbl.none T Try.f17.ntmps Try.f17.results.toList (.loop M17a.body M17a.kont (S17a parts done k j out)) (.own Ac (mg2 done (parts.drop (k + 1)) (k + 1) (mg1 (done.getD k []) (parts.getD k []) 0 r))) := by
  intro d
  induction d with
  | zero =>
    intro j out h hm
    refine Goes.lp' (i17a Tbl.none parts done k j out) ?_
    have hpl := (okLL_spec hp).1
    rw [toNat_lt (n := parts.length) (by omega) (by omega), cond_true, toNat_lt (n := done.length) (by omega) (by omega), Bool.true_or, cond_true, Int.toNat_natCast, decide_eq_false (show ¬ (j : Int) < (((parts.getD k []).length : Nat) : Int) by omega), cond_false, cond_false, w_step (n := parts.length) (by omega) (by omega) hpl, show ((k : Int) + 1) = ((k + 1 : Nat) : Int) by omega]
    rw [drop_end (l := parts.getD k []) (by omega)] at hm
    have hm' : out = mg1 (done.getD k []) (parts.getD k []) 0 r := hm
    have := hn out hm'
    rw [hm'] at this ⊢
    exact this
  | succ d ih =>
    intro j out h hm
    refine Goes.lp' (i17a Tbl.none parts done k j out) ?_
    have hpl := (okLL_spec hp).1
    have hpk : (parts.getD k []).length ≤ 9223372036854775807 := (okLL_spec hp).2 _ (getD_mem parts [] k hk)
    have hj : (j : Int) < (((parts.getD k []).length : Nat) : Int) := by omega
    rw [toNat_lt (n := parts.length) (by omega) (by omega), cond_true, toNat_lt (n := done.length) (by omega) (by omega), Bool.true_or, cond_true, Int.toNat_natCast, decide_eq_true hj, cond_true]
    by_cases hjd : j < (done.getD k []).length
    · rw [decide_eq_true (by omega : (j : Int) < (((done.getD k []).length : Nat) : Int)), cond_true, cond_true, toNat_lt (by omega) hj, cond_true, Int.toNat_natCast]
      rw [drop_cons (parts.getD k []) 0 j (by omega), mg1_cons, decide_eq_true hjd, cond_true] at hm
      generalize (parts.getD k []).getD j 0 = i at *
      rw [w_step (by omega) hj hpk, show ((j : Int) + 1) = ((j + 1 : Nat) : Int) by omega]
      cases hc : (bif (decide (i ≥ 0)) then (decide (i < ((out.length : Nat) : Int))) else false) with
      | true =>
        rw [hc, cond_true] at hm
        rw [band_bif, Bool.and_eq_true, decide_eq_true_eq, decide_eq_true_eq] at hc
        rw [cond_true, cond_true, toNat_lt (n := (done.getD k []).length) (by omega) (by omega), cond_true, toNat_lt (n := out.length) (by omega) (by omega), cond_true]
        exact ih (j + 1) _ (by omega) hm
      | false =>
        rw [hc, cond_false] at hm
        rw [cond_false]
        exact ih (j + 1) _ (by omega) hm
    · rw [decide_eq_false (by omega : ¬ (j : Int) < (((done.getD k []).length : Nat) : Int)), cond_false, w_step (n := parts.length) (by omega) (by omega) hpl, show ((k : Int) + 1) = ((k + 1 : Nat) : Int) by omega]
      rw [mg1_end _ _ _ _ (by omega)] at hm
      have := hn out hm
      rw [hm] at this ⊢
      exact this
theorem loop17 : ∀ (d k : Nat) (out : List Ac.D), k + d = parts.length →
    Goes Tbl.none T Try.f17.ntmps Try.f17.results.toList (.loop M17.body M17.kont (S17 parts done k out)) (.own Ac (mg2 done (parts.drop k) k out)) := by
  intro d
  induction d with
  | zero =>
    intro k out h
    refine Goes.lp' (i17 Tbl.none parts done k out) ?_
    rw [decide_eq_false (show ¬ (k : Int) < ((parts.length : Nat) : Int) by omega), cond_false, cond_false, drop_end (l := parts) (by omega)]
    exact .ret _
  | succ d ih =>
    intro k out h
    refine Goes.lp' (i17 Tbl.none parts done k out) ?_
    rw [decide_eq_true (show (k : Int) < ((parts.length : Nat) : Int) by omega), cond_true]
    by_cases hkd : k < done.length
    · rw [decide_eq_true (by omega : (k : Int) < ((done.length : Nat) : Int)), cond_true, drop_cons parts [] k (by omega)]
      show Goes _ _ _ _ _ (.own Ac (mg2 done (parts.drop (k + 1)) (k + 1) (mg1 (done.getD k []) (parts.getD k []) 0 out)))
      exact loop17a parts done hp k (by omega) hkd out (fun out' he => ih (k + 1) out' (by omega)) (parts.getD k []).length 0 out (by omega) rfl
    · rw [decide_eq_false (by omega : ¬ (k : Int) < ((done.length : Nat) : Int)), cond_false, mg2_end done _ k out (by omega)]
      exact .ret _
end
def merge17K (l : List Ac.D) (parts : List (List Int)) (done : List (List Ac.D)) : Bool := lenOK l.length && okLL parts && mxOK done.length
noncomputable abbrev FMerge17 := FC3 LA LLI LLA merge17K fun l parts done => .tv ⟨LA, mg2 done parts 0 l⟩
theorem has17 : Hs 17 FMerge17 := by
  refine cool3 (Has.fc3 (fn := Try.f17) env0 (by kernel_rfl) (by kernel_rfl) (by kernel_rfl) (by kernel_rfl) fun (l : List Ac.D) (parts : List (List Int)) (done : List (List Ac.D)) h => .run1 (e17 Tbl.none l parts done) ?_)
  unfold merge17K at h
  simp only [Bool.and_eq_true] at h
  rw [Nat.zero_add, capAc (lenOK_spec h.1.1), cond_true]
  have := loop17 parts done h.1.2 parts.length 0 l (by omega)
  rw [List.drop_zero] at this
  exact this

/-! few enough -/
def lightG (l : List Ac.D) (parts : List (List Int)) (done : List (List Ac.D)) : Bool :=
  !(decide (((List.length l : Nat) : Int) > 40) || decide (((List.length parts : Nat) : Int) > 12) || decide (((List.length done : Nat) : Int) > 12)) && parts.all (fun p => decide (p.length ≤ 40)) && done.all (fun p => decide (p.length ≤ 40))
theorem loop14a (done : List (List Ac.D)) (hd : done.length ≤ 12) : ∀ (d i : Nat), i + d = done.length →
    Goes Tbl.none T Try.f14.ntmps Try.f14.results.toList (.loop M14a.body M14a.kont (S14a done i)) (.tv (B ((done.drop i).all fun p => decide (p.length ≤ 40))))
  | 0, i, h => by
    refine Goes.lp' (i14a Tbl.none done i) ?_
    rw [decide_eq_false (show ¬ (i : Int) < ((done.length : Nat) : Int) by omega), cond_false, drop_end (l := done) (by omega)]
    exact .ret _
  | d + 1, i, h => by
    refine Goes.lp' (i14a Tbl.none done i) ?_
    have hi : (i : Int) < ((done.length : Nat) : Int) := by omega
    rw [decide_eq_true hi, cond_true, toNat_lt (by omega) hi, cond_true, Int.toNat_natCast, w_step (by omega) hi (by omega), show ((i : Int) + 1) = ((i + 1 : Nat) : Int) by omega, drop_cons done [] i (by omega), List.all_cons]
    by_cases c : (done.getD i []).length ≤ 40
    · rw [decide_eq_false (by omega : ¬ (((done.getD i []).length : Nat) : Int) > 40), cond_false, decide_eq_true c, Bool.true_and]
      exact loop14a done hd d (i + 1) (by omega)
    · rw [decide_eq_true (by omega : (((done.getD i []).length : Nat) : Int) > 40), cond_true, decide_eq_false c, Bool.false_and]
      exact .ret _
theorem loop14 (parts : List (List Int)) (done : List (List Ac.D)) (hp : parts.length ≤ 12) (hd : done.length ≤ 12) : ∀ (d i : Nat), i + d = parts.length →
    Goes Tbl.none T Try.f14.ntmps Try.f14.results.toList (.loop M14.body M14.kont (S14 parts done i)) (.tv (B (((parts.drop i).all fun p => decide (p.length ≤ 40)) && done.all fun p => decide (p.length ≤ 40))))
  | 0, i, h => by
    refine Goes.lp' (i14 Tbl.none parts done i) ?_
    rw [decide_eq_false (show ¬ (i : Int) < ((parts.length : Nat) : Int) by omega), cond_false, drop_end (l := parts) (by omega)]
    have := loop14a done hd done.length 0 (by omega)
    rw [List.drop_zero] at this
    exact this
  | d + 1, i, h => by
    refine Goes.lp' (i14 Tbl.none parts done i) ?_
    have hi : (i : Int) < ((parts.length : Nat) : Int) := by omega
    rw [decide_eq_true hi, cond_true, toNat_lt (by omega) hi, cond_true, Int.toNat_natCast, w_step (by omega) hi (by omega), show ((i : Int) + 1) = ((i + 1 : Nat) : Int) by omega, drop_cons parts [] i (by omega), List.all_cons]
    by_cases c : (parts.getD i []).length ≤ 40
    · rw [decide_eq_false (by omega : ¬ (((parts.getD i []).length : Nat) : Int) > 40), cond_false, decide_eq_true c, Bool.true_and]
      exact loop14 parts done hp hd d (i + 1) (by omega)
    · rw [decide_eq_true (by omega : (((parts.getD i []).length : Nat) : Int) > 40), cond_true, decide_eq_false c, Bool.false_and, Bool.false_and]
      exact .ret _
abbrev FLight := FC3 LA LLI LLA (fun _ _ _ => true) fun l parts done => .tv (B (lightG l parts done))
theorem has14 : Hs 14 FLight := by
  refine Has.fc3 (fn := Try.f14) env0 (by kernel_rfl) (by kernel_rfl) (by kernel_rfl) (by kernel_rfl) fun (l : List Ac.D) (parts : List (List Int)) (done : List (List Ac.D)) _ => .run1 (e14 Tbl.none l parts done) ?_
  rw [bor_bif, bor_bif]
  unfold lightG
  refine .bif (fun g => .ret' ?_) fun g => ?_
  · rw [g]; rfl
  · rw [g, Bool.not_false, Bool.true_and]
    simp only [Bool.or_eq_false_iff, decide_eq_false_iff_not] at g
    have := loop14 parts done (by omega) (by omega) parts.length 0 (by omega)
    rw [List.drop_zero] at this
    exact this
end Go.Lift.V48
set_option maxRecDepth 100000
set_option linter.unusedVariables false
set_option linter.unusedSimpArgs false
namespace Go.Lift.V48
open Go.Lift Go.Proofs

/-! equal lists, element by element -/
def sameG {α : Type} (E : α → α → Bool) : List α → List α → Bool
  | [], [] => true
  | x :: r, y :: s => E x y && sameG E r s
  | _, _ => false
theorem sameG_self {α : Type} (E : α → α → Bool) : ∀ l : List α, (∀ x ∈ l, E x x = true) → sameG E l l = true
  | [], _ => rfl
  | x :: r, h => by unfold sameG; rw [h x (by simp), sameG_self E r fun y hy => h y (List.mem_cons_of_mem _ hy)]; rfl
theorem sameG_len {α : Type} (E : α → α → Bool) : ∀ (a b : List α), a.length ≠ b.length → sameG E a b = false
  | [], [], h => (h rfl).elim
  | [], _ :: _, _ => rfl
  | _ :: _, [], _ => rfl
  | x :: r, y :: s, h => by
    unfold sameG; rw [sameG_len E r s (fun e => h (by simp [e])), Bool.and_false]
def plainI : Ty → Bool
  | .int _ | .bool | .nil => true
  | .cons a b => plainI a && plainI b
  | _ => false
theorem eqD_self : ∀ (t : Ty) (x : t.D), plainI t = true → eqD t x x = true
  | .int _, x, _ => by unfold eqD; simp
  | .bool, x, _ => by unfold eqD; simp
  | .nil, _, _ => rfl
  | .cons a b, x, h => by
    simp only [plainI, Bool.and_eq_true] at h
    unfold eqD
    rw [eqD_self a _ h.1, eqD_self b _ h.2]; rfl
noncomputable def z22 : Ty.D Po := (0, 0, 0, 0, ())
theorem loop22 (a b : List (Ty.D Po)) (hl : a.length ≤ 9223372036854775807) (hab : a.length = b.length) : ∀ (k : Nat) (i : Nat), i + k = a.length →
    Goes Tbl.none T Try.f22.ntmps Try.f22.results.toList (.loop M22.body M22.kont (S22 a b i)) (.tv (B (sameG (eqD Po) (a.drop i) (b.drop i))))
  | 0, i, h => by
    refine Goes.lp' (i22 Tbl.none a b i) ?_
    rw [decide_eq_false (show ¬ (i : Int) < ((a.length : Nat) : Int) by omega), drop_end (l := a) (by omega), drop_end (l := b) (by omega)]
    exact .ret _
  | k + 1, i, h => by
    refine Goes.lp' (i22 Tbl.none a b i) ?_
    have hi : (i : Int) < ((a.length : Nat) : Int) := by omega
    have hj : (i : Int) < ((b.length : Nat) : Int) := by omega
    rw [decide_eq_true hi, decide_eq_true hj, cond_true, cond_true, toNat_lt (by omega) hi, toNat_lt (by omega) hj, cond_true, cond_true, w_step (by omega) hi hl, Int.toNat_natCast,
      drop_cons a z22 i (by omega), drop_cons b z22 i (by omega)]
    unfold sameG
    refine .bif (fun g => .ret' ?_) fun g => ?_
    · rw [Bool.not_eq_true'] at g
      have g' : eqD Po (a.getD i z22) (b.getD i z22) = false := g
      rw [g']; rfl
    · rw [Bool.not_eq_false'] at g
      have g' : eqD Po (a.getD i z22) (b.getD i z22) = true := g
      rw [g', Bool.true_and]
      exact loop22 a b hl hab k (i + 1) (by omega)
theorem has22 : Hs 22 (FC2 (.slice Po) (.slice Po) (fun a _ => mxOK (List.length a)) fun a b => .tv (B (sameG (eqD Po) a b))) := by
  refine Has.fc2 (fn := Try.f22) env0 (by kernel_rfl) (by kernel_rfl) (by kernel_rfl) (by kernel_rfl) fun (a b : List (Ty.D Po)) h => .run1 (e22 Tbl.none a b) ?_
  refine .bif (fun g => .ret' ?_) fun g => ?_
  · rw [sameG_len _ a b (fun e => by rw [e] at g; simp at g)]
  · exact loop22 a b (mxOK_spec h) (by simp at g; omega) a.length 0 (by omega)
noncomputable def z23 : Ty.D Qp := (0, 0, 0, 0, 0, 0, 0, ())
theorem loop23 (a b : List (Ty.D Qp)) (hl : a.length ≤ 9223372036854775807) (hab : a.length = b.length) : ∀ (k : Nat) (i : Nat), i + k = a.length →
    Goes Tbl.none T Try.f23.ntmps Try.f23.results.toList (.loop M23.body M23.kont (S23 a b i)) (.tv (B (sameG (eqD Qp) (a.drop i) (b.drop i))))
  | 0, i, h => by
    refine Goes.lp' (i23 Tbl.none a b i) ?_
    rw [decide_eq_false (show ¬ (i : Int) < ((a.length : Nat) : Int) by omega), drop_end (l := a) (by omega), drop_end (l := b) (by omega)]
    exact .ret _
  | k + 1, i, h => by
    refine Goes.lp' (i23 Tbl.none a b i) ?_
    have hi : (i : Int) < ((a.length : Nat) : Int) := by omega
    have hj : (i : Int) < ((b.length : Nat) : Int) := by omega
    rw [decide_eq_true hi, decide_eq_true hj, cond_true, cond_true, toNat_lt (by omega) hi, toNat_lt (by omega) hj, cond_true, cond_true, w_step (by omega) hi hl, Int.toNat_natCast,
      drop_cons a z23 i (by omega), drop_cons b z23 i (by omega)]
    unfold sameG
    refine .bif (fun g => .ret' ?_) fun g => ?_
    · rw [Bool.not_eq_true'] at g
      have g' : eqD Qp (a.getD i z23) (b.getD i z23) = false := g
      rw [g']; rfl
    · rw [Bool.not_eq_false'] at g
      have g' : eqD Qp (a.getD i z23) (b.getD i z23) = true := g
      rw [g', Bool.true_and]
      exact loop23 a b hl hab k (i + 1) (by omega)
theorem has23 : Hs 23 (FC2 (.slice Qp) (.slice Qp) (fun a _ => mxOK (List.length a)) fun a b => .tv (B (sameG (eqD Qp) a b))) := by
  refine Has.fc2 (fn := Try.f23) env0 (by kernel_rfl) (by kernel_rfl) (by kernel_rfl) (by kernel_rfl) fun (a b : List (Ty.D Qp)) h => .run1 (e23 Tbl.none a b) ?_
  refine .bif (fun g => .ret' ?_) fun g => ?_
  · rw [sameG_len _ a b (fun e => by rw [e] at g; simp at g)]
  · exact loop23 a b (mxOK_spec h) (by simp at g; omega) a.length 0 (by omega)
noncomputable def z24 : Ty.D Fa := (0, 0, 0, (0, 0, 0, ()), (0, 0, ()), 0, ())
theorem loop24 (a b : List (Ty.D Fa)) (hl : a.length ≤ 9223372036854775807) (hab : a.length = b.length) : ∀ (k : Nat) (i : Nat), i + k = a.length →
    Goes Tbl.none T Try.f24.ntmps Try.f24.results.toList (.loop M24.body M24.kont (S24 a b i)) (.tv (B (sameG (eqD Fa) (a.drop i) (b.drop i))))
  | 0, i, h => by
    refine Goes.lp' (i24 Tbl.none a b i) ?_
    rw [decide_eq_false (show ¬ (i : Int) < ((a.length : Nat) : Int) by omega), drop_end (l := a) (by omega), drop_end (l := b) (by omega)]
    exact .ret _
  | k + 1, i, h => by
    refine Goes.lp' (i24 Tbl.none a b i) ?_
    have hi : (i : Int) < ((a.length : Nat) : Int) := by omega
    have hj : (i : Int) < ((b.length : Nat) : Int) := by omega
    rw [decide_eq_true hi, decide_eq_true hj, cond_true, cond_true, toNat_lt (by omega) hi, toNat_lt (by omega) hj, cond_true, cond_true, w_step (by omega) hi hl, Int.toNat_natCast,
      drop_cons a z24 i (by omega), drop_cons b z24 i (by omega)]
    unfold sameG
    refine .bif (fun g => .ret' ?_) fun g => ?_
    · rw [Bool.not_eq_true'] at g
      have g' : eqD Fa (a.getD i z24) (b.getD i z24) = false := g
      rw [g']; rfl
    · rw [Bool.not_eq_false'] at g
      have g' : eqD Fa (a.getD i z24) (b.getD i z24) = true := g
      rw [g', Bool.true_and]
      exact loop24 a b hl hab k (i + 1) (by omega)
theorem has24 : Hs 24 (FC2 (.slice Fa) (.slice Fa) (fun a _ => mxOK (List.length a)) fun a b => .tv (B (sameG (eqD Fa) a b))) := by
  refine Has.fc2 (fn := Try.f24) env0 (by kernel_rfl) (by kernel_rfl) (by kernel_rfl) (by kernel_rfl) fun (a b : List (Ty.D Fa)) h => .run1 (e24 Tbl.none a b) ?_
  refine .bif (fun g => .ret' ?_) fun g => ?_
  · rw [sameG_len _ a b (fun e => by rw [e] at g; simp at g)]
  · exact loop24 a b (mxOK_spec h) (by simp at g; omega) a.length 0 (by omega)

abbrev kL (t : Ty) (a _b : List t.D) : Bool := mxOK (List.length a)
abbrev rFa (a b : List (Ty.D Fa)) : Bool := sameG (eqD Fa) a b
def rHh (a0 a1 : Ty.D Hh) : Bool := bif (bif (bif (a0.1 == a1.1) then (a0.2.1 == a1.2.1) else false) then (a0.2.2.1 == a1.2.2.1) else false) then (rFa a0.2.2.2.1 a1.2.2.2.1) else false
def kHh (a0 a1 : Ty.D Hh) : Bool := mxOK (List.length a0.2.2.2.1)
theorem has21 : Hs 21 (FC2 Hh Hh kHh fun a b => .tv (B (rHh a b))) := by
  refine Has.fc2 (fn := Try.f21) (env0.more has24) (by kernel_rfl) (by kernel_rfl) (by kernel_rfl) (by kernel_rfl) fun (a b : Ty.D Hh) h => .run1 (e21 Tbl.none (fun a _ => mxOK (List.length a)) rFa a b) ?_
  unfold kHh at h
  rw [h, Bool.true_or, cond_true]
  exact .ret _
def rAc (a0 a1 : Ac.D) : Bool := bif (bif (bif (bif (rHh a0.1 a1.1) then (sameG (eqD Po) a0.2.1 a1.2.1) else false) then (sameG (eqD Qp) a0.2.2.1 a1.2.2.1) else false) then (a0.2.2.2.1 == a1.2.2.2.1) else false) then (a0.2.2.2.2.1 == a1.2.2.2.2.1) else false
def kAc (a0 a1 : Ac.D) : Bool := kHh a0.1 a1.1 && mxOK (List.length a0.2.1) && mxOK (List.length a0.2.2.1)
theorem has19 : Hs 19 (FC2 Ac Ac kAc fun a b => .tv (B (rAc a b))) := by
  refine Has.fc2 (fn := Try.f19) (((env0.more has21).more has22).more has23) (by kernel_rfl) (by kernel_rfl) (by kernel_rfl) (by kernel_rfl) fun (a b : Ac.D) h => .run1 (e19 Tbl.none kHh rHh (fun a _ => mxOK (List.length a)) (sameG (eqD Po)) (fun a _ => mxOK (List.length a)) (sameG (eqD Qp)) a b) ?_
  unfold kAc at h
  simp only [Bool.and_eq_true] at h
  obtain ⟨⟨h1, h2⟩, h3⟩ := h
  rw [h1, h2, h3, Bool.true_or, Bool.true_or]
  simp only [cond_true]
  exact .ret _
theorem rAc_self (a : Ac.D) : rAc a a = true := by
  have hf : ∀ (t : Ty) (l : List t.D), plainI t = true → sameG (eqD t) l l = true := fun t l h => sameG_self _ l fun x _ => eqD_self t x h
  unfold rAc rHh rFa
  rw [hf Fa _ rfl, hf Po _ rfl, hf Qp _ rfl]
  simp
noncomputable def G15 : Tbl := Tbl.none.add 19 (FC2 Ac Ac kAc fun a b => .tv (B (rAc a b)))
theorem loop15 (a b : List Ac.D) (hl : a.length ≤ 9223372036854775807) (hk : ∀ x ∈ a, ∀ y, kAc x y = true) (hab : a.length = b.length) : ∀ (k : Nat) (i : Nat), i + k = a.length →
    Goes G15 T Try.f15.ntmps Try.f15.results.toList (.loop M15.body M15.kont (S15 a b i)) (.tv (B (sameG rAc (a.drop i) (b.drop i))))
  | 0, i, h => by
    refine Goes.lp' (i15 Tbl.none kAc rAc a b i) ?_
    rw [decide_eq_false (show ¬ (i : Int) < ((a.length : Nat) : Int) by omega), drop_end (l := a) (by omega), drop_end (l := b) (by omega)]
    exact .ret _
  | k + 1, i, h => by
    refine Goes.lp' (i15 Tbl.none kAc rAc a b i) ?_
    have hi : (i : Int) < ((a.length : Nat) : Int) := by omega
    have hj : (i : Int) < ((b.length : Nat) : Int) := by omega
    rw [decide_eq_true hi, decide_eq_true hj, cond_true, cond_true, toNat_lt (by omega) hi, toNat_lt (by omega) hj, cond_true, cond_true, w_step (by omega) hi hl, Int.toNat_natCast,
      drop_cons a zA i (by omega), drop_cons b zA i (by omega)]
    have hka : kAc (a.getD i zA) (b.getD i zA) = true := hk _ (getD_mem a zA i (by omega)) _
    rw [hka, cond_true]
    unfold sameG
    refine .bif (fun g => .ret' ?_) fun g => ?_
    · rw [Bool.not_eq_true'] at g; rw [g]; rfl
    · rw [Bool.not_eq_false'] at g; rw [g, Bool.true_and]
      exact loop15 a b hl hk hab k (i + 1) (by omega)
def kAcs (a _b : List Ac.D) : Bool := mxOK (List.length a) && a.all fun x => kAc x x
theorem has15 : Hs 15 (FC2 LA LA kAcs fun a b => .tv (B (sameG rAc a b))) := by
  refine Has.fc2 (fn := Try.f15) (env0.more has19) (by kernel_rfl) (by kernel_rfl) (by kernel_rfl) (by kernel_rfl) fun (a b : List Ac.D) h => .run1 (e15 Tbl.none kAc rAc a b) ?_
  unfold kAcs at h
  rw [Bool.and_eq_true, List.all_eq_true] at h
  refine .bif (fun g => .ret' ?_) fun g => ?_
  · rw [sameG_len _ a b (fun e => by rw [e] at g; simp at g)]
  · exact loop15 a b (mxOK_spec h.1) (fun x hx y => h.2 x hx) (by simp at g; omega) a.length 0 (by omega)

/-! the law of merging -/
theorem cloneK_kAc {a : Ac.D} (h : cloneK a = true) : kAc a a = true := by
  unfold cloneK at h
  simp only [Bool.and_eq_true] at h
  obtain ⟨⟨h1, h2⟩, h3⟩ := h
  have c1 := (capOK_len h1 (by decide)).1
  have c2 := (capOK_len h2 (by decide)).1
  have c3 := (capOK_len h3 (by decide)).1
  unfold kAc kHh
  simp only [Bool.and_eq_true]
  exact ⟨⟨decide_eq_true (by omega), decide_eq_true (by omega)⟩, decide_eq_true (by omega)⟩
theorem mg1_all (p : Ac.D → Prop) (dk : List Ac.D) (hd : ∀ x ∈ dk, p x) : ∀ (l : List Int) (j : Nat) (out : List Ac.D), (∀ x ∈ out, p x) → ∀ x ∈ mg1 dk l j out, p x
  | [], _, out, h => h
  | i :: r, j, out, h => by
    rw [mg1_cons]
    refine mg1_all p dk hd r (j + 1) _ ?_
    cases hc : (bif (bif (decide (j < dk.length)) then (decide (i ≥ 0)) else false) then (decide (i < (out.length : Int))) else false) with
    | false => exact h
    | true =>
      rw [band_bif, band_bif, Bool.and_eq_true, Bool.and_eq_true, decide_eq_true_eq] at hc
      intro x hx
      rcases List.mem_or_eq_of_mem_set hx with e | e
      · exact h x e
      · subst e; exact hd _ (getD_mem dk zA j hc.1.1)
theorem mg2_all (p : Ac.D → Prop) (done : List (List Ac.D)) (hd : ∀ d ∈ done, ∀ x ∈ d, p x) : ∀ (l : List (List Int)) (k : Nat) (out : List Ac.D), (∀ x ∈ out, p x) → ∀ x ∈ mg2 done l k out, p x
  | [], _, out, h => h
  | q :: r, k, out, h => by
    show ∀ x ∈ mg2 done r (k + 1) (mg1 (done.getD k []) q 0 out), p x
    refine mg2_all p done hd r (k + 1) _ (mg1_all p _ ?_ q 0 out h)
    by_cases e : k < done.length
    · exact hd _ (getD_mem done [] k e)
    · have : done.getD k [] = [] := by simp [List.getD, List.getElem?_eq_none (show done.length ≤ k by omega)]
      rw [this]; intro x hx; cases hx
def k5 (l : List Ac.D) (_parts : List (List Int)) (done : List (List Ac.D)) : Bool := l.all cloneK && done.all fun d => d.all cloneK
theorem has5 : Hs 5 (FC3 LA LLI LLA k5 fun _ _ _ => .tv (B true)) := by
  refine Has.fc3 (fn := Try.f5) (((((env0.more has9).more has14).more has15).more has16).more has17) (by kernel_rfl) (by kernel_rfl) (by kernel_rfl) (by kernel_rfl) fun (l : List Ac.D) (parts : List (List Int)) (done : List (List Ac.D)) hk => .run1 (e5 Tbl.none true true (fun _ _ _ => true) lightG kAcs (sameG rAc) mergeK (fun l parts done => mg2 done parts 0 l) merge17K (fun l parts done => mg2 done parts 0 l) l parts done) ?_
  rw [cond_true]
  refine .bif (fun _ => .ret _) fun h => ?_
  rw [Bool.not_eq_false'] at h
  unfold lightG at h
  simp only [Bool.and_eq_true, Bool.not_eq_true', Bool.or_eq_false_iff, decide_eq_false_iff_not, List.all_eq_true, decide_eq_true_eq] at h
  obtain ⟨⟨⟨⟨h1, h2⟩, h3⟩, h4⟩, h5⟩ := h
  unfold k5 at hk
  simp only [Bool.and_eq_true, List.all_eq_true] at hk
  have hp : okLL parts = true := by
    unfold okLL
    rw [Bool.and_eq_true, List.all_eq_true]
    exact ⟨decide_eq_true (by omega), fun x hx => decide_eq_true (by have := h4 x hx; omega)⟩
  have hm : mergeK l parts done = true := by
    unfold mergeK
    simp only [Bool.and_eq_true, List.all_eq_true]
    exact ⟨⟨⟨decide_eq_true (by show l.length + 2 ≤ 68719476736; omega), hp⟩, hk.1⟩, hk.2⟩
  have hm17 : merge17K l parts done = true := by
    unfold merge17K
    simp only [Bool.and_eq_true]
    exact ⟨⟨decide_eq_true (by show l.length ≤ 68719476736; omega), hp⟩, decide_eq_true (by omega)⟩
  have hall := mg2_all (fun x => cloneK x = true) done (fun d hd x hx => hk.2 d hd x hx) parts 0 l hk.1
  have hka : kAcs (mg2 done parts 0 l) (mg2 done parts 0 l) = true := by
    unfold kAcs
    rw [Bool.and_eq_true, List.all_eq_true]
    exact ⟨decide_eq_true (by rw [mg2_len]; omega), fun x hx => cloneK_kAc (hall x hx)⟩
  rw [hm, hm17, hka, Bool.true_or]
  simp only [cond_true]
  rw [sameG_self rAc _ fun x _ => rAc_self x]
  exact .ret _
/-- what the form's reach gives -/
theorem k5_of (l : List Ac.D) (parts : List (List Int)) (done : List (List Ac.D)) (h1 : Sz LA l) (h2 : Sz LLA done) : k5 l parts done = true := by
  have one : ∀ a : Ac.D, Sz Ac a → cloneK a = true := by
    intro a h
    obtain ⟨⟨_, _, _, hf, _⟩, hp, hq, _⟩ := h
    have r := reachBytes_lt
    have f1 := hf.1 rfl
    have p1 := hp.1 rfl
    have q1 := hq.1 rfl
    unfold cloneK
    simp only [Bool.and_eq_true]
    exact ⟨⟨decide_eq_true (Nat.le_of_lt (Nat.lt_of_le_of_lt f1 r)), decide_eq_true (Nat.le_of_lt (Nat.lt_of_le_of_lt p1 r))⟩, decide_eq_true (Nat.le_of_lt (Nat.lt_of_le_of_lt q1 r))⟩
  unfold k5
  simp only [Bool.and_eq_true, List.all_eq_true]
  refine ⟨fun x hx => ?_, fun d hd x hx => ?_⟩
  · obtain ⟨i, hi, rfl⟩ := List.getElem_of_mem hx
    exact one _ (h1.2 i hi)
  · obtain ⟨i, hi, rfl⟩ := List.getElem_of_mem hd
    obtain ⟨j, hj, rfl⟩ := List.getElem_of_mem hx
    exact one _ ((h2.2 i hi).2 j hj)
end Go.Lift.V48
set_option maxRecDepth 100000
set_option linter.unusedVariables false
set_option linter.unusedSimpArgs false
namespace Go.Lift.V48
open Go.Lift Go.Proofs

/-! every account in one shard: the plain law -/
noncomputable def mix {α : Type} (L : Nat) (p : Nat → Bool) (x y : Nat → α) : List α := (List.range L).map fun i => bif p i then x i else y i
theorem mix_len {α : Type} (L : Nat) (p : Nat → Bool) (x y : Nat → α) : (mix L p x y).length = L := by simp [mix]
theorem mix_at {α : Type} (L : Nat) (p : Nat → Bool) (x y : Nat → α) (d : α) (i : Nat) (h : i < L) : (mix L p x y).getD i d = bif p i then x i else y i := by simp [mix, List.getD, h]
theorem mix_congr {α : Type} {L : Nat} {p q : Nat → Bool} (x y : Nat → α) (h : ∀ i, i < L → p i = q i) : mix L p x y = mix L q x y := by
  unfold mix
  refine List.map_congr_left fun i hi => ?_
  rw [h i (List.mem_range.1 hi)]
theorem mix_set {α : Type} (L : Nat) (p : Nat → Bool) (x y : Nat → α) (t : Nat) (ht : t < L) : (mix L p x y).set t (x t) = mix L (fun i => p i || i == t) x y := by
  apply List.ext_getElem
  · simp [mix]
  · intro i h1 h2
    have hi : i < L := by simpa [mix] using h2
    rw [List.getElem_set]
    simp only [mix, List.getElem_map, List.getElem_range]
    by_cases e : t = i
    · subst e; simp
    · rw [if_neg e, show (i == t) = false by simp; omega, Bool.or_false]

section
variable (ids : List Int) (m : Nat)
def ofI (i : Nat) : Int := ofG (ids.getD i 0) m
noncomputable def nk (k : Nat) : List Nat := (List.range ids.length).filter fun i => ofI ids m i == (k : Int)
theorem hO_acc (i : Nat) (h : i < ids.length) : hO (accG ids) (i : Int) = ids.getD i 0 := by
  unfold hO accG
  rw [Int.toNat_natCast, accN_at _ _ _ h]; rfl
theorem accG_len : (accG ids).length = ids.length := by unfold accG; rw [accN_len]
theorem pIdx_nk (k : Nat) : pIdx ofG (accG ids) m (accG ids).length k = (nk ids m k).map fun (j : Nat) => (j : Int) := by
  unfold pIdx nk
  rw [accG_len]
  congr 1
  refine List.filter_congr fun i hi => ?_
  rw [hO_acc ids i (List.mem_range.1 hi)]; rfl
theorem nk_mem (k i : Nat) (h : i < ids.length) : i ∈ nk ids m k ↔ ofI ids m i = (k : Int) := by
  unfold nk
  rw [List.mem_filter]
  simp [h]
theorem nk_at (k j : Nat) (h : j < (nk ids m k).length) : (nk ids m k).getD j 0 < ids.length ∧ ofI ids m ((nk ids m k).getD j 0) = (k : Int) := by
  have hm := getD_mem (nk ids m k) 0 j h
  have h1 : (nk ids m k).getD j 0 < ids.length := by
    unfold nk at hm
    exact List.mem_range.1 (List.mem_filter.1 hm).1
  exact ⟨h1, (nk_mem ids m k _ h1).1 hm⟩
theorem nk_lt (k i j : Nat) (hij : i < j) (h : j < (nk ids m k).length) : (nk ids m k).getD i 0 < (nk ids m k).getD j 0 := by
  have hp : (nk ids m k).Pairwise (· < ·) := List.Pairwise.filter _ List.pairwise_lt_range
  rw [List.pairwise_iff_getElem] at hp
  have := hp i j (by omega) h hij
  rw [show (nk ids m k).getD i 0 = (nk ids m k)[i] by simp [List.getD, List.getElem?_eq_getElem (show i < (nk ids m k).length by omega)], show (nk ids m k).getD j 0 = (nk ids m k)[j] by simp [List.getD, List.getElem?_eq_getElem h]]
  exact this
theorem nk_len (k : Nat) : (nk ids m k).length ≤ ids.length := by
  unfold nk
  exact Nat.le_trans (List.length_filter_le _ _) (by simp)
/-- done so far -/
noncomputable def pst (k j i : Nat) : Bool := decide (ofI ids m i < (k : Int)) || ((nk ids m k).take j).contains i
theorem take_next (k j : Nat) (h : j < (nk ids m k).length) : (nk ids m k).take (j + 1) = (nk ids m k).take j ++ [(nk ids m k).getD j 0] := by
  rw [List.take_succ_eq_append_getElem h, show (nk ids m k).getD j 0 = (nk ids m k)[j] by simp [List.getD, List.getElem?_eq_getElem h]]
theorem pst_next (k j : Nat) (h : j < (nk ids m k).length) (i : Nat) : pst ids m k (j + 1) i = (pst ids m k j i || i == (nk ids m k).getD j 0) := by
  unfold pst
  rw [take_next ids m k j h, List.contains_append, Bool.or_assoc]
  congr 2
  rw [Bool.eq_iff_iff]
  simp
theorem pst_cur (k j : Nat) (h : j < (nk ids m k).length) : pst ids m k j ((nk ids m k).getD j 0) = false := by
  unfold pst
  rw [Bool.or_eq_false_iff]
  refine ⟨decide_eq_false (by rw [(nk_at ids m k j h).2]; omega), ?_⟩
  cases hc : ((nk ids m k).take j).contains ((nk ids m k).getD j 0) with
  | false => rfl
  | true =>
    rw [List.contains_iff_mem] at hc
    obtain ⟨i, hi, he⟩ := List.getElem_of_mem hc
    have hij : i < j := by rw [List.length_take] at hi; omega
    have := nk_lt ids m k i j hij h
    rw [List.getElem_take] at he
    rw [show (nk ids m k).getD i 0 = (nk ids m k)[i] by simp [List.getD, List.getElem?_eq_getElem (show i < (nk ids m k).length by omega)], he] at this
    omega
theorem pst_end (k : Nat) (i : Nat) (h : i < ids.length) : pst ids m k (nk ids m k).length i = pst ids m (k + 1) 0 i := by
  unfold pst
  rw [List.take_length, List.take_zero]
  have e : (nk ids m k).contains i = decide (ofI ids m i = (k : Int)) := by
    by_cases c : ofI ids m i = (k : Int)
    · rw [decide_eq_true c, List.contains_iff_mem]; exact (nk_mem ids m k i h).2 c
    · rw [decide_eq_false c]
      cases hc : (nk ids m k).contains i with
      | false => rfl
      | true => rw [List.contains_iff_mem] at hc; exact absurd ((nk_mem ids m k i h).1 hc) c
  rw [e, List.contains_nil, Bool.or_false]
  by_cases c : ofI ids m i < (k : Int)
  · rw [decide_eq_true c, decide_eq_true (show ofI ids m i < ((k + 1 : Nat) : Int) by omega)]; rfl
  · by_cases c2 : ofI ids m i = (k : Int)
    · rw [decide_eq_true c2, decide_eq_true (show ofI ids m i < ((k + 1 : Nat) : Int) by omega)]; simp
    · rw [decide_eq_false c, decide_eq_false c2, decide_eq_false (show ¬ ofI ids m i < ((k + 1 : Nat) : Int) by omega)]; rfl
variable (hm : 1 ≤ m) (hm8 : m ≤ 8)
include hm hm8
theorem pst_all (i : Nat) : pst ids m m 0 i = true := by
  unfold pst ofI
  have := (ofG_in (ids.getD i 0) m (by omega) (by omega)).2
  rw [decide_eq_true this]; rfl
theorem pst_none (i : Nat) : pst ids m 0 0 i = false := by
  unfold pst ofI
  have := (ofG_in (ids.getD i 0) m (by omega) (by omega)).1
  rw [decide_eq_false (by omega)]; rfl
end

/-! merging the changed accounts -/
section
variable (ids : List Int) (m : Nat)
def fAc (i : Nat) : Ac.D := acc1 (ids.getD i 0) ((i : Int) + 1000)
def lAc (i : Nat) : Ac.D := acc1 (ids.getD i 0) (i : Int)
noncomputable def outG (k j : Nat) : List Ac.D := mix ids.length (pst ids m k j) (fAc ids) (lAc ids)
noncomputable def dnG (k : Nat) : List (List Ac.D) := (List.range k).map fun k => (nk ids m k).map (fAc ids)
theorem mg1_out (k : Nat) : ∀ (d j : Nat), j + d = (nk ids m k).length → mg1 ((nk ids m k).map (fAc ids)) (((nk ids m k).map fun (j : Nat) => (j : Int)).drop j) j (outG ids m k j) = outG ids m k (nk ids m k).length
  | 0, j, h => by
    rw [drop_end (by rw [List.length_map]; omega), show j = (nk ids m k).length by omega]; rfl
  | d + 1, j, h => by
    have hj : j < (nk ids m k).length := by omega
    obtain ⟨h1, h2⟩ := nk_at ids m k j hj
    have e1 : ((nk ids m k).map fun (j : Nat) => (j : Int)).getD j 0 = (((nk ids m k).getD j 0 : Nat) : Int) := by simp [List.getD, hj]
    have e2 : ((nk ids m k).map (fAc ids)).getD j zA = fAc ids ((nk ids m k).getD j 0) := by simp [List.getD, hj]
    rw [drop_cons _ 0 j (by rw [List.length_map]; omega), mg1_cons, e1, e2, List.length_map, decide_eq_true hj, decide_eq_true (by omega), decide_eq_true (by unfold outG; rw [mix_len]; omega), Int.toNat_natCast]
    simp only [cond_true]
    have e3 : (outG ids m k j).set ((nk ids m k).getD j 0) (fAc ids ((nk ids m k).getD j 0)) = outG ids m k (j + 1) := by
      unfold outG
      rw [mix_set _ _ _ _ _ h1]
      exact mix_congr _ _ fun i _ => (pst_next ids m k j hj i).symm
    rw [e3]
    exact mg1_out k d (j + 1) (by omega)
theorem outG_next (k : Nat) : outG ids m k (nk ids m k).length = outG ids m (k + 1) 0 := mix_congr _ _ fun i hi => pst_end ids m k i hi
theorem mg2_out : ∀ (d k : Nat), k + d = m → mg2 (dnG ids m m) (((List.range m).map (pIdx ofG (accG ids) m (accG ids).length)).drop k) k (outG ids m k 0) = outG ids m m 0
  | 0, k, h => by
    rw [drop_end (by simp; omega), show k = m by omega]; rfl
  | d + 1, k, h => by
    have hk : k < m := by omega
    have e1 : ((List.range m).map (pIdx ofG (accG ids) m (accG ids).length)).getD k [] = (nk ids m k).map fun (j : Nat) => (j : Int) := by
      rw [← pIdx_nk]; simp [List.getD, hk]
    have e2 : (dnG ids m m).getD k [] = (nk ids m k).map (fAc ids) := by simp [dnG, List.getD, hk]
    rw [drop_cons _ [] k (by simp; omega), e1]
    show mg2 (dnG ids m m) _ (k + 1) (mg1 ((dnG ids m m).getD k []) _ 0 (outG ids m k 0)) = _
    rw [e2]
    have := mg1_out ids m k (nk ids m k).length 0 (by omega)
    rw [List.drop_zero] at this
    rw [this, outG_next]
    exact mg2_out d (k + 1) (by omega)
theorem accG_out (hm : 1 ≤ m) (hm8 : m ≤ 8) : accG ids = outG ids m 0 0 := by
  have h := mix_congr (L := ids.length) (p := pst ids m 0 0) (q := fun _ => false) (fAc ids) (lAc ids) fun i _ => pst_none ids m hm hm8 i
  unfold outG
  rw [h]; rfl
theorem merged (hm : 1 ≤ m) (hm8 : m ≤ 8) : mg2 (dnG ids m m) (pLs ofG (accG ids) m m (accG ids).length) 0 (accG ids) = outG ids m m 0 := by
  have := mg2_out ids m m 0 (by omega)
  rw [List.drop_zero] at this
  conv => lhs; rw [accG_out ids m hm hm8]
  rw [← accG_out ids m hm hm8]
  conv at this => lhs; rw [← accG_out ids m hm hm8]
  exact this
end
end Go.Lift.V48
set_option maxRecDepth 100000
set_option linter.unusedVariables false
set_option linter.unusedSimpArgs false
namespace Go.Lift.V48
open Go.Lift Go.Proofs

noncomputable def M6 : Leaf := .loop (cAt Try.f6 [1, 1, 1, 1, 1, 1, 1, 0, 1, 0, 0]) [.inBlock 0, .code (cAt Try.f6 [1, 1, 1, 1, 1, 1, 1, 1])] ⟨[], []⟩
def S6 (s0 : (List Int)) (s1 : Int) (s5 : (List (Ty.D Ac))) (s6 : (List (List Int))) (s9 : Int) (b7 : (List Int)) (b8 : (List (List (Ty.D Ac)))) : St := ⟨[(0, .tv (TD.mk LI s0)), (1, .tv (I s1)), (5, .tv (TD.mk LA s5)), (6, .tv (TD.mk LLI s6)), (7, .ref 7), (8, .ref 8), (9, .tv (I s9))], [(7, .vec (.int .i64) b7), (8, .vec LA b8)]⟩
noncomputable def M6a : Leaf := .loop (cAt Try.f6 [1, 1, 1, 1, 1, 1, 1, 0, 1, 0, 0, 1, 0, 0, 1, 0, 1, 0, 0]) [.inBlock 2, .code (cAt Try.f6 [1, 1, 1, 1, 1, 1, 1, 0, 1, 0, 0, 1, 0, 0, 1, 1]), .inBlock 1, .code (cAt Try.f6 [1, 1, 1, 1, 1, 1, 1, 0, 1, 0, 0, 1, 1]), .inLoop (cAt Try.f6 [1, 1, 1, 1, 1, 1, 1, 0, 1, 0, 0]), .inBlock 0, .code (cAt Try.f6 [1, 1, 1, 1, 1, 1, 1, 1])] ⟨[], []⟩
def S6a (s0 : (List Int)) (s1 : Int) (s5 : (List (Ty.D Ac))) (s6 : (List (List Int))) (s9 : Int) (s11 : Int) (b7 : (List Int)) (b8 : (List (List (Ty.D Ac)))) (b10 : (List (Ty.D Ac))) : St := ⟨[(0, .tv (TD.mk LI s0)), (1, .tv (I s1)), (5, .tv (TD.mk LA s5)), (6, .tv (TD.mk LLI s6)), (7, .ref 7), (8, .ref 8), (9, .tv (I s9)), (10, .ref 10), (11, .tv (I s11))], [(7, .vec (.int .i64) b7), (8, .vec LA b8), (10, .vec Ac b10)]⟩
noncomputable def M6b : Leaf := .loop (cAt Try.f6 [1, 1, 1, 1, 1, 1, 1, 1, 1, 1, 0, 1, 0, 0]) [.inBlock 4, .code (cAt Try.f6 [1, 1, 1, 1, 1, 1, 1, 1, 1, 1, 1])] ⟨[], []⟩
def S6b (s0 : (List Int)) (s5 : (List (Ty.D Ac))) (s14 : (List (Ty.D Ac))) (s15 : Int) (b7 : (List Int)) : St := ⟨[(0, .tv (TD.mk LI s0)), (5, .tv (TD.mk LA s5)), (7, .ref 7), (14, .tv (TD.mk LA s14)), (15, .tv (I s15))], [(7, .vec (.int .i64) b7)]⟩
theorem i6 (k7 : Int → Int → Bool) (r7 : Int → Int → Int) (k9 : Bool) (r9 : Bool) (k10 : (List Int) → Bool) (r10 : (List Int) → (List (Ty.D Ac))) (k12 : (List (Ty.D Ac)) → Int → Bool) (r12 : (List (Ty.D Ac)) → Int → (List (List Int))) (k16 : (List (Ty.D Ac)) → (List (List Int)) → (List (List (Ty.D Ac))) → Bool) (r16 : (List (Ty.D Ac)) → (List (List Int)) → (List (List (Ty.D Ac))) → (List (Ty.D Ac))) (s0 : (List Int)) (s1 : Int) (s5 : (List (Ty.D Ac))) (s6 : (List (List Int))) (s9 : Int) (b7 : (List Int)) (b8 : (List (List (Ty.D Ac)))) :
    runL (((((Tbl.none.add 7 (FC2 (.int .i64) (.int .i64) k7 (fun x0 x1 => .tv (I (r7 x0 x1))))).add 9 (FC0  k9 (.tv (B r9)))).add 10 (FC1 LI k10 (fun x0 => .tv (TD.mk LA (r10 x0))))).add 12 (FC2 LA (.int .i64) k12 (fun x0 x1 => .tv (TD.mk LLI (r12 x0 x1))))).add 16 (FC3 LA LLI LLA k16 (fun x0 x1 x2 => .tv (TD.mk LA (r16 x0 x1 x2))))) [(642, [0, 1, 5, 6, 7, 8, 9]), (903, [0, 1, 5, 6, 7, 8, 9, 10, 11]), (1794, [0, 5, 7, 14, 15])] Try.f6 1000 M6.round (S6 s0 s1 s5 s6 s9 b7 b8) =
  bif (decide (s9 < s1)) then
    .loop M6a.body M6a.kont (S6a s0 s1 s5 s6 s9 0 b7 b8 [])
  else
    bif (k16 s5 s6 b8) then
      bif (((List.length (r16 s5 s6 b8) : Nat) : Int) != ((List.length s5 : Nat) : Int)) then
        .ret (.tv (B false))
      else
        .loop M6b.body M6b.kont (S6b s0 s5 (r16 s5 s6 b8) 0 b7)
    else
      .fail := by kernel_rfl
theorem i6a (k7 : Int → Int → Bool) (r7 : Int → Int → Int) (k9 : Bool) (r9 : Bool) (k10 : (List Int) → Bool) (r10 : (List Int) → (List (Ty.D Ac))) (k12 : (List (Ty.D Ac)) → Int → Bool) (r12 : (List (Ty.D Ac)) → Int → (List (List Int))) (k16 : (List (Ty.D Ac)) → (List (List Int)) → (List (List (Ty.D Ac))) → Bool) (r16 : (List (Ty.D Ac)) → (List (List Int)) → (List (List (Ty.D Ac))) → (List (Ty.D Ac))) (s0 : (List Int)) (s1 : Int) (s5 : (List (Ty.D Ac))) (s6 : (List (List Int))) (s9 : Int) (s11 : Int) (b7 : (List Int)) (b8 : (List (List (Ty.D Ac)))) (b10 : (List (Ty.D Ac))) :
    runL (((((Tbl.none.add 7 (FC2 (.int .i64) (.int .i64) k7 (fun x0 x1 => .tv (I (r7 x0 x1))))).add 9 (FC0  k9 (.tv (B r9)))).add 10 (FC1 LI k10 (fun x0 => .tv (TD.mk LA (r10 x0))))).add 12 (FC2 LA (.int .i64) k12 (fun x0 x1 => .tv (TD.mk LLI (r12 x0 x1))))).add 16 (FC3 LA LLI LLA k16 (fun x0 x1 x2 => .tv (TD.mk LA (r16 x0 x1 x2))))) [(642, [0, 1, 5, 6, 7, 8, 9]), (903, [0, 1, 5, 6, 7, 8, 9, 10, 11]), (1794, [0, 5, 7, 14, 15])] Try.f6 1000 M6a.round (S6a s0 s1 s5 s6 s9 s11 b7 b8 b10) =
  bif (inB s9 (List.length s6)) then
    bif (decide (s11 < ((List.length (List.getD s6 (Int.toNat s9) []) : Nat) : Int))) then
      bif (inB s9 (List.length s6)) then
        bif (inB s11 (List.length (List.getD s6 (Int.toNat s9) []))) then
          bif ((inB (List.getD (List.getD s6 (Int.toNat s9) []) (Int.toNat s11) 0) (List.length s0)) || (!(!(bif (decide ((List.getD (List.getD s6 (Int.toNat s9) []) (Int.toNat s11) 0) < 0)) then true else (decide ((List.getD (List.getD s6 (Int.toNat s9) []) (Int.toNat s11) 0) ≥ ((List.length s5 : Nat) : Int))))))) then
            bif ((k7 (List.getD s0 (Int.toNat (List.getD (List.getD s6 (Int.toNat s9) []) (Int.toNat s11) 0)) 0) s1) || (!(!(bif (decide ((List.getD (List.getD s6 (Int.toNat s9) []) (Int.toNat s11) 0) < 0)) then true else (decide ((List.getD (List.getD s6 (Int.toNat s9) []) (Int.toNat s11) 0) ≥ ((List.length s5 : Nat) : Int))))))) then
              bif ((inB s9 (List.length s6)) || (!((!(bif (bif (decide ((List.getD (List.getD s6 (Int.toNat s9) []) (Int.toNat s11) 0) < 0)) then true else (decide ((List.getD (List.getD s6 (Int.toNat s9) []) (Int.toNat s11) 0) ≥ ((List.length s5 : Nat) : Int)))) then true else ((r7 (List.getD s0 (Int.toNat (List.getD (List.getD s6 (Int.toNat s9) []) (Int.toNat s11) 0)) 0) s1) != s9))) && (decide (s11 > 0))))) then
                bif ((inB (w (s11 - 1)) (List.length (List.getD s6 (Int.toNat s9) []))) || (!((!(bif (bif (decide ((List.getD (List.getD s6 (Int.toNat s9) []) (Int.toNat s11) 0) < 0)) then true else (decide ((List.getD (List.getD s6 (Int.toNat s9) []) (Int.toNat s11) 0) ≥ ((List.length s5 : Nat) : Int)))) then true else ((r7 (List.getD s0 (Int.toNat (List.getD (List.getD s6 (Int.toNat s9) []) (Int.toNat s11) 0)) 0) s1) != s9))) && (decide (s11 > 0))))) then
                  bif (bif (bif (bif (decide ((List.getD (List.getD s6 (Int.toNat s9) []) (Int.toNat s11) 0) < 0)) then true else (decide ((List.getD (List.getD s6 (Int.toNat s9) []) (Int.toNat s11) 0) ≥ ((List.length s5 : Nat) : Int)))) then true else ((r7 (List.getD s0 (Int.toNat (List.getD (List.getD s6 (Int.toNat s9) []) (Int.toNat s11) 0)) 0) s1) != s9)) then true else (bif (decide (s11 > 0)) then (decide ((List.getD (List.getD s6 (Int.toNat s9) []) (Int.toNat s11) 0) ≤ (List.getD (List.getD s6 (Int.toNat s9) []) (Int.toNat (w (s11 - 1))) 0))) else false)) then
                    .ret (.tv (B false))
                  else
                    bif (inB (List.getD (List.getD s6 (Int.toNat s9) []) (Int.toNat s11) 0) (List.length b7)) then
                      bif (inB (List.getD (List.getD s6 (Int.toNat s9) []) (Int.toNat s11) 0) (List.length b7)) then
                        bif (inB (List.getD (List.getD s6 (Int.toNat s9) []) (Int.toNat s11) 0) (List.length s5)) then
                          bif (capOK Ac ((List.length b10) + (List.length [(((List.getD s5 (Int.toNat (List.getD (List.getD s6 (Int.toNat s9) []) (Int.toNat s11) 0)) ((0, 0, 0, [], ()), [], [], 0, 0, ()))).1, ((List.getD s5 (Int.toNat (List.getD (List.getD s6 (Int.toNat s9) []) (Int.toNat s11) 0)) ((0, 0, 0, [], ()), [], [], 0, 0, ()))).2.1, ((List.getD s5 (Int.toNat (List.getD (List.getD s6 (Int.toNat s9) []) (Int.toNat s11) 0)) ((0, 0, 0, [], ()), [], [], 0, 0, ()))).2.2.1, (w ((((List.getD s5 (Int.toNat (List.getD (List.getD s6 (Int.toNat s9) []) (Int.toNat s11) 0)) ((0, 0, 0, [], ()), [], [], 0, 0, ()))).2.2.2.1) + 1000)), ((List.getD s5 (Int.toNat (List.getD (List.getD s6 (Int.toNat s9) []) (Int.toNat s11) 0)) ((0, 0, 0, [], ()), [], [], 0, 0, ()))).2.2.2.2.1, ())]))) then
                            .loop M6a.body M6a.kont (S6a s0 s1 s5 s6 s9 (w (s11 + 1)) (List.set b7 (Int.toNat (List.getD (List.getD s6 (Int.toNat s9) []) (Int.toNat s11) 0)) (w ((List.getD b7 (Int.toNat (List.getD (List.getD s6 (Int.toNat s9) []) (Int.toNat s11) 0)) 0) + 1))) b8 (b10 ++ [(((List.getD s5 (Int.toNat (List.getD (List.getD s6 (Int.toNat s9) []) (Int.toNat s11) 0)) ((0, 0, 0, [], ()), [], [], 0, 0, ()))).1, ((List.getD s5 (Int.toNat (List.getD (List.getD s6 (Int.toNat s9) []) (Int.toNat s11) 0)) ((0, 0, 0, [], ()), [], [], 0, 0, ()))).2.1, ((List.getD s5 (Int.toNat (List.getD (List.getD s6 (Int.toNat s9) []) (Int.toNat s11) 0)) ((0, 0, 0, [], ()), [], [], 0, 0, ()))).2.2.1, (w ((((List.getD s5 (Int.toNat (List.getD (List.getD s6 (Int.toNat s9) []) (Int.toNat s11) 0)) ((0, 0, 0, [], ()), [], [], 0, 0, ()))).2.2.2.1) + 1000)), ((List.getD s5 (Int.toNat (List.getD (List.getD s6 (Int.toNat s9) []) (Int.toNat s11) 0)) ((0, 0, 0, [], ()), [], [], 0, 0, ()))).2.2.2.2.1, ())]))
                          else
                            .fail
                        else
                          .fail
                      else
                        .fail
                    else
                      .fail
                else
                  .fail
              else
                .fail
            else
              .fail
          else
            .fail
        else
          .fail
      else
        .fail
    else
      bif (capOK LA ((List.length b8) + (List.length [b10]))) then
        .loop M6.body M6.kont (S6 s0 s1 s5 s6 (w (s9 + 1)) b7 (b8 ++ [b10]))
      else
        .fail
  else
    .fail := by kernel_rfl
theorem i6b (k7 : Int → Int → Bool) (r7 : Int → Int → Int) (k9 : Bool) (r9 : Bool) (k10 : (List Int) → Bool) (r10 : (List Int) → (List (Ty.D Ac))) (k12 : (List (Ty.D Ac)) → Int → Bool) (r12 : (List (Ty.D Ac)) → Int → (List (List Int))) (k16 : (List (Ty.D Ac)) → (List (List Int)) → (List (List (Ty.D Ac))) → Bool) (r16 : (List (Ty.D Ac)) → (List (List Int)) → (List (List (Ty.D Ac))) → (List (Ty.D Ac))) (s0 : (List Int)) (s5 : (List (Ty.D Ac))) (s14 : (List (Ty.D Ac))) (s15 : Int) (b7 : (List Int)) :
    runL (((((Tbl.none.add 7 (FC2 (.int .i64) (.int .i64) k7 (fun x0 x1 => .tv (I (r7 x0 x1))))).add 9 (FC0  k9 (.tv (B r9)))).add 10 (FC1 LI k10 (fun x0 => .tv (TD.mk LA (r10 x0))))).add 12 (FC2 LA (.int .i64) k12 (fun x0 x1 => .tv (TD.mk LLI (r12 x0 x1))))).add 16 (FC3 LA LLI LLA k16 (fun x0 x1 x2 => .tv (TD.mk LA (r16 x0 x1 x2))))) [(642, [0, 1, 5, 6, 7, 8, 9]), (903, [0, 1, 5, 6, 7, 8, 9, 10, 11]), (1794, [0, 5, 7, 14, 15])] Try.f6 1000 M6b.round (S6b s0 s5 s14 s15 b7) =
  bif (decide (s15 < ((List.length s5 : Nat) : Int))) then
    bif (inB s15 (List.length b7)) then
      bif ((inB s15 (List.length s14)) || (!(!((List.getD b7 (Int.toNat s15) 0) != 1)))) then
        bif ((inB s15 (List.length s14)) || (!(!(bif ((List.getD b7 (Int.toNat s15) 0) != 1) then true else ((((List.getD s14 (Int.toNat s15) ((0, 0, 0, [], ()), [], [], 0, 0, ()))).2.2.2.1) != (w (s15 + 1000))))))) then
          bif ((inB s15 (List.length s0)) || (!(!(bif ((List.getD b7 (Int.toNat s15) 0) != 1) then true else ((((List.getD s14 (Int.toNat s15) ((0, 0, 0, [], ()), [], [], 0, 0, ()))).2.2.2.1) != (w (s15 + 1000))))))) then
            bif ((inB s15 (List.length s5)) || (!(!(bif (bif ((List.getD b7 (Int.toNat s15) 0) != 1) then true else ((((List.getD s14 (Int.toNat s15) ((0, 0, 0, [], ()), [], [], 0, 0, ()))).2.2.2.1) != (w (s15 + 1000)))) then true else (((((List.getD s14 (Int.toNat s15) ((0, 0, 0, [], ()), [], [], 0, 0, ()))).1).1) != (List.getD s0 (Int.toNat s15) 0)))))) then
              bif (bif (bif (bif ((List.getD b7 (Int.toNat s15) 0) != 1) then true else ((((List.getD s14 (Int.toNat s15) ((0, 0, 0, [], ()), [], [], 0, 0, ()))).2.2.2.1) != (w (s15 + 1000)))) then true else (((((List.getD s14 (Int.toNat s15) ((0, 0, 0, [], ()), [], [], 0, 0, ()))).1).1) != (List.getD s0 (Int.toNat s15) 0))) then true else ((((List.getD s5 (Int.toNat s15) ((0, 0, 0, [], ()), [], [], 0, 0, ()))).2.2.2.1) != s15)) then
                .ret (.tv (B false))
              else
                .loop M6b.body M6b.kont (S6b s0 s5 s14 (w (s15 + 1)) b7)
            else
              .fail
          else
            .fail
        else
          .fail
      else
        .fail
    else
      .fail
  else
    bif k9 then
      .ret (.tv (B r9))
    else
      .fail := by kernel_rfl
theorem e6 (k7 : Int → Int → Bool) (r7 : Int → Int → Int) (k9 : Bool) (r9 : Bool) (k10 : (List Int) → Bool) (r10 : (List Int) → (List (Ty.D Ac))) (k12 : (List (Ty.D Ac)) → Int → Bool) (r12 : (List (Ty.D Ac)) → Int → (List (List Int))) (k16 : (List (Ty.D Ac)) → (List (List Int)) → (List (List (Ty.D Ac))) → Bool) (r16 : (List (Ty.D Ac)) → (List (List Int)) → (List (List (Ty.D Ac))) → (List (Ty.D Ac))) (a0 : (List Int)) (a1 : Int) :
    runL (((((Tbl.none.add 7 (FC2 (.int .i64) (.int .i64) k7 (fun x0 x1 => .tv (I (r7 x0 x1))))).add 9 (FC0  k9 (.tv (B r9)))).add 10 (FC1 LI k10 (fun x0 => .tv (TD.mk LA (r10 x0))))).add 12 (FC2 LA (.int .i64) k12 (fun x0 x1 => .tv (TD.mk LLI (r12 x0 x1))))).add 16 (FC3 LA LLI LLA k16 (fun x0 x1 x2 => .tv (TD.mk LA (r16 x0 x1 x2))))) [(642, [0, 1, 5, 6, 7, 8, 9]), (903, [0, 1, 5, 6, 7, 8, 9, 10, 11]), (1794, [0, 5, 7, 14, 15])] Try.f6 1000 (bod Try.f6) (entry [(TD.mk LI a0), (I a1)]) =
  bif (bif (bif (decide (((List.length a0 : Nat) : Int) > 200)) then true else (decide (a1 < 1))) then true else (decide (a1 > 8))) then
    bif k9 then
      .ret (.tv (B r9))
    else
      .fail
  else
    bif (k10 a0) then
      bif (k12 (r10 a0) a1) then
        bif (((List.length (r12 (r10 a0) a1) : Nat) : Int) != a1) then
          .ret (.tv (B false))
        else
          bif (decide (0 ≤ ((List.length (r10 a0) : Nat) : Int)) && decide (((List.length (r10 a0) : Nat) : Int) ≤ ((List.length (r10 a0) : Nat) : Int)) && capOK (.int .i64) (Int.toNat ((List.length (r10 a0) : Nat) : Int))) then
            .loop M6.body M6.kont (S6 a0 a1 (r10 a0) (r12 (r10 a0) a1) 0 (zeros (.int .i64) (Int.toNat ((List.length (r10 a0) : Nat) : Int))) [])
          else
            .fail
      else
        .fail
    else
      .fail := by kernel_rfl

end Go.Lift.V48
set_option maxRecDepth 100000
set_option linter.unusedVariables false
set_option linter.unusedSimpArgs false
namespace Go.Lift.V48
open Go.Lift Go.Proofs

/-! every account in one shard: the walk -/
noncomputable abbrev GG6 : Tbl := ((((Tbl.none.add 7 (FOf (fun _ _ => true) ofG)).add 9 FAwake).add 10 (FC1 LI (fun l => lenOK (List.length l)) fun l => .tv ⟨LA, accG l⟩)).add 12 FPart).add 16 FMerge
abbrev Goes6 (L : Leaf) (s : SV) : Prop := Goes GG6 T Try.f6.ntmps Try.f6.results.toList L s
section
variable (ids : List Int) (m : Nat)
noncomputable def partsG : List (List Int) := (List.range m).map (pIdx ofG (accG ids) m (accG ids).length)
theorem partsG_at (k : Nat) (hk : k < m) : (partsG ids m).getD k [] = (nk ids m k).map fun (j : Nat) => (j : Int) := by
  rw [← pIdx_nk]; simp [partsG, List.getD, hk]
noncomputable def seenG (k j : Nat) : List Int := mix ids.length (pst ids m k j) (fun _ => (1 : Int)) (fun _ => (0 : Int))
noncomputable def ownG (k j : Nat) : List Ac.D := ((nk ids m k).take j).map (fAc ids)
theorem ownG_len (k j : Nat) : (ownG ids m k j).length ≤ j := by
  unfold ownG; rw [List.length_map, List.length_take]; omega
theorem ownG_next (k j : Nat) (h : j < (nk ids m k).length) : ownG ids m k (j + 1) = ownG ids m k j ++ [fAc ids ((nk ids m k).getD j 0)] := by
  unfold ownG; rw [take_next ids m k j h, List.map_append]; rfl
theorem seenG_next (k j : Nat) (h : j < (nk ids m k).length) : (seenG ids m k j).set ((nk ids m k).getD j 0) (w ((seenG ids m k j).getD ((nk ids m k).getD j 0) 0 + 1)) = seenG ids m k (j + 1) := by
  obtain ⟨h1, h2⟩ := nk_at ids m k j h
  unfold seenG
  rw [mix_at _ _ _ _ _ _ h1, pst_cur ids m k j h, cond_false, show w (0 + 1) = 1 from wrap_id (by omega) (by omega)]
  rw [mix_set ids.length (pst ids m k j) (fun _ => (1 : Int)) (fun _ => (0 : Int)) _ h1]
  exact mix_congr _ _ fun i _ => (pst_next ids m k j h i).symm
theorem seenG_end (k : Nat) : seenG ids m k (nk ids m k).length = seenG ids m (k + 1) 0 := mix_congr _ _ fun i hi => pst_end ids m k i hi
theorem dnG_succ (k : Nat) : dnG ids m (k + 1) = dnG ids m k ++ [ownG ids m k (nk ids m k).length] := by
  unfold dnG ownG; rw [List.range_succ, List.map_append, List.take_length]; rfl
theorem accG_at (i : Nat) (h : i < ids.length) : (accG ids).getD i zA = lAc ids i := by unfold accG lAc; rw [accN_at _ _ _ h]
end
section
variable (ids : List Int) (m : Nat) (hl : ids.length ≤ 200) (hm8 : m ≤ 8)
include hl hm8
theorem loop6a (k : Nat) (hk : k < m) (r : SV) (hn : Goes6 (.loop M6.body M6.kont (S6 ids m (accG ids) (partsG ids m) ((k + 1 : Nat) : Int) (seenG ids m (k + 1) 0) (dnG ids m (k + 1)))) r) : ∀ (d j : Nat), j + d = (nk ids m k).length →
    Goes6 (.loop M6a.body M6a.kont (S6a ids m (accG ids) (partsG ids m) k j (seenG ids m k j) (dnG ids m k) (ownG ids m k j))) r
  | 0, j, h => by
    refine Goes.lp' (i6a (fun _ _ => true) ofG true true (fun l => lenOK (List.length l)) accG (fun l _ => lenOK (List.length l + 2)) (rPart ofG) mergeK (fun l parts done => mg2 done parts 0 l) ids m (accG ids) (partsG ids m) k j _ _ _) ?_
    have hpl : (partsG ids m).length = m := by simp [partsG]
    rw [toNat_lt (n := (partsG ids m).length) (by omega) (by omega), cond_true, Int.toNat_natCast, partsG_at ids m k hk, List.length_map, decide_eq_false (show ¬ (j : Int) < (((nk ids m k).length : Nat) : Int) by omega), cond_false, List.length_singleton]
    have hdl : (dnG ids m k).length = k := by simp [dnG]
    have hc : capOK LA ((dnG ids m k).length + 1) = true := decide_eq_true (by show ((dnG ids m k).length + 1) * 24 ≤ 140737488355328; omega)
    rw [hc, cond_true, w_step (n := m) (by omega) (by omega) (by omega), show ((k : Int) + 1) = ((k + 1 : Nat) : Int) by omega, show j = (nk ids m k).length by omega, ← dnG_succ, seenG_end]
    exact hn
  | d + 1, j, h => by
    refine Goes.lp' (i6a (fun _ _ => true) ofG true true (fun l => lenOK (List.length l)) accG (fun l _ => lenOK (List.length l + 2)) (rPart ofG) mergeK (fun l parts done => mg2 done parts 0 l) ids m (accG ids) (partsG ids m) k j _ _ _) ?_
    have hpl : (partsG ids m).length = m := by simp [partsG]
    have hj : j < (nk ids m k).length := by omega
    obtain ⟨t1, t2⟩ := nk_at ids m k j hj
    have hnl := nk_len ids m k
    have e1 : ((nk ids m k).map fun (j : Nat) => (j : Int)).getD j 0 = (((nk ids m k).getD j 0 : Nat) : Int) := by simp [List.getD, hj]
    have e2 : decide ((j : Int) > 0) = true → inB (w ((j : Int) - 1)) (nk ids m k).length = true ∧ ((nk ids m k).map fun (j : Nat) => (j : Int)).getD (Int.toNat (w ((j : Int) - 1))) 0 < (((nk ids m k).getD j 0 : Nat) : Int) := by
      intro hg
      have hg := of_decide_eq_true hg
      have ew : w ((j : Int) - 1) = ((j - 1 : Nat) : Int) := by rw [show w ((j : Int) - 1) = (j : Int) - 1 from wrap_id (by omega) (by omega)]; omega
      rw [ew, Int.toNat_natCast]
      refine ⟨toNat_lt (by omega) (by omega), ?_⟩
      rw [show ((nk ids m k).map fun (j : Nat) => (j : Int)).getD (j - 1) 0 = (((nk ids m k).getD (j - 1) 0 : Nat) : Int) by simp [List.getD, show j - 1 < (nk ids m k).length by omega]]
      have := nk_lt ids m k (j - 1) j (by omega) hj
      omega
    rw [toNat_lt (n := (partsG ids m).length) (by omega) (by omega), cond_true, Int.toNat_natCast, partsG_at ids m k hk, List.length_map, decide_eq_true (show (j : Int) < (((nk ids m k).length : Nat) : Int) by omega), cond_true, cond_true, toNat_lt (by omega) (by omega), cond_true, Int.toNat_natCast, e1, Int.toNat_natCast]
    generalize ((nk ids m k).map fun (j : Nat) => (j : Int)).getD (Int.toNat (w ((j : Int) - 1))) 0 = pv at *
    have hnx := loop6a k hk r hn d (j + 1) (by omega)
    rw [← seenG_next ids m k j hj, ownG_next ids m k j hj] at hnx
    have hof : ofG (ids.getD ((nk ids m k).getD j 0) 0) m = (k : Int) := t2
    have hat := accG_at ids _ t1
    generalize (nk ids m k).getD j 0 = t at *
    have ha : (accG ids).length = ids.length := accG_len ids
    rw [decide_eq_false (show ¬ (t : Int) < 0 by omega), decide_eq_false (show ¬ (t : Int) ≥ (((accG ids).length : Nat) : Int) by omega), hof, show ((k : Int) != (k : Int)) = false by simp, toNat_lt (n := ids.length) (by omega) (by omega), toNat_lt (n := (accG ids).length) (by omega) (by omega), toNat_lt (n := (seenG ids m k j).length) (by omega) (by unfold seenG; rw [mix_len]; omega)]
    have hc : capOK Ac ((ownG ids m k j).length + 1) = true := capAc (by have := ownG_len ids m k j; omega)
    rw [List.length_singleton, hc, hat]
    have hd : w ((t : Int) + 1000) = (t : Int) + 1000 := wrap_id (by omega) (by omega)
    have hw : w ((j : Int) + 1) = ((j + 1 : Nat) : Int) := by rw [w_step (n := (nk ids m k).length) (by omega) (by omega) (by omega)]; omega
    simp only [cond_false, cond_true, Bool.true_or, Bool.not_false, Bool.not_true, Bool.true_and]
    cases hg : decide ((j : Int) > 0) with
    | true =>
      obtain ⟨g1, g2⟩ := e2 hg
      rw [g1, decide_eq_false (show ¬ (t : Int) ≤ pv by omega)]
      simp only [cond_false, cond_true, Bool.true_or]
      rw [hw]
      show Goes6 (.loop M6a.body M6a.kont (S6a ids m (accG ids) (partsG ids m) k ((j + 1 : Nat) : Int) _ (dnG ids m k) (ownG ids m k j ++ [acc1 (ids.getD t 0) (w ((t : Int) + 1000))]))) r
      rw [hd]
      exact hnx
    | false =>
      simp only [cond_false, cond_true, Bool.not_false, Bool.or_true]
      rw [hw]
      show Goes6 (.loop M6a.body M6a.kont (S6a ids m (accG ids) (partsG ids m) k ((j + 1 : Nat) : Int) _ (dnG ids m k) (ownG ids m k j ++ [acc1 (ids.getD t 0) (w ((t : Int) + 1000))]))) r
      rw [hd]
      exact hnx
variable (hm : 1 ≤ m)
include hm
theorem loop6b : ∀ (d i : Nat), i + d = ids.length → Goes6 (.loop M6b.body M6b.kont (S6b ids (accG ids) (outG ids m m 0) i (seenG ids m m 0))) (.tv (B true))
  | 0, i, h => by
    refine Goes.lp' (i6b (fun _ _ => true) ofG true true (fun l => lenOK (List.length l)) accG (fun l _ => lenOK (List.length l + 2)) (rPart ofG) mergeK (fun l parts done => mg2 done parts 0 l) ids (accG ids) (outG ids m m 0) i _) ?_
    have ha : (accG ids).length = ids.length := accG_len ids
    rw [decide_eq_false (show ¬ (i : Int) < (((accG ids).length : Nat) : Int) by omega)]
    exact .ret _
  | d + 1, i, h => by
    refine Goes.lp' (i6b (fun _ _ => true) ofG true true (fun l => lenOK (List.length l)) accG (fun l _ => lenOK (List.length l + 2)) (rPart ofG) mergeK (fun l parts done => mg2 done parts 0 l) ids (accG ids) (outG ids m m 0) i _) ?_
    have ha : (accG ids).length = ids.length := accG_len ids
    have hi : i < ids.length := by omega
    have s1 : (seenG ids m m 0).getD i 0 = 1 := by unfold seenG; rw [mix_at _ _ _ _ _ _ hi, pst_all ids m hm hm8 i]; rfl
    have s2 : (outG ids m m 0).getD i zA = fAc ids i := by unfold outG; rw [mix_at _ _ _ _ _ _ hi, pst_all ids m hm hm8 i]; rfl
    have s3 := accG_at ids i hi
    have hd : w ((i : Int) + 1000) = (i : Int) + 1000 := wrap_id (by omega) (by omega)
    have hw : w ((i : Int) + 1) = ((i + 1 : Nat) : Int) := by rw [w_step (n := ids.length) (by omega) (by omega) (by omega)]; omega
    rw [decide_eq_true (show (i : Int) < (((accG ids).length : Nat) : Int) by omega), Int.toNat_natCast, s1, s2, s3, hd, hw, toNat_lt (n := ids.length) (by omega) (by omega), toNat_lt (n := (accG ids).length) (by omega) (by omega), toNat_lt (n := (seenG ids m m 0).length) (by omega) (by unfold seenG; rw [mix_len]; omega), toNat_lt (n := (outG ids m m 0).length) (by omega) (by unfold outG; rw [mix_len]; omega)]
    have c1 : ((fAc ids i).2.2.2.1 != (i : Int) + 1000) = false := by show (((i : Int) + 1000) != ((i : Int) + 1000)) = false; simp
    have c2 : ((fAc ids i).1.1 != ids.getD i 0) = false := by show (ids.getD i 0 != ids.getD i 0) = false; simp
    have c3 : ((lAc ids i).2.2.2.1 != (i : Int)) = false := by show ((i : Int) != (i : Int)) = false; simp
    rw [c1, c2, c3]
    simp only [cond_true, cond_false, Bool.true_or, show ((1 : Int) != 1) = false from rfl]
    exact loop6b d (i + 1) (by omega)
theorem merge_ok : mergeK (accG ids) (partsG ids m) (dnG ids m m) = true := by
  have hlen := accG_len ids
  have hcl : ∀ h i : Int, cloneK (acc1 h i) = true := fun h i => by show (capOK Fa 0 && capOK Po 0 && capOK Qp 0) = true; decide
  unfold mergeK
  simp only [Bool.and_eq_true, List.all_eq_true]
  have hp : okLL (partsG ids m) = true := by
    unfold okLL partsG
    rw [Bool.and_eq_true, List.all_eq_true]
    refine ⟨decide_eq_true (by simp; omega), fun x hx => ?_⟩
    obtain ⟨k, _, rfl⟩ := List.mem_map.1 hx
    have := pIdx_len ofG (accG ids) m (accG ids).length k
    exact decide_eq_true (by omega)
  refine ⟨⟨⟨decide_eq_true (by show (accG ids).length + 2 ≤ 68719476736; omega), hp⟩, fun x hx => ?_⟩, fun d hd x hx => ?_⟩
  · unfold accG accN at hx
    obtain ⟨i, _, rfl⟩ := List.mem_map.1 hx
    exact hcl _ _
  · unfold dnG at hd
    obtain ⟨k, _, rfl⟩ := List.mem_map.1 hd
    obtain ⟨i, _, rfl⟩ := List.mem_map.1 hx
    exact hcl _ _
theorem loop6 : ∀ (d k : Nat), k + d = m → Goes6 (.loop M6.body M6.kont (S6 ids m (accG ids) (partsG ids m) k (seenG ids m k 0) (dnG ids m k))) (.tv (B true))
  | 0, k, h => by
    refine Goes.lp' (i6 (fun _ _ => true) ofG true true (fun l => lenOK (List.length l)) accG (fun l _ => lenOK (List.length l + 2)) (rPart ofG) mergeK (fun l parts done => mg2 done parts 0 l) ids m (accG ids) (partsG ids m) k _ _) ?_
    rw [decide_eq_false (show ¬ (k : Int) < (m : Int) by omega), cond_false, show k = m by omega, merge_ok ids m hl hm8 hm, cond_true]
    have hmg : mg2 (dnG ids m m) (partsG ids m) 0 (accG ids) = outG ids m m 0 := merged ids m hm hm8
    rw [hmg]
    have ho : (outG ids m m 0).length = (accG ids).length := by unfold outG; rw [mix_len, accG_len]
    rw [ho, show ((((accG ids).length : Nat) : Int) != (((accG ids).length : Nat) : Int)) = false by simp, cond_false]
    exact loop6b ids m hl hm8 hm ids.length 0 (by omega)
  | d + 1, k, h => by
    refine Goes.lp' (i6 (fun _ _ => true) ofG true true (fun l => lenOK (List.length l)) accG (fun l _ => lenOK (List.length l + 2)) (rPart ofG) mergeK (fun l parts done => mg2 done parts 0 l) ids m (accG ids) (partsG ids m) k _ _) ?_
    rw [decide_eq_true (show (k : Int) < (m : Int) by omega), cond_true]
    have := loop6a ids m hl hm8 k (by omega) (.tv (B true)) (loop6 d (k + 1) (by omega)) (nk ids m k).length 0 (by omega)
    exact this
end
theorem has6 : Hs 6 (FC2 LI (.int .i64) (fun _ _ => true) fun _ _ => .tv (B true)) := by
  refine Has.fc2 (fn := Try.f6) (((((env0.more has7).more has9).more has10).more has12).more has16) (by kernel_rfl) (by kernel_rfl) (by kernel_rfl) (by kernel_rfl) fun (ids : List Int) (n : Int) _ => .run1 (e6 (fun _ _ => true) ofG true true (fun l => lenOK (List.length l)) accG (fun l _ => lenOK (List.length l + 2)) (rPart ofG) mergeK (fun l parts done => mg2 done parts 0 l) ids n) ?_
  rw [bor_bif, bor_bif]
  refine .bif (fun _ => .ret _) fun g => ?_
  simp only [Bool.or_eq_false_iff, decide_eq_false_iff_not] at g
  obtain ⟨⟨g1, g2⟩, g3⟩ := g
  obtain ⟨m, rfl⟩ : ∃ m : Nat, n = (m : Int) := ⟨n.toNat, by omega⟩
  have hl : ids.length ≤ 200 := by omega
  have hlen := accG_len ids
  have h1 : lenOK ids.length = true := decide_eq_true (Nat.le_trans hl (by decide))
  have h3 : lenOK ((accG ids).length + 2) = true := decide_eq_true (Nat.le_trans (Nat.add_le_add_right (show (accG ids).length ≤ 200 by omega) 2) (by decide))
  have hr : rPart ofG (accG ids) (m : Int) = partsG ids m := by
    unfold rPart
    rw [decide_eq_false (by omega), decide_eq_false (by omega)]
    rfl
  have hpl : (partsG ids m).length = m := by simp [partsG]
  have hc : capOK (.int .i64) (accG ids).length = true := decide_eq_true (by show (accG ids).length * 8 ≤ 140737488355328; omega)
  rw [h1, cond_true, h3, cond_true, hr, hpl, show (((m : Nat) : Int) != (m : Int)) = false by simp, cond_false, Int.toNat_natCast, hc, decide_eq_true (by omega : (0 : Int) ≤ (((accG ids).length : Nat) : Int)), decide_eq_true (Int.le_refl _)]
  have hs : seenG ids m 0 0 = zeros (.int .i64) (accG ids).length := by
    have h := mix_congr (L := ids.length) (p := pst ids m 0 0) (q := fun _ => false) (fun _ => (1 : Int)) (fun _ => (0 : Int)) fun i _ => pst_none ids m (by omega) (by omega) i
    unfold seenG
    rw [h, hlen]
    unfold mix zeros
    apply List.ext_getElem
    · simp
    · intro i h1 h2; simp [Ty.zero]
  have := loop6 ids m hl (by omega) (by omega) m 0 (by omega)
  rw [hs] at this
  exact this
end Go.Lift.V48
