/- A part of the proof that the law returns true for every input: no condition. -/
import Derived.Test.YtincaojcmkklbaaE25
import Derived.Carry
import Derived.Deep.Slices
set_option linter.unusedSimpArgs false
set_option linter.unusedVariables false
namespace Go.Lift
open Go.ChangeShapes Go.WideShapes Go.RowKit

/-! From what the statement reads to typed data -/
def Wf : (t : Ty) → t.D → Prop
  | .int k, n => (Lit.int k n).wf = true
  | .str, s => s.size ≤ maxLen
  | .slice e, l => List.length l ≤ maxLen ∧ ∀ (i : Nat) (h : i < List.length l), Wf e (l[i])
  | .cons a b, x => Wf a x.1 ∧ Wf b x.2
  | .bool, _ => True
  | .nil, _ => True

section
variable {H : Type} {enc : TypeId × Value → H} {P : Program} {w : World}

theorem cellsOf_chk {t : Ty} {ty : Nat} (h : chk P t ty = true) : P.cellsOf ty = t.size := by
  obtain ⟨i, z, h1, h2, _⟩ := infoOK_spec (chk_info h)
  simp [Program.cellsOf, h1, h2]

def MainP (H : Type) (enc : TypeId × Value → H) (P : Program) (w : World) (t : Ty) : Prop :=
  ∀ (fuel ty : Nat) (cs : List Value) (r : DataW H × List MemPlace), chk P t ty = true → DataW.trod enc P w 0 (fun _ => true) true fuel ty cs = some r → ∃ x : t.D, Enc (heapS w) t x cs ∧ Wf t x
def FieldsP (H : Type) (enc : TypeId × Value → H) (P : Program) (w : World) (t : Ty) : Prop :=
  ∀ (fuel : Nat) (fs : List Field) (off : Nat) (cs : List Value) (xs : List (DataW H × List MemPlace)), chkF P t fs off = true →
    (fs.mapM fun f => DataW.trod enc P w 0 (fun _ => true) true fuel f.type ((cs.drop f.offset).take (P.cellsOf f.type))) = some xs → cs.length = off + t.size → ∃ x : t.D, Enc (heapS w) t x (cs.drop off) ∧ Wf t x
def ArrP (H : Type) (enc : TypeId × Value → H) (P : Program) (w : World) (t : Ty) : Prop :=
  ∀ (fuel et n k : Nat) (cs : List Value) (xs : List (DataW H × List MemPlace)), chkA P t et n = true →
    ((List.range' k n).mapM fun i => DataW.trod enc P w 0 (fun _ => true) true fuel et ((cs.drop (i * P.cellsOf et)).take (P.cellsOf et))) = some xs → cs.length = k * P.cellsOf et + t.size → ∃ x : t.D, Enc (heapS w) t x (cs.drop (k * P.cellsOf et)) ∧ Wf t x

theorem lies_cells {a : Addr} {n : Nat} {cs : List Value} (h : w.cells? 0 a n = some cs) : cs.length = n ∧ Lies (heapS w) a cs := by
  obtain ⟨_, h2, h3⟩ := World.cells?_some h
  refine ⟨h2, lies_heapS fun j v hv => ?_⟩
  have hj : j < n := by rw [← h2]; exact (List.getElem?_eq_some_iff.1 hv).1
  rw [h3 j hj, hv]

theorem choose_list {α : Type} {n : Nat} {p : Nat → α → Prop} (h : ∀ i, i < n → ∃ x, p i x) : ∃ l : List α, l.length = n ∧ ∀ (i : Nat) (hi : i < l.length), p i l[i] := by
  induction n with
  | zero => exact ⟨[], rfl, fun i hi => by simp at hi⟩
  | succ n ih =>
    obtain ⟨l, h1, h2⟩ := ih fun i hi => h i (Nat.lt_succ_of_lt hi)
    obtain ⟨x, hx⟩ := h n (Nat.lt_succ_self n)
    refine ⟨l ++ [x], by simp [h1], fun i hi => ?_⟩
    by_cases e : i < l.length
    · rw [List.getElem_append_left e]; exact h2 i e
    · have : i = n := by simp at hi; omega
      subst this
      rw [List.getElem_append_right (by omega)]
      simpa [h1] using hx

theorem enc_of_trod_all (t : Ty) : MainP H enc P w t ∧ FieldsP H enc P w t ∧ ArrP H enc P w t := by
  induction t with
  | int k =>
    refine ⟨fun fuel ty cs r hc h => ?_, fun fuel fs off cs xs hc => by simp [chkF] at hc, fun fuel et n k cs xs hc => by simp [chkA] at hc⟩
    have hu := chk_int hc
    cases fuel with
    | zero => simp [DataW.trod] at h
    | succ fuel =>
      unfold DataW.trod at h
      rw [hu] at h
      split at h <;> first | (simp at h; done) | (rename_i h1; simp at h1; done) | skip
      rename_i k' n h1
      simp at h1
      subst h1
      split at h
      · rename_i hk
        obtain ⟨rfl, hwf⟩ := hk
        exact ⟨_, rfl, hwf⟩
      · simp at h
  | bool =>
    refine ⟨fun fuel ty cs r hc h => ?_, fun fuel fs off cs xs hc => by simp [chkF] at hc, fun fuel et n k cs xs hc => by simp [chkA] at hc⟩
    have hu := chk_bool hc
    cases fuel with
    | zero => simp [DataW.trod] at h
    | succ fuel =>
      unfold DataW.trod at h
      rw [hu] at h
      split at h <;> first | (simp at h; done) | (rename_i h1; simp at h1; done) | skip
      all_goals exact ⟨(_ : Bool), rfl, trivial⟩
  | str =>
    refine ⟨fun fuel ty cs r hc h => ?_, fun fuel fs off cs xs hc => by simp [chkF] at hc, fun fuel et n k cs xs hc => by simp [chkA] at hc⟩
    have hu := chk_str hc
    cases fuel with
    | zero => simp [DataW.trod] at h
    | succ fuel =>
      unfold DataW.trod at h
      rw [hu] at h
      split at h <;> simp_all
      exact ⟨_, rfl, h.1⟩
  | slice e ih =>
    refine ⟨fun fuel ty cs r hc h => ?_, fun fuel fs off cs xs hc => by simp [chkF] at hc, fun fuel et n k cs xs hc => by simp [chkA] at hc⟩
    obtain ⟨et, hu, hce, hpos⟩ := chk_slice hc
    rcases Go.Deep.open_slice hu h with ⟨rfl, _⟩ | ⟨a, len, cap, m, n, D, Pl, rfl, _, hl, hm, hmm, _, hx⟩
    · exact ⟨[], ⟨none, 0, rfl, by simp, fun _ => rfl, fun i hi => by simp at hi⟩, by simp, fun i hi => by simp at hi⟩
    · simp at hmm
      subst hmm
      have hce' := cellsOf_chk hce
      have hall : ∀ i, i < len → ∃ x : e.D, Wf e x ∧ ∃ c, c.length = e.size ∧ Lies (heapS w) (a.add (i * e.size)) c ∧ Enc (heapS w) e x c := by
        intro i hi
        obtain ⟨cs', h1, h2⟩ := hx i (by omega)
        obtain ⟨x, g1, g2⟩ := ih.1 n et cs' _ hce h2
        rw [hce'] at h1
        obtain ⟨g3, g4⟩ := lies_cells h1
        exact ⟨x, g2, cs', g3, g4, g1⟩
      obtain ⟨l, hlen, hl2⟩ := choose_list hall
      refine ⟨l, ⟨some a, m, by rw [hlen], by omega, by simp, fun i hi => ?_⟩, by omega, fun i hi => (hl2 i hi).1⟩
      obtain ⟨_, c, g1, g2, g3⟩ := hl2 i hi
      exact ⟨a, c, rfl, g1, g2, g3⟩
  | nil =>
    refine ⟨fun fuel ty cs r hc h => ?_, fun fuel fs off cs xs hc h hl => ?_, fun fuel et n k cs xs hc h hl => ?_⟩
    · have hce := cellsOf_chk hc
      simp only [chk, Bool.and_eq_true] at hc
      have hc2 := hc.2
      split at hc2
      · rename_i fs hu
        cases fuel with
        | zero => simp [DataW.trod] at h
        | succ fuel =>
          unfold DataW.trod at h
          rw [hu] at h
          simp only at h
          split at h
          · rename_i hlen
            rw [hce] at hlen
            exact ⟨(), by simpa [Enc, Ty.size] using hlen, trivial⟩
          · simp at h
      · simp at hc2
    · exact ⟨(), by simp [Enc, Ty.size] at hl ⊢; omega, trivial⟩
    · exact ⟨(), by simp [Enc, Ty.size] at hl ⊢; omega, trivial⟩
  | cons a b iha ihb =>
    have hF : FieldsP H enc P w (.cons a b) := by
      intro fuel fs off cs xs hc h hl
      simp only [chkF] at hc
      cases fs with
      | nil => simp at hc
      | cons f r =>
        simp only [Bool.and_eq_true, decide_eq_true_eq] at hc
        simp only [List.mapM_cons, Option.bind_eq_bind, Option.bind_eq_some_iff, Option.pure_def, Option.some.injEq] at h
        obtain ⟨y, hy, ys, hys, _⟩ := h
        have hsz := cellsOf_chk hc.1.2
        simp only [Ty.size] at hl
        rw [hc.1.1.1, hsz] at hy
        obtain ⟨x, g1, g2⟩ := iha.1 _ _ _ _ hc.1.2 hy
        obtain ⟨z, g3, g4⟩ := ihb.2.1 _ _ _ cs _ hc.2 hys (by omega)
        refine ⟨(x, z), ⟨_, _, ?_, g1, g3⟩, g2, g4⟩
        rw [← List.drop_drop, List.take_append_drop]
    have hA : ArrP H enc P w (.cons a b) := by
      intro fuel et n k cs xs hc h hl
      simp only [chkA, Bool.and_eq_true, decide_eq_true_eq] at hc
      obtain ⟨n, rfl⟩ : ∃ m, n = m + 1 := ⟨n - 1, by omega⟩
      simp only [List.range'_succ, List.mapM_cons, Option.bind_eq_bind, Option.bind_eq_some_iff, Option.pure_def, Option.some.injEq] at h
      obtain ⟨y, hy, ys, hys, _⟩ := h
      have hsz := cellsOf_chk hc.1.2
      simp only [Ty.size] at hl
      obtain ⟨x, g1, g2⟩ := iha.1 _ _ _ _ hc.1.2 hy
      obtain ⟨z, g3, g4⟩ := ihb.2.2 _ _ _ (k + 1) cs _ (by simpa using hc.2) (by simpa using hys) (by rw [hl, hsz, Nat.succ_mul]; omega)
      refine ⟨(x, z), ⟨_, _, ?_, g1, g3⟩, g2, g4⟩
      rw [show (k + 1) * P.cellsOf et = k * P.cellsOf et + P.cellsOf et by rw [Nat.succ_mul], ← List.drop_drop, List.take_append_drop]
    refine ⟨fun fuel ty cs r hc h => ?_, hF, hA⟩
    have hsz := cellsOf_chk hc
    cases fuel with
    | zero => simp [DataW.trod] at h
    | succ fuel =>
      rcases chk_cons hc with ⟨fs, hu, _, hcF, _⟩ | ⟨n, et, hu, ha, _⟩
      · unfold DataW.trod at h
        rw [hu] at h
        simp only at h
        split at h
        · rename_i hlen
          simp only [Option.map_eq_some_iff] at h
          obtain ⟨xs, hxs, _⟩ := h
          have := hF fuel fs.toList 0 cs xs hcF hxs (by rw [hlen, hsz]; omega)
          simpa using this
        · simp at h
      · subst ha
        simp only [chk, hu, Bool.and_eq_true] at hc
        have hcA := hc.2
        unfold DataW.trod at h
        rw [hu] at h
        simp only at h
        split at h
        · rename_i hlen
          simp only [Option.map_eq_some_iff] at h
          obtain ⟨xs, hxs, _⟩ := h
          rw [List.range_eq_range'] at hxs
          have := ihb.2.2 fuel et n 0 cs xs hcA hxs (by rw [hlen, hsz]; simp [Ty.size])
          obtain ⟨z, g1, g2⟩ := this
          exact ⟨((), z), ⟨[], cs, rfl, rfl, by simpa using g1⟩, trivial, g2⟩
        · simp at h

theorem enc_of_trod {t : Ty} {ty fuel : Nat} {cs : List Value} {r : DataW H × List MemPlace} (hc : chk P t ty = true) (h : DataW.trod enc P w 0 (fun _ => true) true fuel ty cs = some r) : ∃ x : t.D, Enc (heapS w) t x cs ∧ Wf t x :=
  (enc_of_trod_all t).1 _ _ _ _ hc h

theorem isAgg_okWide {base : Nat} {t : Ty} {ty : Nat} {v : Value} (hc : chk P t ty = true) (h : Value.okWide P w .any base ty v) : isAggV v = t.isAgg := by
  cases t with
  | int k => obtain ⟨n, rfl⟩ := okWide_int (chk_int hc) h; rfl
  | bool => obtain ⟨n, rfl⟩ := okWide_bool (chk_bool hc) h; rfl
  | str => obtain ⟨n, rfl⟩ := okWide_string (chk_str hc) h; rfl
  | slice e => obtain ⟨et, hu, _⟩ := chk_slice hc; obtain ⟨a, l, c, rfl⟩ := okWide_slice hu h; rfl
  | nil =>
    simp only [chk, Bool.and_eq_true] at hc
    have hc2 := hc.2
    split at hc2
    · rename_i fs hu
      unfold Value.okWide at h
      rw [hu] at h
      obtain ⟨cs, rfl, _⟩ := h
      rfl
    · simp at hc2
  | cons a b =>
    rcases chk_cons hc with ⟨fs, hu, _⟩ | ⟨n, et, hu, _⟩ <;>
    · unfold Value.okWide at h
      rw [hu] at h
      obtain ⟨cs, rfl, _⟩ := h
      rfl

/-- all arguments -/
theorem args_of_trodAll {base : Nat} {T : Nat → Option Ty} (hT : ∀ ty t, T ty = some t → chk P t ty = true) : ∀ (tys : List TypeId) (ts : List Ty) (vs : List Value) (ds : List (DataW H)) (ps : List MemPlace), mapO T tys = some ts →
    DataW.TrodAll enc P w 0 (fun _ => true) true tys vs ds ps → (∀ (j : Nat) t v, tys[j]? = some t → vs[j]? = some v → Value.okWide P w .any base t v) →
    ∃ tds : List TD, tds.map TD.t = ts ∧ vs.length = tds.length ∧ (∀ (i : Nat) (d : TD) (v : Value), tds[i]? = some d → vs[i]? = some v → RelV (heapS w) d v) ∧ ∀ d ∈ tds, Wf d.t d.x
  | [], ts, vs, ds, ps, hm, h, _ => by
    simp [mapO] at hm; subst hm
    match vs, ds, h with
    | [], [], _ => exact ⟨[], rfl, rfl, fun i d v hd => by simp at hd, fun d hd => by simp at hd⟩
  | ty :: tys, ts, vs, ds, ps, hm, h, hok => by
    simp only [mapO, Option.bind_eq_some_iff] at hm
    obtain ⟨t, ht, ts', hts', hm⟩ := hm
    simp at hm; subst hm
    obtain ⟨v, vs', d, ds', p, q, rfl, rfl, rfl, ⟨fuel, h1⟩, h2⟩ := trodAll_cons h
    obtain ⟨tds, g1, g2, g3, g4⟩ := args_of_trodAll hT tys ts' vs' ds' q hts' h2 fun j t' v' hj hv => hok (j + 1) t' v' (by simpa using hj) (by simpa using hv)
    obtain ⟨x, k1, k2⟩ := enc_of_trod (hT _ _ ht) h1
    refine ⟨⟨t, x⟩ :: tds, by simp [g1], by simp [g2], fun i d' v' hd hv => ?_, fun d' hd => ?_⟩
    · cases i with
      | zero => simp at hd hv; subst hd; subst hv; exact ⟨k1, isAgg_okWide (hT _ _ ht) (hok 0 ty v rfl rfl)⟩
      | succ i => exact g3 i d' v' (by simpa using hd) (by simpa using hv)
    · simp at hd
      rcases hd with rfl | hd
      · exact k2
      · exact g4 d' hd

end
end Go.Lift
