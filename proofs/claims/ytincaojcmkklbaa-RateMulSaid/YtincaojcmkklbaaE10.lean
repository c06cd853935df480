/- A part of the proof that the law returns true for every input: no condition. -/
import Derived.Test.YtincaojcmkklbaaE9
namespace Go.Lift

section
variable {P : Program} {T : Nat → Option Ty} {G : Tbl} {w : World} {σ : Store} {bx : List (Nat × Box)} {H : Nat → Value} {n0 : Nat}

theorem optI_spec {ρ : Operand → Option SV} {a : Act} {lo : Option Operand} {r : Option Int} (h : optI ρ lo = some r) (hρ : ∀ x ∈ lo.toArray.toList, ∀ s, ρ x = some s → SVR σ bx H s (a.eval x)) :
    ∃ kn : Option (IntKind × Int), lo.map a.eval = optV kn ∧ r = kn.map (·.2) := by
  cases lo with
  | none => simp [optI] at h; subst h; exact ⟨none, rfl, rfl⟩
  | some l =>
    simp only [optI, Option.bind_eq_some_iff, Option.map_eq_some_iff] at h
    obtain ⟨s, hs, ⟨k, n⟩, hn, rfl⟩ := h
    have := hρ l (by simp) s hs
    rw [int_inv hn] at this
    exact ⟨some (k, n), by simp [optV, svr_int this], rfl⟩

theorem yields_slice (hT : ∀ ty t, T ty = some t → chk P t ty = true) (hh : Holds w σ) (hB : BoxesR σ w n0 bx H) {o : Oper} {a : Act} {t : Nat} {x : Operand} {lo hi : Option Operand} (ho : o.op = .slice t x lo hi none)
    {e : Ty} (he : T t = some (.slice e)) {ρ : Operand → Option SV} (hρ : ∀ y ∈ o.op.operands.toList, ∀ s, ρ y = some s → SVR σ bx H s (a.eval y))
    {sx : SV} (hx : ρ x = some sx) {lo' hi' : Option Int} (hlo : optI ρ lo = some lo') (hhi : optI ρ hi = some hi') {s : SV} (hv : sliceOp bx e sx lo' hi' = some (true, s)) : Gives P o a w σ bx H s := by
  rw [ho] at hρ
  simp only [Op.operands] at hρ
  obtain ⟨klo, h1, h2⟩ := optI_spec hlo (fun y hy => hρ y (by simp at hy ⊢; simp [hy]))
  obtain ⟨khi, h3, h4⟩ := optI_spec hhi (fun y hy => hρ y (by simp at hy ⊢; simp [hy]))
  have hrx := hρ x (by simp) sx hx
  obtain ⟨et, hu, hce, _⟩ := chk_slice (hT _ _ he)
  have key : ∀ (len : Nat) (ad : Option Addr) (cap : Nat), a.eval x = .slice ad len cap → len ≤ cap → (decide (0 ≤ lo'.getD 0) && decide (lo'.getD 0 ≤ hi'.getD (len : Int)) && decide (hi'.getD (len : Int) ≤ len)) = true →
      (execOp a.eval o).run P w = .ok (.value (viewV (a.eval x) (lo'.getD 0).toNat (hi'.getD (len : Int)).toNat e.size)) w ∧ (lo'.getD 0).toNat ≤ (hi'.getD (len : Int)).toNat ∧ (hi'.getD (len : Int)).toNat ≤ len := by
    intro len ad cap hev hcap hb
    simp only [Bool.and_eq_true, decide_eq_true_eq] at hb
    obtain ⟨⟨b1, b2⟩, b3⟩ := hb
    have hr := run_sliceAt' (P := P) (w := w) hu hce ad len cap klo khi (lo'.getD 0).toNat (hi'.getD (len : Int)).toNat
      (by rw [← h2]; cases lo' with
          | none => right; exact ⟨by cases klo with | none => rfl | some z => simp at h2, rfl⟩
          | some z => left; simp at b1 ⊢; omega)
      (by rw [← h4]; cases hi' with
          | none => right; exact ⟨by cases khi with | none => rfl | some z => simp at h4, by simp⟩
          | some z => left; simp at b1 b2 ⊢; omega)
      (by omega) (by omega)
    refine ⟨?_, by omega, by omega⟩
    rw [hev]
    simp [execOp, ho, hev, h1, h3, hr]
  cases sx with
  | tv d =>
    simp only [sliceOp, Option.map_eq_some_iff, Prod.mk.injEq] at hv
    obtain ⟨l, hl, hb, rfl⟩ := hv
    have := TD.as_eq hl; subst this
    have hrv : RelV σ ⟨.slice e, l⟩ (a.eval x) := hrx
    obtain ⟨ad, cap, q1, q2, _⟩ := hrv.slice
    obtain ⟨k1, k2, k3⟩ := key l.length ad cap q1 q2 hb
    exact ⟨_, k1, relV_view hrv _ _ k2 k3⟩
  | ref b =>
    obtain ⟨t', l, g1, g2⟩ := hrx
    simp only [sliceOp, g1] at hv
    cases hd : decide (t' = e) with
    | false => simp [hd] at hv
    | true =>
      simp only [hd, cond_true, Option.some.injEq, Prod.mk.injEq] at hv
      obtain ⟨hb, rfl⟩ := hv
      simp at hd; subst hd
      obtain ⟨ad, cap, q1, q2, _⟩ := RelV.slice (box_slice hh (hB b _ g1))
      obtain ⟨k1, k2, k3⟩ := key l.length ad cap (g2.trans q1) q2 hb
      exact ⟨_, k1, t', l, g1, k2, k3, by rw [g2]⟩
  | _ => simp [sliceOp] at hv

theorem nilD_inv : ∀ {t : Ty} {y : t.D}, nilD t = some y → ∃ e, (⟨t, y⟩ : TD) = ⟨.slice e, []⟩
  | .slice e, y, h => by simp [nilD] at h; subst h; exact ⟨e, rfl⟩
  | .int _, _, h => by simp [nilD] at h
  | .bool, _, h => by simp [nilD] at h
  | .str, _, h => by simp [nilD] at h
  | .nil, _, h => by simp [nilD] at h
  | .cons _ _, _, h => by simp [nilD] at h

theorem blt_lt {n m : Nat} (h : n.blt m = true) : n < m := by simpa [Nat.blt, Nat.lt_iff_add_one_le] using h

theorem nbeq {n : Nat} (h : n.beq 0 = false) : n ≠ 0 := by intro e; subst e; simp at h

theorem buildV_spec {ty : Ty} {ρ : Operand → Option SV} : ∀ {parts : List (Nat × Operand)} {x : ty.D} {b : Bool} {s : SV}, opVal.buildV bx ρ ty x parts = some (b, s) →
    b = true ∧ ∃ (ds : List (Nat × TD)) (x' : ty.D), s = .tv ⟨ty, x'⟩ ∧ parts.length = ds.length ∧ ds.foldlM (fun x (id : Nat × TD) => setFld ty x id.1 id.2) x = some x' ∧
      ∀ (k i : Nat) (y : Operand), parts[k]? = some (i, y) → ∃ d : TD, ds[k]? = some (i, d) ∧ ∃ sv, ρ y = some sv ∧ (sv = .tv d ∨ (sv = .nils ∧ ∃ e, d = ⟨.slice e, []⟩))
  | [], x, b, s, h => by
    simp [opVal.buildV] at h
    obtain ⟨rfl, rfl⟩ := h
    exact ⟨rfl, [], x, rfl, rfl, by simp, fun k i y hk => by simp at hk⟩
  | (j, v) :: r, x, b, s, h => by
    simp only [opVal.buildV, Option.bind_eq_some_iff] at h
    obtain ⟨d0, h0, sv, hsv, d, hd, x1, hx1, h⟩ := h
    obtain ⟨hb, ds, x', g1, g2, g3, g4⟩ := buildV_spec h
    refine ⟨hb, (j, d) :: ds, x', g1, by simp [g2], by simp [hx1, g3], fun k i y hk => ?_⟩
    cases k with
    | zero =>
      simp at hk
      obtain ⟨rfl, rfl⟩ := hk
      refine ⟨d, rfl, sv, hsv, ?_⟩
      split at hd
      · simp at hd; subst hd; exact .inl rfl
      · right
        refine ⟨rfl, ?_⟩
        simp only [SV.data, Option.map_eq_some_iff] at hd
        obtain ⟨y, hy, rfl⟩ := hd
        exact nilD_inv hy
      · simp at hd
    | succ k => simpa using g4 k i y (by simpa using hk)

theorem cond_none {α : Type} {b : Bool} {x : Option α} {y : α} (h : (bif b then x else none) = some y) : b = true ∧ x = some y := by
  cases b <;> simp_all

theorem cond_none' {α : Type} {b : Bool} {x : Option α} {y : α} (h : (bif b then none else x) = some y) : b = false ∧ x = some y := by
  cases b <;> simp_all

theorem opVal_yields (hE : Env P T G) (hh : Holds w σ) (hB : BoxesR σ w n0 bx H) {o : Oper} {a : Act} {ρ : Operand → Option SV} (hρ : OpdR ρ o a σ bx H) {s : SV} (hv : opVal G T bx ρ o = some (true, s)) :
    Yields P o a w σ bx H s := by
  cases ho : o.op with
  | move x =>
    simp only [opVal, ho, Option.map_eq_some_iff, Prod.mk.injEq, true_and] at hv
    obtain ⟨v, hx, rfl⟩ := hv
    simp only [OpdR, ho, Op.operands] at hρ
    exact Gives.yields hh ⟨a.eval x, by simp [execOp, ho], hρ x (by simp) _ hx⟩
  | assign x =>
    simp only [opVal, ho, Option.bind_eq_some_iff] at hv
    obtain ⟨v, hx, hv⟩ := hv
    simp only [OpdR, ho, Op.operands] at hρ
    have := hρ x (by simp) _ hx
    split at hv
    · simp at hv; subst hv; exact Gives.yields hh ⟨a.eval x, by simp [execOp, ho], this⟩
    · simp at hv; subst hv; exact Gives.yields hh ⟨a.eval x, by simp [execOp, ho], this⟩
    · simp at hv; subst hv; exact Gives.yields hh ⟨a.eval x, by simp [execOp, ho], this⟩
    · simp at hv
  | pick c x y =>
    simp only [opVal, ho, Option.bind_eq_some_iff, Option.some.injEq, Prod.mk.injEq, true_and] at hv
    obtain ⟨c', hc, cb, hcb, x', hx, xb, hxb, y', hy, yb, hyb, rfl⟩ := hv
    simp only [OpdR, ho] at hρ
    obtain ⟨h1, h2, h3⟩ := hρ
    rw [boolean_inv hcb] at hc; rw [boolean_inv hxb] at hx; rw [boolean_inv hyb] at hy
    have e1 := svr_bool (h1 _ hc)
    refine Gives.yields hh (gives_pick ho e1 (fun h => ?_) (fun h => ?_))
    · subst h; exact svr_bool (h2 e1 _ hx)
    · subst h; exact svr_bool (h3 e1 _ hy)
  | load ty x =>
    simp only [opVal, ho, Option.bind_eq_some_iff] at hv
    obtain ⟨t, ht, sx, hx, hv⟩ := hv
    simp only [OpdR, ho, Op.operands] at hρ
    have hr := hρ x (by simp) _ hx
    split at hv
    · simp only [Option.map_eq_some_iff, Prod.mk.injEq, true_and] at hv
      obtain ⟨y, hy, rfl⟩ := hv
      obtain ⟨ad, cs, h1, h2, h3⟩ := hr
      have := TD.as_eq hy; subst this
      exact (gives_load ho (hE.types _ _ ht) h1 (h2.at hh) h3).yields hh
    · rename_i b ix p
      split at hv
      · rename_i d hl
        simp only [Option.bind_eq_some_iff, Option.map_eq_some_iff, Prod.mk.injEq, true_and] at hv
        obtain ⟨d', hp, y, hy, rfl⟩ := hv
        obtain ⟨d0, e, g, h1, h2, h3, h4⟩ := hr
        rw [hl] at h1
        simp at h1; subst h1
        rw [hp] at h2; simp at h2; subst h2
        have := TD.as_eq hy; subst this
        obtain ⟨g', cs, cty, k1, k2, k3, _⟩ := hB b _ hl
        rw [h3] at k1; simp at k1; subst k1
        obtain ⟨pp, c, r, q1, q2, q3⟩ := Enc.path p d _ cs.toList hp k3
        exact (gives_load ho (hE.types _ _ ht) h4 (at_row k2 q1 q2) q3).yields hh
      · rename_i e l i hl
        simp only [Option.bind_eq_some_iff, Option.map_eq_some_iff, Prod.mk.injEq, true_and] at hv
        obtain ⟨d', hp, y, hy, rfl⟩ := hv
        obtain ⟨t0, l0, e0, g, n, c0, h1, h2, h3, h4, h5⟩ := hr
        rw [hl] at h1
        simp only [Option.some.injEq, Box.vec.injEq] at h1
        obtain ⟨rfl, h1⟩ := h1
        have h1 := eq_of_heq h1
        subst h1
        have := TD.as_eq hy; subst this
        obtain ⟨ety, xs, hown, henc, _⟩ := hB b _ hl
        obtain ⟨g', cap, cur, k1, k2, k3, k4, k5, _⟩ := ownsRow_inv hown (by omega)
        rw [h4] at k1; simp at k1; obtain ⟨rfl, rfl, rfl⟩ := k1
        obtain ⟨p1, c1, r1, q1, q2, q3, _⟩ := henc.get l xs i h2
        have hgd : l[i] = l.getD i e.zero := by simp [List.getD, List.getElem?_eq_getElem h2]
        rw [hgd] at q3
        obtain ⟨p2, c2, r2, z1, z2, z3⟩ := Enc.path p _ _ c1 hp q3
        have hcur : cur.toList = (p1 ++ p2) ++ c2 ++ (r2 ++ r1 ++ cur.toList.drop (l.length * e.size)) := by
          have h0 := List.take_append_drop (l.length * e.size) cur.toList
          rw [k5, q1, z1] at h0
          simpa using h0.symm
        exact (gives_load ho (hE.types _ _ ht) h5 (at_row k2 hcur (by simp [q2, z2])) z3).yields hh
      · simp at hv
    · simp at hv
  | binOp op xt x y yt =>
    simp only [opVal, ho, Option.bind_eq_some_iff] at hv
    obtain ⟨sx, hx, sy, hy, hv⟩ := hv
    simp only [OpdR, ho, Op.operands] at hρ
    have hrx := hρ x (by simp) _ hx
    have hry := hρ y (by simp) _ hy
    refine Gives.yields hh ?_
    split at hv
    · have e1 := svr_int hrx
      have e2 := svr_int hry
      split at hv
      · rename_i r hr
        simp at hv
        obtain ⟨h1, rfl⟩ := hv
        exact gives_shift ho e1 e2 (by rw [hr, ← h1])
      · obtain ⟨h1, hv'⟩ := cond_none hv; clear hv; have hv := hv'; clear hv'
        simp at h1; subst h1
        simp only [Option.map_eq_some_iff, Prod.mk.injEq] at hv
        obtain ⟨⟨c, r⟩, hr, rfl, rfl⟩ := hv
        exact gives_int ho e1 e2 hr
    · have e1 := svr_bool hrx
      have e2 := svr_bool hry
      simp only [Option.bind_eq_some_iff] at hv
      obtain ⟨z, hz, hv⟩ := hv
      obtain ⟨h1, hv'⟩ := cond_none hv; clear hv; have hv := hv'; clear hv'
      simp at h1; subst h1
      split at hv
      · simp at hv; subst hv; exact gives_bool_eq ho (hE.types _ _ hz) e1 e2
      · simp at hv; subst hv; exact gives_bool_ne ho (hE.types _ _ hz) e1 e2
      · simp at hv
    · have e1 := RelV.str hrx
      have e2 := RelV.str hry
      split at hv
      · simp at hv; subst hv; exact gives_str_eq ho e1 e2
      · simp at hv; subst hv; exact gives_str_ne ho e1 e2
      · simp at hv
    · simp only [Option.bind_eq_some_iff] at hv
      obtain ⟨z, hz, hv⟩ := hv
      obtain ⟨h1, hv'⟩ := cond_none hv; clear hv; have hv := hv'; clear hv'
      simp only [Bool.and_eq_true, decide_eq_true_eq] at h1
      obtain ⟨⟨h1, h2⟩, h3⟩ := h1
      subst h1
      simp only [Option.bind_eq_some_iff] at hv
      obtain ⟨b, hb, hv⟩ := hv
      have := TD.as_eq hb; subst this
      have h3 := blt_lt h3
      split at hv
      · simp at hv; subst hv; exact gives_agg_eq ho (hE.types _ _ hz) h2 h3 hrx hry
      · simp at hv; subst hv; exact gives_agg_ne ho (hE.types _ _ hz) h2 h3 hrx hry
      · simp at hv
    · simp at hv
  | unOp op xt x =>
    simp only [opVal, ho, Option.bind_eq_some_iff] at hv
    obtain ⟨sx, hx, hv⟩ := hv
    simp only [OpdR, ho, Op.operands] at hρ
    have hrx := hρ x (by simp) _ hx
    refine Gives.yields hh ?_
    split at hv
    · simp at hv; subst hv; exact gives_not ho (svr_bool hrx)
    · simp at hv; subst hv; simpa using gives_neg (P := P) (w := w) (σ := σ) (bx := bx) (H := H) ho (svr_int hrx)
    · simp at hv; subst hv; exact gives_inv ho (svr_int hrx)
    · simp at hv
  | convert src dst x =>
    simp only [opVal, ho, Option.bind_eq_some_iff] at hv
    obtain ⟨sx, hx, t, ht, u, hu, hv⟩ := hv
    simp only [OpdR, ho, Op.operands] at hρ
    have hrx := hρ x (by simp) _ hx
    refine Gives.yields hh ?_
    split at hv
    · split at hv
      · simp at hv; subst hv; exact gives_convert ho (hE.types _ _ ht) (hE.types _ _ hu) (svr_int hrx)
      · simp at hv
    · simp at hv
  | fieldAddr s' x f =>
    simp only [opVal, ho, Option.bind_eq_some_iff] at hv
    obtain ⟨t, ht, hv⟩ := hv
    obtain ⟨harr, hv'⟩ := cond_none hv; clear hv; have hv := hv'; clear hv'
    have hnil : ∀ u, t ≠ .cons .nil u := by intro u hu; subst hu; simp [Ty.isArr] at harr
    simp only [Option.bind_eq_some_iff] at hv
    obtain ⟨sx, hx, hv⟩ := hv
    simp only [OpdR, ho, Op.operands] at hρ
    have hrx := hρ x (by simp) _ hx
    refine Gives.yields hh ?_
    split at hv
    · simp only [Option.bind_eq_some_iff] at hv
      obtain ⟨y, hy, d', hg, hv⟩ := hv
      obtain ⟨hz, hv'⟩ := cond_none' hv; clear hv; have hv := hv'; clear hv'
      simp at hv; subst hv
      have := TD.as_eq hy; subst this
      exact gives_fieldAddr_c ho (hE.types _ _ ht) hnil hg (nbeq hz) hrx
    · rename_i b ix p
      split at hv
      · rename_i d hl
        simp only [Option.bind_eq_some_iff] at hv
        obtain ⟨d', hp, y, hy, d'', hg, hv⟩ := hv
        obtain ⟨hz, hv'⟩ := cond_none' hv; clear hv; have hv := hv'; clear hv'
        simp at hv; subst hv
        have := TD.as_eq hy; subst this
        exact gives_fieldAddr_v ho (hE.types _ _ ht) hnil hg (nbeq hz) hrx (fun d0 h0 => by rw [hl] at h0; simp at h0; subst h0; exact hp)
      · rename_i e l i hl
        simp only [Option.bind_eq_some_iff] at hv
        obtain ⟨d', hp, y, hy, d'', hg, hv⟩ := hv
        obtain ⟨hz, hv'⟩ := cond_none' hv; clear hv; have hv := hv'; clear hv'
        simp at hv; subst hv
        have := TD.as_eq hy; subst this
        refine gives_fieldAddr_e ho (hE.types _ _ ht) hnil hg (nbeq hz) hrx (fun e0 l0 h0 => ?_)
        rw [hl] at h0
        simp only [Option.some.injEq, Box.vec.injEq] at h0
        obtain ⟨rfl, h0⟩ := h0
        have h0 := eq_of_heq h0
        subst h0; exact hp
      · simp at hv
    · simp at hv
  | field xt x f =>
    simp only [opVal, ho, Option.bind_eq_some_iff] at hv
    obtain ⟨t, ht, sx, hx, hv⟩ := hv
    simp only [OpdR, ho, Op.operands] at hρ
    have hrx := hρ x (by simp) _ hx
    refine Gives.yields hh ?_
    split at hv
    · obtain ⟨harr, hv'⟩ := cond_none hv; clear hv; have hv := hv'; clear hv'
      have hnil : ∀ u, t ≠ .cons .nil u := by intro u hu; subst hu; simp [Ty.isArr] at harr
      simp only [Option.bind_eq_some_iff, Option.map_eq_some_iff, Prod.mk.injEq, true_and] at hv
      obtain ⟨y, hy, d', hg, rfl⟩ := hv
      have := TD.as_eq hy; subst this
      exact gives_field ho (hE.types _ _ ht) hg hrx hnil
    · simp at hv
  | indexAddr t x ix =>
    simp only [opVal, ho, Option.bind_eq_some_iff] at hv
    obtain ⟨ty, ht, hv⟩ := hv
    simp only [OpdR, ho, Op.operands] at hρ
    refine Gives.yields hh ?_
    split at hv
    · rename_i e
      simp only [Option.bind_eq_some_iff] at hv
      obtain ⟨si, hi, ⟨k, i⟩, hki, sx, hx, hv⟩ := hv
      have hrx := hρ x (by simp) _ hx
      have hri := hρ ix (by simp) _ hi
      rw [int_inv hki] at hri
      have ei := svr_int hri
      split at hv
      · simp only [Option.map_eq_some_iff, Prod.mk.injEq] at hv
        obtain ⟨l, hl, hb, rfl⟩ := hv
        have := TD.as_eq hl; subst this
        exact gives_index_c ho (hE.types _ _ ht) ei hrx hb
      · obtain ⟨t', l', g1, g2⟩ := hrx
        simp only [g1] at hv
        obtain ⟨he, hv'⟩ := cond_none hv; clear hv; have hv := hv'; clear hv'
        simp at he; subst he
        simp at hv
        obtain ⟨hb, rfl⟩ := hv
        exact gives_index_r ho (hE.types _ _ ht) ei g1 (hB _ _ g1) g2 hb
      · have hrx' := hrx
        obtain ⟨t', l', g1, g2⟩ := hrx
        simp only [g1] at hv
        obtain ⟨he, hv'⟩ := cond_none hv; clear hv; have hv := hv'; clear hv'
        simp at he; subst he
        simp at hv
        obtain ⟨hb, rfl⟩ := hv
        exact gives_index_w ho (hE.types _ _ ht) ei g1 (hB _ _ g1) hrx' hb
      · simp at hv
    · simp at hv
  | index xt x ix =>
    simp only [opVal, ho, Option.bind_eq_some_iff] at hv
    obtain ⟨ty, ht, hv⟩ := hv
    simp only [OpdR, ho, Op.operands] at hρ
    refine Gives.yields hh ?_
    split at hv
    · simp only [Option.bind_eq_some_iff] at hv
      obtain ⟨si, hi, ⟨k, i⟩, hki, sx, hx, hv⟩ := hv
      have hrx := hρ x (by simp) _ hx
      have hri := hρ ix (by simp) _ hi
      rw [int_inv hki] at hri
      split at hv
      · simp at hv
        obtain ⟨hb, rfl⟩ := hv
        exact gives_str_index ho (hE.types _ _ ht) (svr_int hri) (RelV.str hrx) hb
      · simp at hv
    · split at hv
      · simp only [Option.bind_eq_some_iff] at hv
        obtain ⟨sx, hx, hv⟩ := hv
        have hrx := hρ x (by simp) _ hx
        split at hv
        · obtain ⟨h0, hv'⟩ := cond_none hv; clear hv; have hv := hv'; clear hv'
          simp only [Option.bind_eq_some_iff] at hv
          obtain ⟨y, hy, hv⟩ := hv
          have := TD.as_eq hy; subst this
          split at hv
          · simp only [Option.map_eq_some_iff, Prod.mk.injEq, true_and] at hv
            obtain ⟨d', hg, rfl⟩ := hv
            exact gives_arr_index ho (hE.types _ _ ht) (by simpa using h0) hg hrx
          · simp at hv
        · simp at hv
      · simp at hv
    · simp at hv
  | slice t x lo hi mx =>
    cases mx with
    | some m => simp [opVal, ho] at hv
    | none =>
      simp only [opVal, ho, Option.bind_eq_some_iff] at hv
      obtain ⟨ty, ht, hv⟩ := hv
      split at hv
      · simp only [Option.bind_eq_some_iff] at hv
        obtain ⟨sx, hx, lo', hlo, hi', hhi, hv⟩ := hv
        simp only [OpdR, ho] at hρ
        exact (yields_slice hE.types hh hB ho ht (by rw [ho]; exact hρ) hx hlo hhi hv).yields hh
      · simp at hv
  | extract t i =>
    simp only [opVal, ho, Option.bind_eq_some_iff] at hv
    obtain ⟨st, hst, hv⟩ := hv
    simp only [OpdR, ho, Op.operands] at hρ
    have hr := hρ t (by simp) _ hst
    split at hv
    · rename_i l
      simp only [Option.map_eq_some_iff, Prod.mk.injEq, true_and] at hv
      obtain ⟨v, hv, rfl⟩ := hv
      obtain ⟨vs, h1, h2, h3⟩ := hr
      have hi : i < vs.size := by rw [h2]; exact (List.getElem?_eq_some_iff.1 hv).1
      refine Gives.yields hh ⟨vs[i], ?_, svr_of_svr1 (h3 i v vs[i] hv (by simp [hi]))⟩
      simp [execOp, ho, h1, Instr.extract, hi]
    · simp at hv
  | build t parts =>
    simp only [opVal, ho, Option.bind_eq_some_iff] at hv
    obtain ⟨ty, ht, hv⟩ := hv
    obtain ⟨hag, hv'⟩ := cond_none hv; clear hv; have hv := hv'; clear hv'
    simp only [Bool.and_eq_true, Bool.not_eq_true'] at hag
    obtain ⟨_, ds, x', rfl, g2, g3, g4⟩ := buildV_spec hv
    simp only [OpdR, ho, Op.operands] at hρ
    refine Gives.yields hh (gives_build ho (hE.types _ _ ht) hag.2 hag.1 g2 (fun k i y hk => ?_) g3)
    obtain ⟨d, h1, sv, h2, h3⟩ := g4 k i y hk
    refine ⟨d, h1, ?_⟩
    have := hρ y (by simp; exact ⟨i, by simpa using List.mem_of_getElem? hk⟩) sv h2
    rcases h3 with rfl | ⟨rfl, e, rfl⟩
    · exact this
    · have hv : a.eval y = .slice none 0 0 := this
      rw [hv]; exact relV_nil _ _
  | call c =>
    simp only [opVal, ho] at hv
    simp only [OpdR, ho, Op.operands] at hρ
    refine yields_callVal hE hh hB ho (fun x hx => hρ x ?_) hv
    simp [Call.operands]; right; simpa using hx
  | _ => simp [opVal, ho] at hv

end
end Go.Lift
