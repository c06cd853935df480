/- A part of the proof that the law returns true for every input: no condition. -/
import Derived.Test.YtincaojcmkklbaaE16
set_option linter.unusedSimpArgs false
namespace Go.Lift

section
variable {P : Program} {T : Nat → Option Ty} {G : Tbl} {w w' : World} {σ σ' τ : Store} {bx bx' : List (Nat × Box)} {H H' : Nat → Value} {n0 n1 N : Nat} {C : Nat → Prop}

theorem opEff_ok (hE : Env P T G) {o : Oper} {a : Act} {st st' : St} (h : Rel C N n0 σ H st a w) (hC : ∀ x ∈ o.op.operands.toList, ∀ k, x = .tmp k → C k) (hdst : dstOK N o.dst) (hv : opEff G T o st = some (true, st')) :
    EffOK P C N n0 o a w σ st' := by
  have dlt : ∀ d, o.dst = some d → d < N := hdst
  cases ho : o.op with
  | assign x =>
    rw [ho] at hC; simp only [Op.operands] at hC
    cases hd : o.dst with
    | none => simp [opEff, ho, hd] at hv
    | some d =>
      simp only [opEff, ho, hd, Option.bind_eq_some_iff] at hv
      obtain ⟨s, hs, hv⟩ := hv
      have hr := h.opd (hC x (by simp)) hs
      split at hv
      · simp at hv; subst hv; exact eff_assign h ho hd (dlt d hd) hr
      · simp only [Option.bind_eq_some_iff] at hv
        obtain ⟨ty, hty, hv⟩ := hv
        split at hv
        · simp at hv; subst hv
          obtain ⟨_, _, _, hpos⟩ := chk_slice (hE.types _ _ hty)
          exact eff_nil h ho hd (dlt d hd) hpos hr
        · simp at hv
      · simp at hv
  | alloc t =>
    cases hd : o.dst with
    | none => simp [opEff, ho, hd] at hv
    | some d =>
      simp only [opEff, ho, hd, Option.map_eq_some_iff, Prod.mk.injEq, true_and] at hv
      obtain ⟨ty, hty, rfl⟩ := hv
      exact eff_alloc h ho hd (dlt d hd) (hE.types _ _ hty)
  | box t x =>
    rw [ho] at hC; simp only [Op.operands] at hC
    cases hd : o.dst with
    | none => simp [opEff, ho, hd] at hv
    | some d =>
      simp only [opEff, ho, hd, Option.bind_eq_some_iff, Option.map_eq_some_iff, Prod.mk.injEq, true_and] at hv
      obtain ⟨ty, hty, s, hs, y, hy, rfl⟩ := hv
      obtain ⟨hrf, hy⟩ := cond_none' hy
      obtain ⟨σ1, t1, h1⟩ := h.freezeOps [x] st σ
      refine EffOK.before t1 (eff_box h1 ho hd (dlt d hd) ?_)
      exact (data_rel h1.holds h1.box hy (h1.opd (hC x (by simp)) hs)).1 hrf
  | build t parts =>
    cases hd : o.dst with
    | none => simp [opEff, ho, hd] at hv
    | some d =>
      simp only [opEff, ho, hd, Option.map_eq_some_iff, Prod.mk.injEq] at hv
      obtain ⟨⟨c, r⟩, hr, rfl, rfl⟩ := hv
      obtain ⟨σ1, t1, h1⟩ := h.freezeOps (Op.operands (.build t parts)).toList st σ
      refine EffOK.before t1 fun next Q hn => ?_
      have hρ : OpdR (opd (freezeOps st (Op.operands (.build t parts)).toList)) o a σ1 (freezeOps st (Op.operands (.build t parts)).toList).bx H := by
        unfold OpdR
        rw [ho]
        intro x hx s hs
        exact h1.opd (hC x (by rw [ho]; exact hx)) hs
      refine opVal_yields hE h1.holds h1.box hρ hr next Q fun v σ2 w2 hst hsv => hn v σ2 w2 (hst.trans' h1.base) ⟨H, ?_⟩
      rw [hd]
      exact (h1.step hst).put (by rw [← hd]; exact hdst) hsv
  | buildSlice t len parts =>
    cases hd : o.dst with
    | none => simp [opEff, ho, hd] at hv
    | some d =>
      simp only [opEff, ho, hd, Option.bind_eq_some_iff] at hv
      obtain ⟨ty, hty, hv⟩ := hv
      split at hv
      · obtain ⟨hb, hv⟩ := cond_none hv
        simp only [Option.map_eq_some_iff, Prod.mk.injEq, true_and] at hv
        obtain ⟨l, hl, rfl⟩ := hv
        obtain ⟨σ1, t1, h1⟩ := h.freezeOps (Op.operands (.buildSlice t len parts)).toList st σ
        refine EffOK.before t1 (eff_buildSlice h1 ho hd (dlt d hd) (hE.types _ _ hty) hb (fun i x hix => hC x ?_) hl)
        rw [ho]
        simp only [Op.operands]
        exact List.mem_map.2 ⟨(i, x), hix, rfl⟩
      · simp at hv
  | makeSlice t x y =>
    rw [ho] at hC; simp only [Op.operands] at hC
    cases hd : o.dst with
    | none => simp [opEff, ho, hd] at hv
    | some d =>
      simp only [opEff, ho, hd, Option.bind_eq_some_iff] at hv
      obtain ⟨ty, hty, hv⟩ := hv
      split at hv
      · simp only [Option.bind_eq_some_iff] at hv
        obtain ⟨sn, hsn, ⟨k, n⟩, hkn, sc, hsc, ⟨k', c⟩, hkc, hv⟩ := hv
        simp only [Option.some.injEq, Prod.mk.injEq, Bool.and_eq_true, decide_eq_true_eq] at hv
        obtain ⟨⟨⟨q1, q2⟩, q3⟩, rfl⟩ := hv
        have e1 := h.opd (hC x (by simp)) hsn
        have e2 := h.opd (hC y (by simp)) hsc
        rw [int_inv hkn] at e1; rw [int_inv hkc] at e2
        exact eff_make h ho hd (dlt d hd) (hE.types _ _ hty) (svr_int e1) (svr_int e2) q1 q2 q3
      · simp at hv
  | store t ad x =>
    rw [ho] at hC; simp only [Op.operands] at hC
    cases hd : o.dst with
    | some d => simp [opEff, ho, hd] at hv
    | none =>
      simp only [opEff, ho, hd, Option.bind_eq_some_iff] at hv
      obtain ⟨ty, hty, s, hs, y, hy, sa, hsa, hv⟩ := hv
      obtain ⟨hrf, hy⟩ := cond_none' hy
      obtain ⟨σ1, t1, h1⟩ := h.freezeOps [x] st σ
      refine EffOK.before t1 ?_
      have hx := (data_rel h1.holds h1.box hy (h1.opd (hC x (by simp)) hs)).1 hrf
      have ha := h1.opd (hC ad (by simp)) hsa
      split at hv
      · split at hv
        · rename_i hb
          simp only [Option.map_eq_some_iff, Prod.mk.injEq, true_and] at hv
          obtain ⟨x', hx', rfl⟩ := hv
          exact eff_store_v h1 ho hd (hE.types _ _ hty) hx hb ha hx'
        · simp at hv
      · split at hv
        · rename_i hb
          simp only [Option.map_eq_some_iff, Prod.mk.injEq, true_and] at hv
          obtain ⟨x', hx', rfl⟩ := hv
          exact eff_store_e h1 ho hd (hE.types _ _ hty) hx hb ha hx'
        · simp at hv
      · simp at hv
  | call c =>
    have hC' : ∀ x ∈ c.args.toList, ∀ k, x = .tmp k → C k := fun x hx => hC x (by rw [ho]; simp [Op.operands, Call.operands]; right; simpa using hx)
    cases hd : o.dst with
    | none => simp [opEff, ho, hd] at hv
    | some d =>
      simp only [opEff, ho, hd] at hv
      cases hc : c.callee with
      | invoke r m => simp [hc] at hv
      | value f =>
        cases f with
        | func f =>
          simp only [hc, Option.bind_eq_some_iff, Option.map_eq_some_iff, Prod.mk.injEq] at hv
          obtain ⟨svs, h1, tds, h2, ⟨cb, r⟩, h3, rfl, rfl⟩ := hv
          obtain ⟨hrf, h2⟩ := cond_none' h2
          obtain ⟨σ1, t1, hR⟩ := h.freezeOps c.args.toList st σ
          exact EffOK.before t1 (eff_call hE hR ho hc hd (dlt d hd) hC' h1 hrf h2 h3)
        | _ => simp [hc] at hv
      | builtin b =>
        cases b with
        | append =>
          simp only [hc] at hv
          split at hv
          · rename_i x y t t' hargs htys
            simp only [Option.bind_eq_some_iff] at hv
            obtain ⟨ty, hty, hv⟩ := hv
            obtain ⟨hbt, hty'⟩ := cond_none hty
            clear hty
            have hty := hty'
            have htt : t = t' := Nat.eq_of_beq_eq_true hbt
            subst htt
            clear hbt
            have ha : c.args = #[x, y] := by apply Array.ext'; simpa using hargs
            have htya : c.argTypes = #[t, t] := by apply Array.ext'; simpa using htys
            rw [hargs] at hC'
            split at hv
            · rename_i e
              have hch := hE.types _ _ hty
              obtain ⟨et, hu, hce, hpos⟩ := chk_slice hch
              simp only [Option.bind_eq_some_iff] at hv
              obtain ⟨sy, hsy, ys, hys, sx, hsx, hv⟩ := hv
              obtain ⟨ad, cy, news, hy1, hy2, hy3, hy4⟩ := data_news h.holds h.box hys (h.opd (hC' y (by simp)) hsy)
              have hx := h.opd (hC' x (by simp)) hsx
              split at hv
              · simp only [Option.some.injEq, Prod.mk.injEq] at hv
                obtain ⟨hlen, rfl⟩ := hv
                have hx0 : a.eval x = .slice none 0 0 := hx
                have := eff_append (l := ([] : List e.D)) h ho hc ha htya hd (dlt d hd) hch hu hce hx0 (World.ownsRow_nil w n0 0 e.size) rfl (fun g hg => by simp [hBlock] at hg) (fun k b' g _ hg => by simp [hBlock] at hg) hy1 rfl hy2 hy3 hy4 (by simpa using hlen)
                simpa using this
              · rename_i b
                obtain ⟨t', l, g1, g2⟩ := hx
                simp only [g1, Option.map_eq_some_iff, Prod.mk.injEq] at hv
                obtain ⟨l', hl', hlen, rfl⟩ := hv
                have heq := TD.as_eq hl'
                simp only [TD.mk.injEq, Ty.slice.injEq] at heq
                obtain ⟨rfl, heq⟩ := heq
                have heq := eq_of_heq heq
                subst heq
                obtain ⟨ety, xs, hown, henc, hsig, _⟩ := h.box b _ g1
                have hk := h.kill (d := b)
                refine eff_append hk ho hc ha htya hd (dlt d hd) hch hu hce g2 hown henc hsig (fun k b' g hk' hg hkg => ?_) hy1 rfl hy2 hy3 hy4 hlen
                simp only [St.kill, look_del] at hk'
                split at hk'
                · simp at hk'
                · rename_i hne
                  exact h.apart b k _ b' g g1 hk' (Ne.symm hne) hg hkg
              · rename_i b lo hi
                obtain ⟨t', l, g1, g2, g3, g4⟩ := hx
                simp only [g1, Option.map_eq_some_iff, Prod.mk.injEq, Bool.and_eq_true, decide_eq_true_eq] at hv
                obtain ⟨l', hl', ⟨hlo, hlen⟩, rfl⟩ := hv
                subst hlo
                have heq := TD.as_eq hl'
                simp only [TD.mk.injEq, Ty.slice.injEq] at heq
                obtain ⟨rfl, heq⟩ := heq
                have heq := eq_of_heq heq
                subst heq
                obtain ⟨ety, xs, hown, henc, hsig, _⟩ := h.box b _ g1
                have hk := h.kill (d := b)
                have hl : (l.take hi).length = hi := by simp; omega
                refine eff_append (l := l.take hi) hk ho hc ha htya hd (dlt d hd) hch hu hce g4 (by rw [hl]; exact ownsRow_view hown g3) (henc.take hi l xs g3).1 (fun g hg => hsig g (by rwa [hBlock_view] at hg)) (fun k b' g hk' hg hkg => ?_) hy1 rfl hy2 hy3 hy4 (by rw [hl]; exact hlen)
                rw [hBlock_view] at hg
                simp only [St.kill, look_del] at hk'
                split at hk'
                · simp at hk'
                · rename_i hne
                  exact h.apart b k _ b' g g1 hk' (Ne.symm hne) hg hkg
              · simp at hv
            · simp at hv
          · simp at hv
        | _ => simp [hc] at hv
  | _ => cases hd : o.dst <;> simp [opEff, ho, hd] at hv

theorem opStep_ok (hE : Env P T G) {o : Oper} {a : Act} {st st' : St} (h : Rel C N n0 σ H st a w) (hρ : OpdR (opd st) o a σ st.bx H) (hC : ∀ x ∈ o.op.operands.toList, ∀ k, x = .tmp k → C k) (hdst : dstOK N o.dst)
    (hv : opStep G T o st = some (true, st')) : EffOK P C N n0 o a w σ st' := by
  unfold opStep at hv
  split at hv
  · rename_i c v hov
    simp at hv
    obtain ⟨rfl, rfl⟩ := hv
    intro next Q hn
    exact opVal_yields hE h.holds h.box hρ hov next Q fun v' σ2 w2 hst hsv => hn v' σ2 w2 (hst.trans' h.base) ⟨H, (h.step hst).put hdst hsv⟩
  · exact opEff_ok hE h hC hdst hv

end
end Go.Lift
