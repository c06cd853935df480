/- A part of the proof that the law returns true for every input: no condition. -/
import Derived.Test.YtincaojcmkklbaaE12
set_option linter.unusedSimpArgs false
namespace Go.Lift

section
variable {P : Program} {w : World} {σ : Store}

theorem step_alloc (hh : Holds w σ) (o : Obj) : Step σ w σ (w.alloc o) :=
  ⟨Store.le.refl σ, fun b o' hb => by
      have := hh b o' hb
      rw [heap_alloc_old w o b (Array.getElem?_eq_some_iff.1 this).1]; exact this,
    fun _ _ h => .inl h, by simp, fun b hb => heap_alloc_old w o b hb, rfl, rfl, rfl⟩

theorem step_drew (hh : Holds w σ) : Step σ w σ w.drew := ⟨Store.le.refl σ, hh, fun _ _ h => .inl h, Nat.le_refl _, fun _ _ => rfl, rfl, rfl, rfl⟩

theorem Step.tr {σ σ' σ'' : Store} {w w' w'' : World} (h : Step σ w σ' w') (h' : Step σ' w' σ'' w'') : Step σ w σ'' w'' :=
  ⟨h.le.trans h'.le, h'.holds, fun b o hb => (h'.news b o hb).elim (fun h1 => h.news b o h1) (fun h1 => .inr (Nat.le_trans h.size h1)), Nat.le_trans h.size h'.size,
    fun b hb => (h'.block b (Nat.lt_of_lt_of_le hb h.size)).trans (h.block b hb), h'.os.trans h.os, h'.output.trans h.output, h'.tape.trans h.tape⟩

theorem holds_new (hh : Holds w σ) : σ w.heap.size = none := by
  cases hs : σ w.heap.size with
  | none => rfl
  | some o => have := hh _ _ hs; simp at this

theorem enc_zero {t : Ty} {ty : Nat} (h : chk P t ty = true) (τ : Store) : ∃ i z, P.info? ty = some i ∧ i.size = t.size ∧ i.zero = some z ∧ Enc τ t t.zero z.cells.toList ∧ i.bytes ≤ 2048 ∧ z.cells.size = t.size := by
  obtain ⟨i, z, h1, h2, h3, h4, h5, h6⟩ := infoOK_spec (chk_info h)
  exact ⟨i, z, h1, h2, h4, h5 τ, h3, by have := (h5 τ).length; simpa using this⟩

theorem run_append_zero {tag t ty et : Nat} {i : TypeInfo} (ht : P.underlying t = some (.slice et)) (hi : P.info? et = some i) {n0 size n : Nat} {v : Value} {xs : List Value} (hown : w.ownsRow n0 tag size v n xs) (ad : Option Addr) (c : Nat) :
    (Builtin.append_ #[t, t] ty #[v, .slice ad 0 c]).run P w = .ok v w := by
  rcases hown.2 with ⟨rfl, rfl⟩ | ⟨g, cap, cur, rfl, _, _, hnc, _⟩
  · cases ad <;> simp [Builtin.append_, run_underlying ht, sizeOf, typeInfo, hi, Builtin.lenOf, Builtin.firstCells, loadCells, loadCellsFrom]
  · cases ad <;> simp [Builtin.append_, run_underlying ht, sizeOf, typeInfo, hi, Builtin.lenOf, Builtin.firstCells, hnc, storeCells, loadCells, loadCellsFrom]

theorem run_append_room2 {t ty e tag : Nat} {i : TypeInfo} (ht : P.underlying t = some (.slice e)) (hi : P.info? e = some i)
    (g sLen sCap : Nat) (cur : Array Value) (hg : w.heap[g]? = some (.cells cur tag (0, 0)))
    (a : Addr) (m c : Nat) (news : List Value) (hl : news.length = m * i.size) (hnews : At w a news) (h1 : ∀ u ∈ news, u.oneCell' = true)
    (hroom : sLen + m ≤ sCap) (hfit : sLen * i.size + news.length ≤ cur.size) :
    (Builtin.append_ #[t, t] ty #[.slice (some ⟨g, 0, none⟩) sLen sCap, .slice (some a) m c]).run P w =
      .ok (.slice (some ⟨g, 0, none⟩) (sLen + m) sCap) (w.setRow g (cur.toList.take (sLen * i.size) ++ news ++ cur.toList.drop (sLen * i.size + news.length)).toArray) := by
  have hf := run_firstCells_some (P := P) w i.size m a m c news hl hnews
  have hst := run_storeCells_at (P := P) g (sLen * i.size) tag news 0 cur w hg (by omega) h1
  rw [Nat.add_zero] at hst
  simp [Builtin.append_, run_underlying ht, sizeOf, typeInfo, hi, Builtin.lenOf, hroom, hf, addr_lit, hst]

theorem run_append_mine {tag t ty et : Nat} {i : TypeInfo} {z : Value} {size : Nat} (ht : P.underlying t = some (.slice et)) (hi : P.info? et = some i) (hz : i.zero = some z) (hsize : i.size = size) (hby : i.bytes ≤ 2048) (hzs : z.cells.size = size)
    {n0 n : Nat} {v : Value} {xs : List Value} (hown : w.ownsRow n0 tag size v n xs) {m c : Nat} {ad : Option Addr} {news : List Value} (hl : news.length = m * size) (hnews : ∀ a, ad = some a → At w a news)
    (had : 0 < m → ∃ a, ad = some a) (h1 : ∀ u ∈ news, u.oneCell' = true) (hlen : n + m ≤ lenBound) (hbase : n0 ≤ w.heap.size) :
    ∃ v' w' tag', (Builtin.append_ #[t, t] ty #[v, .slice ad m c]).run P w = .ok v' w' ∧ w'.ownsRow n0 tag' size v' (n + m) (xs ++ news) ∧ w.grownBy w' (hBlock v) ∧
      (∀ g, hBlock v' = some g → hBlock v = some g ∨ g = w.heap.size) := by
  subst hsize
  have hlb : n + m ≤ 68719476736 := hlen
  rcases Nat.eq_zero_or_pos m with hm | hm
  · subst hm
    have : news = [] := List.eq_nil_of_length_eq_zero (by simpa using hl)
    subst this
    exact ⟨v, w, tag, run_append_zero ht hi hown ad c, by simpa using hown, ⟨rfl, rfl, rfl, Nat.le_refl _, fun _ _ _ => rfl⟩, fun g hg => .inl hg⟩
  · obtain ⟨a, rfl⟩ := had hm
    have hnews' := hnews a rfl
    have hmax : n + m ≤ maxLen := by simp [maxLen]; omega
    have hbytes : (n + m) * i.bytes ≤ 140737488355328 := by
      have : (n + m) * i.bytes ≤ 68719476736 * 2048 := Nat.mul_le_mul hlb hby
      omega
    have hxl := hown.1
    have hlen' : (xs ++ news).length = (n + m) * i.size := by rw [List.length_append, hxl, hl, Nat.add_mul]
    have fresh : ∀ old, old < n + m → (w.drew.alloc (.cells (xs.toArray ++ news.toArray ++ Builtin.zeroCells z.cells (grownCap w (n + m) old et - (n + m))) et)).ownsRow n0 et i.size
        (.slice (some ⟨w.heap.size, 0, none⟩) (n + m) (grownCap w (n + m) old et)) (n + m) (xs ++ news) := by
      intro old ho
      have hge := grownCap_ge w (n + m) old et
      refine ⟨hlen', .inr ⟨w.heap.size, _, _, rfl, hbase, heap_alloc_new w.drew _, hge, grownCap_le_maxLen w (n + m) old et hmax, ?_, ?_⟩⟩
      · simp only [Array.size_append, List.size_toArray, size_zeroCells, hzs, hxl, hl, ← Nat.add_mul]
        congr 1; omega
      · simp only [Array.toList_append, List.append_assoc]
        rw [← List.append_assoc, ← hlen']
        exact List.take_left
    have grown : ∀ o row, w.grownBy (w.drew.alloc o) row := fun o row => ⟨rfl, rfl, rfl, by simp, fun k hk _ => heap_alloc_old w.drew _ k hk⟩
    rcases hown.2 with ⟨rfl, rfl⟩ | ⟨g, cap, cur, rfl, hbg, hg, hnc, hcm, hcs, htake⟩
    · have hx : xs = [] := List.eq_nil_of_length_eq_zero (by simpa using hxl)
      subst hx
      have hb0 : m * i.bytes ≤ 140737488355328 := by simpa using hbytes
      have hr := run_append_nil (P := P) w t ty et i z ht hi hz a m c news hl hnews' hm (by omega) (by omega)
      have hf := fresh 0 (by omega)
      simp only [Nat.zero_add, List.nil_append, Array.empty_append] at hf ⊢
      exact ⟨_, _, et, hr, hf, grown _ _, fun g' hg' => .inr (by simp [hBlock] at hg'; exact hg'.symm)⟩
    · by_cases hroom : n + m ≤ cap
      · have hfit : n * i.size + news.length ≤ cur.size := by rw [hl, hcs, ← Nat.add_mul]; exact Nat.mul_le_mul_right _ hroom
        have hr := run_append_room2 (P := P) (ty := ty) ht hi g n cap cur hg a m c news hl hnews' h1 hroom hfit
        refine ⟨_, _, tag, hr, ⟨hlen', .inr ⟨g, cap, _, rfl, hbg, setRow_heap w g cur _ tag _ hg, hroom, hcm, ?_, ?_⟩⟩, ⟨rfl, rfl, rfl, by simp, fun k _ hk => setRow_other w g k _ (fun e => hk (by simp [hBlock, e]))⟩, fun g' hg' => .inl hg'⟩
        · simp only [List.size_toArray, List.length_append, List.length_take, List.length_drop, Array.length_toList]
          omega
        · rw [htake, ← hlen']
          exact List.take_left
      · have holds : ∀ j u, xs[j]? = some u → w.cell? ((⟨g, 0, none⟩ : Addr).add j) = some u := hown.cells (g := g) rfl
        have hr := run_append_grow (P := P) w t ty et i z ht hi hz ⟨g, 0, none⟩ n cap xs hxl holds a m c news hl hnews' (by omega) (by omega) (growslice_fits (by omega) hbytes)
        exact ⟨_, _, et, hr, fresh cap (by omega), grown _ _, fun g' hg' => .inr (by simp [hBlock] at hg'; exact hg'.symm)⟩

end

section
variable {P : Program} {T : Nat → Option Ty} {G : Tbl} {w w' : World} {σ σ' τ : Store} {bx bx' : List (Nat × Box)} {H H' : Nat → Value} {n0 N : Nat} {C : Nat → Prop}

theorem constSV_rel {v : Value} {s : SV} (h : constSV v = some s) : SVR σ bx H s v := by
  unfold constSV at h
  split at h <;> simp at h <;> subst h
  · exact relV_int σ _ _
  · exact relV_bool σ _
  · exact relV_str σ _
  · rfl

theorem Rel.opd {st : St} {a : Act} (h : Rel C N n0 σ H st a w) {x : Operand} (hc : ∀ k, x = .tmp k → C k) {s : SV} (hx : opd st x = some s) : SVR σ st.bx H s (a.eval x) := by
  cases x with
  | tmp t => exact h.slot t s hx (hc t rfl)
  | const v => exact constSV_rel hx
  | _ => simp [Lift.opd] at hx

theorem split3 {α : Type} {cur xs r : List α} (h : cur = xs ++ r) {lo hi : Nat} (hl : lo ≤ hi) : cur = xs.take lo ++ (xs.take hi).drop lo ++ (xs.drop hi ++ r) := by
  subst h
  have e1 : xs.take lo = (xs.take hi).take lo := by rw [List.take_take, Nat.min_eq_left hl]
  rw [e1, List.take_append_drop, ← List.append_assoc, List.take_append_drop]

/-- what the contents of data are: cells somewhere, meant by the store -/
theorem data_news {e : Ty} {ys : List e.D} {s : SV} {v : Value} (hh : Holds w σ) (hB : BoxesR σ w n0 bx H) (hd : s.data bx (.slice e) = some ys) (h : SVR σ bx H s v) :
    ∃ ad c news, v = .slice ad ys.length c ∧ EncL σ e ys news ∧ (∀ a, ad = some a → At w a news) ∧ (0 < ys.length → ∃ a, ad = some a) := by
  have hrel := (data_rel hh hB hd h).2
  obtain ⟨ad, cap, h1, h2, h3, h4⟩ := hrel.slice
  have had : 0 < ys.length → ∃ a, ad = some a := fun hp => by obtain ⟨a, c, e1, _⟩ := h4 0 hp; exact ⟨a, e1⟩
  have fromσ : RelV σ ⟨.slice e, ys⟩ v → ∃ ad c news, v = .slice ad ys.length c ∧ EncL σ e ys news ∧ (∀ a, ad = some a → At w a news) ∧ (0 < ys.length → ∃ a, ad = some a) := by
    intro hr
    obtain ⟨ad, cap, h1, h2, h3, h4⟩ := hr.slice
    obtain ⟨cs, g1, g2⟩ := EncL.ofSlice ys ad h4
    exact ⟨ad, cap, cs, h1, g1, fun a ha => (g2 a ha).at hh, fun hp => by obtain ⟨a, c, e1, _⟩ := h4 0 hp; exact ⟨a, e1⟩⟩
  have fromBox : ∀ (t : Ty) (l : List t.D) (u : Value), BoxR σ w n0 (.vec t l) u → ∀ lo hi, lo ≤ hi → hi ≤ l.length → (⟨.slice t, tail l lo hi⟩ : TD) = ⟨.slice e, ys⟩ → v = viewV u lo hi t.size →
      ∃ ad c news, v = .slice ad ys.length c ∧ EncL σ e ys news ∧ (∀ a, ad = some a → At w a news) ∧ (0 < ys.length → ∃ a, ad = some a) := by
    intro t l u hb lo hi hlo hhi heq hv
    obtain ⟨ety, xs, hown, henc, _⟩ := hb
    simp only [TD.mk.injEq, Ty.slice.injEq] at heq
    obtain ⟨rfl, heq⟩ := heq
    have heq := eq_of_heq heq
    subst heq
    have hlen : (tail l lo hi).length = hi - lo := by simp [tail]; omega
    have hE1 := (henc.take hi l xs hhi).1
    have hE2 := (hE1.take lo (l.take hi) _ (by simp; omega)).2
    refine ⟨ad, cap, _, h1, hE2, ?_, had⟩
    intro a ha
    subst ha
    rcases Nat.eq_zero_or_pos (hi - lo) with hz | hp
    · intro j x hx
      have := (List.getElem?_eq_some_iff.1 hx).1
      simp only [List.length_drop, List.length_take, hown.1] at this
      have e0 : hi = lo := by omega
      subst e0
      omega
    · obtain ⟨g, cap', cur, k1, k2, k3, k4, k5, _⟩ := ownsRow_inv hown (by omega)
      subst k1
      have hne : ¬ cap' = lo := by omega
      simp only [viewV, hne, if_false, Option.map_some, addr_lit, Nat.zero_add] at hv
      rw [h1] at hv
      simp only [Value.slice.injEq, Option.some.injEq] at hv
      rw [hv.1]
      have h0 := (List.take_append_drop (l.length * t.size) cur.toList).symm
      rw [k5] at h0
      have hle : lo * t.size ≤ hi * t.size := Nat.mul_le_mul_right _ hlo
      have hle' : hi * t.size ≤ l.length * t.size := Nat.mul_le_mul_right _ hhi
      exact at_row k2 (split3 h0 hle) (by rw [List.length_take, hown.1]; exact Nat.min_eq_left (Nat.le_trans hle hle'))
  cases s with
  | tv d =>
    have := TD.as_eq hd; subst this
    exact fromσ h
  | nils =>
    have hv : v = .slice none 0 0 := h
    simp [SV.data, nilD] at hd
    subst hd
    exact fromσ (by rw [hv]; exact relV_nil _ _)
  | ref b =>
    obtain ⟨t, l, g1, g2⟩ := h
    simp only [SV.data, g1] at hd
    have heq := TD.as_eq hd
    obtain ⟨ad', cap', q1, q2, _⟩ := RelV.slice (box_slice hh (hB b _ g1))
    refine fromBox t l (H b) (hB b _ g1) 0 l.length (Nat.zero_le _) (Nat.le_refl _) (by simpa [tail] using heq) ?_
    rw [g2, q1]
    cases ad' <;> simp [viewV, addr_add_zero]
  | view b lo hi =>
    obtain ⟨t, l, g1, g2, g3, g4⟩ := h
    simp only [SV.data, g1] at hd
    exact fromBox t l (H b) (hB b _ g1) lo hi g2 g3 (TD.as_eq hd) g4
  | _ => simp [SV.data] at hd

end
end Go.Lift
