/- A part of the proof that the law returns true for every input: no condition. -/
import Derived.Test.YtincaojcmkklbaaR9
set_option maxRecDepth 100000
set_option linter.unusedVariables false
set_option linter.unusedSimpArgs false
namespace Go.Lift.L03
open Go.Lift Go.Proofs

/-! rounding: what it computes -/
def upN (q r d : Nat) (neg : Bool) (m : Int) : Bool :=
  bif m == 0 then neg && decide (0 < r)
  else bif m == 1 then !neg && decide (0 < r)
  else bif m == 3 then decide (0 < r)
  else bif m == 4 then decide (d ≤ 2 * r)
  else bif m == 5 then decide (d < 2 * r) || (decide (2 * r = d) && decide (q % 2 = 1))
  else false
def sgn (neg : Bool) (n : Int) : Int := bif neg then -n else n
def up1 (q r d : Nat) (neg : Bool) (m : Int) : Nat := q + (upN q r d neg m).toNat

/-- numbers from 0 to 2^62, the remainder below the divisor -/
def rdOk (q r d : Int) : Bool := decide (0 ≤ q) && decide (q ≤ 4611686018427387904) && decide (0 ≤ r) && decide (r < d) && decide (d ≤ 4611686018427387904)
theorem rdOk_spec {q r d : Int} (h : rdOk q r d = true) : ∃ a b c : Nat, q = a ∧ r = b ∧ d = c ∧ a ≤ 4611686018427387904 ∧ b < c ∧ c ≤ 4611686018427387904 := by
  simp only [rdOk, Bool.and_eq_true, decide_eq_true_eq] at h
  exact ⟨q.toNat, r.toNat, d.toNat, by omega, by omega, by omega, by omega, by omega, by omega⟩

theorem odd_eq (q : Nat) : (((q : Int).tmod 2 == 1) : Bool) = decide (q % 2 = 1) := by
  have : (q : Int).tmod 2 = ((q % 2 : Nat) : Int) := tmodN q 2
  rw [this, Bool.eq_iff_iff]
  simp
  omega

theorem cmpG (r d : Nat) (h : r < d) : decide ((r : Int) > ((d - r : Nat) : Int)) = decide (d < 2 * r) := by rw [decide_eq_decide]; omega
theorem cmpGE (r d : Nat) (h : r < d) : decide ((r : Int) ≥ ((d - r : Nat) : Int)) = decide (d ≤ 2 * r) := by rw [decide_eq_decide]; omega
theorem cmpE (r d : Nat) (h : r < d) : ((r : Int) == ((d - r : Nat) : Int)) = decide (2 * r = d) := by
  rw [Bool.eq_iff_iff]; simp; omega
theorem pos_eq (r : Nat) : decide ((r : Int) > 0) = decide (0 < r) := by rw [decide_eq_decide]; omega
theorem subU {d r : Nat} (h : r < d) (hd : d ≤ 4611686018427387904) : w64 ((d : Int) - (r : Int)) = ((d - r : Nat) : Int) := by
  rw [show ((d : Int) - (r : Int)) = ((d - r : Nat) : Int) by omega]; exact w64k (by omega)
theorem subI {d r : Nat} (h : r < d) (hd : d ≤ 4611686018427387904) : w ((d : Int) - (r : Int)) = ((d - r : Nat) : Int) := by
  rw [show ((d : Int) - (r : Int)) = ((d - r : Nat) : Int) by omega]; exact wrap_id (by omega) (by omega)

def Fround := FC5 (.int .u64) (.int .u64) (.int .u64) .bool (.int .i64) (fun q r d _ _ => rdOk q r d) fun q r d neg m => .tv (U ((up1 q.toNat r.toNat d.toNat neg m : Nat) : Int))
def FroundUp := FC5 (.int .u64) (.int .u64) (.int .u64) .bool (.int .i64) (fun q r d _ _ => rdOk q r d) fun q r d neg m => .tv (B (upN q.toNat r.toNat d.toNat neg m))
def FRounded := FC5 (.int .i64) (.int .i64) (.int .i64) .bool (.int .i64) (fun q r d _ _ => rdOk q r d) fun q r d neg m => .tv (I (sgn neg ((up1 q.toNat r.toNat d.toNat neg m : Nat) : Int)))

theorem fin35_goes {G : Tbl} {q r d : Nat} {neg : Bool} {m : Int} (hq : q ≤ 4611686018427387904) {up : Bool} (h : upN q r d neg m = up) :
    Goes G T Try.f35.ntmps Try.f35.results.toList (fin35 q up) (.tv (U ((up1 q r d neg m : Nat) : Int))) := by
  unfold up1 fin35
  rw [h]
  cases up with
  | false => exact .ret _
  | true =>
    rw [show w64 ((q : Int) + 1) = ((q + true.toNat : Nat) : Int) from wadd (a := q) (b := 1) (by omega)]
    exact .ret _
theorem env35 {G : Tbl} (hE : Env Try.prog T G) : Env Try.prog T (G.add 35 Fround) := by
  refine hE.fun' (fn := Try.f35) (by kernel_rfl) (by kernel_rfl) (by kernel_rfl) fun tds r h => ?_
  obtain ⟨q, r, d, neg, m, rfl, h1, rfl⟩ := FC5.inv h
  · skip
    refine ⟨Nat.le_of_ble_eq_true (by kernel_rfl), .more 200 (fun _ => []) _ _ _ (.of_eq (e35 G q r d neg m) ?_)⟩
    obtain ⟨q, r, d, rfl, rfl, rfl, hq, hr, hd⟩ := rdOk_spec h1
    simp only [Int.toNat_natCast]
    rw [subU hr hd, cmpG r d hr, cmpGE r d hr, cmpE r d hr, odd_eq, pos_eq, band_bif, band_bif, band_bif, bor_bif]
    refine .bif (fun h => ?_) (fun h0 => .bif (fun h => ?_) (fun h1 => .bif (fun h => ?_) (fun h3 => .bif (fun h => ?_) (fun h4 => .bif (fun h => ?_) (fun h5 => ?_)))))
    · exact fin35_goes hq (by unfold upN; rw [h]; rfl)
    · exact fin35_goes hq (by unfold upN; rw [h0, h]; rfl)
    · exact fin35_goes hq (by unfold upN; rw [h0, h1, h]; rfl)
    · exact fin35_goes hq (by unfold upN; rw [h0, h1, h3, h]; rfl)
    · exact fin35_goes hq (by unfold upN; rw [h0, h1, h3, h4, h]; rfl)
    · have : upN q r d neg m = false := by unfold upN; rw [h0, h1, h3, h4, h5]; rfl
      have := fin35_goes (G := G) hq this
      exact this
theorem has35 : Hs 35 Fround := env35 env0
theorem env25 {G : Tbl} (hE : Env Try.prog T G) : Env Try.prog T (G.add 25 FroundUp) := by
  refine hE.fun' (fn := Try.f25) (by kernel_rfl) (by kernel_rfl) (by kernel_rfl) fun tds r h => ?_
  obtain ⟨q, r, d, neg, m, rfl, h1, rfl⟩ := FC5.inv h
  · skip
    refine ⟨Nat.le_of_ble_eq_true (by kernel_rfl), .more 200 (fun _ => []) _ _ _ (.of_eq (e25 G q r d neg m) ?_)⟩
    obtain ⟨q, r, d, rfl, rfl, rfl, hq, hr, hd⟩ := rdOk_spec h1
    simp only [Int.toNat_natCast]
    rw [subU hr hd, cmpG r d hr, cmpGE r d hr, cmpE r d hr, odd_eq, band_bif, bor_bif]
    have fin : ∀ {up : Bool}, upN q r d neg m = up → Goes G T Try.f25.ntmps Try.f25.results.toList (.ret (.tv (B up))) (.tv (B (upN q r d neg m))) := by
      intro up h; rw [h]; exact .ret _
    refine .bif (fun h => ?_) (fun hz => ?_)
    · have : r = 0 := by simpa using h
      subst this
      have : upN q 0 d neg m = false := by
        unfold upN
        have a1 : decide (d ≤ 2 * 0) = false := by simp; omega
        have a2 : decide (d < 2 * 0) = false := by simp
        have a3 : decide (2 * 0 = d) = false := by simp; omega
        rw [a1, a2, a3]
        simp
      exact fin this
    have hp : decide (0 < r) = true := by
      have : r ≠ 0 := by simpa using hz
      simp; omega
    refine .bif (fun h => ?_) (fun h0 => .bif (fun h => ?_) (fun h1 => .bif (fun h => ?_) (fun h3 => .bif (fun h => ?_) (fun h4 => .bif (fun h => ?_) (fun h5 => ?_)))))
    · exact fin (by unfold upN; rw [h, hp]; simp)
    · exact fin (by unfold upN; rw [h0, h, hp]; simp)
    · exact fin (by unfold upN; rw [h0, h1, h, hp]; rfl)
    · exact fin (by unfold upN; rw [h0, h1, h3, h]; rfl)
    · exact fin (by unfold upN; rw [h0, h1, h3, h4, h]; rfl)
    · exact fin (by unfold upN; rw [h0, h1, h3, h4, h5]; rfl)
theorem has25 : Hs 25 FroundUp := env25 env0
theorem fin40_goes {G : Tbl} {q r d : Nat} {neg : Bool} {m : Int} (hq : q ≤ 4611686018427387904) {up : Bool} (h : upN q r d neg m = up) :
    Goes G T Try.f40.ntmps Try.f40.results.toList (fin40 q neg up) (.tv (I (sgn neg ((up1 q r d neg m : Nat) : Int)))) := by
  unfold up1 fin40 sgn
  rw [h]
  have e1 : w ((q : Int) + 1) = ((q + true.toNat : Nat) : Int) := by
    rw [show ((q : Int) + 1) = ((q + true.toNat : Nat) : Int) from rfl]
    exact wrap_id (by omega) (by simp; omega)
  have e2 : w (0 - ((q + true.toNat : Nat) : Int)) = -((q + true.toNat : Nat) : Int) := by
    rw [Int.zero_sub]
    exact wrap_id (by simp; omega) (by omega)
  have e3 : w (0 - (q : Int)) = -((q + false.toNat : Nat) : Int) := by
    rw [Int.zero_sub]
    exact wrap_id (by omega) (by omega)
  cases up with
  | false =>
    cases neg with
    | false => exact .ret _
    | true => rw [e3]; exact .ret _
  | true =>
    rw [e1]
    cases neg with
    | false => exact .ret _
    | true => rw [e2]; exact .ret _
theorem env40 {G : Tbl} (hE : Env Try.prog T G) : Env Try.prog T (G.add 40 FRounded) := by
  refine hE.fun' (fn := Try.f40) (by kernel_rfl) (by kernel_rfl) (by kernel_rfl) fun tds r h => ?_
  obtain ⟨q, r, d, neg, m, rfl, h1, rfl⟩ := FC5.inv h
  · skip
    refine ⟨Nat.le_of_ble_eq_true (by kernel_rfl), .more 200 (fun _ => []) _ _ _ (.of_eq (e40 G q r d neg m) ?_)⟩
    obtain ⟨q, r, d, rfl, rfl, rfl, hq, hr, hd⟩ := rdOk_spec h1
    simp only [Int.toNat_natCast]
    rw [subI hr hd, cmpG r d hr, cmpGE r d hr, cmpE r d hr, odd_eq, pos_eq, band_bif, band_bif, band_bif, bor_bif]
    refine .bif (fun h => ?_) (fun h0 => .bif (fun h => ?_) (fun h1 => .bif (fun h => ?_) (fun h3 => .bif (fun h => ?_) (fun h4 => .bif (fun h => ?_) (fun h5 => ?_)))))
    · exact fin40_goes hq (by unfold upN; rw [h]; rfl)
    · exact fin40_goes hq (by unfold upN; rw [h0, h]; rfl)
    · exact fin40_goes hq (by unfold upN; rw [h0, h1, h]; rfl)
    · exact fin40_goes hq (by unfold upN; rw [h0, h1, h3, h]; rfl)
    · exact fin40_goes hq (by unfold upN; rw [h0, h1, h3, h4, h]; rfl)
    · have : upN q r d neg m = false := by unfold upN; rw [h0, h1, h3, h4, h5]; rfl
      have := fin40_goes (G := G) hq this
      exact this
theorem has40 : Hs 40 FRounded := env40 env0
/-! signed, Abs -/
def Fsigned := FC2 (.int .u64) .bool (fun n _ => limOk n) fun n neg => .tv (I (sgn neg n))
theorem env36 {G : Tbl} (hE : Env Try.prog T G) : Env Try.prog T (G.add 36 Fsigned) := by
  refine hE.fun' (fn := Try.f36) (by kernel_rfl) (by kernel_rfl) (by kernel_rfl) fun tds r h => ?_
  obtain ⟨n, neg, rfl, h1, rfl⟩ := FC2.inv h
  · skip
    refine ⟨Nat.le_of_ble_eq_true (by kernel_rfl), .more 200 (fun _ => []) _ _ _ (.of_eq (e36 G n neg) ?_)⟩
    obtain ⟨l0, l1⟩ := limOk_spec h1
    rw [show w n = n from wrap_id (by omega) (by omega), show w (0 - n) = -n from (congrArg w (Int.zero_sub n)).trans (wrap_id (by omega) (by omega))]
    cases neg <;> exact .ret _
theorem has36 : Hs 36 Fsigned := env36 env0
def symOk (n : Int) : Bool := decide (-9223372036854775807 ≤ n) && decide (n ≤ 9223372036854775807)
theorem symOk_spec {n : Int} (h : symOk n = true) : -9223372036854775807 ≤ n ∧ n ≤ 9223372036854775807 := by simpa [symOk] using h
def FAbs := FC1 (.int .i64) symOk fun n => .tv (I (absI n))
theorem abs39 {n : Int} (l0 : -9223372036854775807 ≤ n) (h : n < 0) : w (0 - n) = absI n := by
  unfold absI
  rw [show (0 - n) = ((n.natAbs : Nat) : Int) by omega]
  by_cases hh : n.natAbs ≤ 9223372036854775807
  · exact wrap_id (by omega) (by omega)
  · omega
theorem abs39' {n : Int} (h : ¬ n < 0) : n = absI n := by unfold absI; omega
theorem env39 {G : Tbl} (hE : Env Try.prog T G) : Env Try.prog T (G.add 39 FAbs) := by
  refine hE.fun' (fn := Try.f39) (by kernel_rfl) (by kernel_rfl) (by kernel_rfl) fun tds r h => ?_
  obtain ⟨n, rfl, h1, rfl⟩ := FC1.inv h
  · skip
    refine ⟨Nat.le_of_ble_eq_true (by kernel_rfl), .more 200 (fun _ => []) _ _ _ (.of_eq (e39 G n) ?_)⟩
    obtain ⟨l0, l1⟩ := symOk_spec h1
    refine .bif (fun h => ?_) (fun h => ?_)
    · rw [abs39 l0 (of_decide_eq_true h)]; exact .ret _
    · rw [← abs39' (of_decide_eq_false h)]; exact .ret _
theorem has39 : Hs 39 FAbs := env39 env0
end Go.Lift.L03
