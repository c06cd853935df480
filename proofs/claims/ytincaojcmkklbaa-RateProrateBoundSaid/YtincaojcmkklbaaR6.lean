/- A part of the proof that the law returns true for every input: no condition. -/
import Derived.Test.YtincaojcmkklbaaR5
set_option maxRecDepth 100000
set_option linter.unusedVariables false
set_option linter.unusedSimpArgs false
namespace Go.Lift.L03
open Go.Lift Go.Proofs

def divQ (hi lo y : Int) : Int := (((hi.toNat * 18446744073709551616 + lo.toNat) / y.toNat : Nat) : Int)
def divR (hi lo y : Int) : Int := (((hi.toNat * 18446744073709551616 + lo.toNat) % y.toNat : Nat) : Int)
def ltI (a b : Int) : Bool := decide (a < b)
theorem ltI_spec {a b : Int} (h : ltI a b = true) : a < b := of_decide_eq_true h
def Fdiv := FC3 (.int .u64) (.int .u64) (.int .u64) (fun hi lo y => u64ok hi && u64ok lo && u64ok y && ltI hi y) fun hi lo y => .tup [.tv (U (divQ hi lo y)), .tv (U (divR hi lo y))]

abbrev GoD (G : Tbl) (L : Leaf) (r : SV) : Prop := Goes (GD G) T Try.f24.ntmps Try.f24.results.toList L r

theorem wsub1 {q : Nat} (h : 0 < q) (h' : q < 18446744073709551616) : w64 ((q : Int) - 1) = ((q - 1 : Nat) : Int) := by
  rw [show ((q : Int) - 1) = ((q - 1 : Nat) : Int) by omega]
  exact w64k (by omega)
theorem wadd {a b : Nat} (h : a + b < 18446744073709551616) : w64 ((a : Int) + (b : Int)) = ((a + b : Nat) : Int) := by
  rw [← Int.natCast_add]; exact w64k h

theorem loop2 (G : Tbl) {Y a b v w : Nat} (d : Dig Y a b v w) (s u u1 q : Int) {r0 : SV} (hfin : GoD G (after2 Y s w q v (qd Y v w : Nat)) r0) :
    ∀ (k r : Nat), k * a + r = v → r < 4294967296 → qd Y v w ≤ k → k ≤ 4294967297 → GoD G (.loop M24.body M24.kont (R24 Y s a b u u1 w q r v k)) r0
  | k, r, h, hr, hk, hk2 => by
    refine Goes.lp 200 (fun _ => ks24) (.of_eq (j24 G Y s a b u u1 w q r v k) ?_)
    rw [d.over_eq h hr]
    have ha' := d.ha'
    refine .bif (fun h1 => ?_) (fun h1 => ?_)
    · have hlt : qd Y v w < k := by simpa using h1
      rw [wsub1 (by omega) (by omega), wadd (by omega)]
      have h' : (k - 1) * a + (r + a) = v := by
        obtain ⟨j, rfl⟩ : ∃ j, k = j + 1 := ⟨k - 1, by omega⟩
        rw [Nat.add_mul] at h
        rw [Nat.add_sub_cancel]
        omega
      refine .bif (fun h2 => ?_) (fun h2 => ?_)
      · have hbig : 4294967296 ≤ r + a := by simp only [decide_eq_true_eq] at h2; omega
        have := d.big h' hbig
        have e : k - 1 = qd Y v w := by omega
        rw [e]
        exact hfin
      · have hsm : r + a < 4294967296 := by simp only [decide_eq_false_iff_not] at h2; omega
        exact loop2 G d s u u1 q hfin (k - 1) (r + a) h' hsm (by omega) (by omega)
    · have : ¬ qd Y v w < k := by simpa using h1
      have e : k = qd Y v w := by omega
      rw [e]
      exact hfin
  termination_by k => k

theorem loop1 (G : Tbl) {Y a b u w : Nat} (d : Dig Y a b u w) (s u0 : Int) {r0 : SV} (hfin : GoD G (after1 Y s a b u w u0 (qd Y u w : Nat)) r0) :
    ∀ (k r : Nat), k * a + r = u → r < 4294967296 → qd Y u w ≤ k → k ≤ 4294967297 → GoD G (.loop L24.body L24.kont (S24 Y s a b u w u0 k r)) r0
  | k, r, h, hr, hk, hk2 => by
    refine Goes.lp 200 (fun _ => ks24) (.of_eq (i24 G Y s a b u w u0 k r) ?_)
    rw [d.over_eq h hr]
    have ha' := d.ha'
    refine .bif (fun h1 => ?_) (fun h1 => ?_)
    · have hlt : qd Y u w < k := by simpa using h1
      rw [wsub1 (by omega) (by omega), wadd (by omega)]
      have h' : (k - 1) * a + (r + a) = u := by
        obtain ⟨j, rfl⟩ : ∃ j, k = j + 1 := ⟨k - 1, by omega⟩
        rw [Nat.add_mul] at h
        rw [Nat.add_sub_cancel]
        omega
      refine .bif (fun h2 => ?_) (fun h2 => ?_)
      · have hbig : 4294967296 ≤ r + a := by simp only [decide_eq_true_eq] at h2; omega
        have := d.big h' hbig
        have e : k - 1 = qd Y u w := by omega
        rw [e]
        exact hfin
      · have hsm : r + a < 4294967296 := by simp only [decide_eq_false_iff_not] at h2; omega
        exact loop1 G d s u0 hfin (k - 1) (r + a) h' hsm (by omega) (by omega)
    · have : ¬ qd Y u w < k := by simpa using h1
      have e : k = qd Y u w := by omega
      rw [e]
      exact hfin
  termination_by k => k

theorem first_vals {Y a b u w : Nat} (d : Dig Y a b u w) (hY : Y < 18446744073709551616) :
    w64 ((u : Int).tdiv (a : Int)) = ((u / a : Nat) : Int) ∧ w64 ((u : Int) - w64 (((u / a : Nat) : Int) * (a : Int))) = ((u % a : Nat) : Int) := by
  obtain ⟨f1, f2, f3, f4⟩ := d.first
  have hu := d.hu
  refine ⟨by rw [tdivN]; exact w64k (by omega), ?_⟩
  rw [← Int.natCast_mul, w64k (by omega)]
  rw [show ((u : Int) - ((u / a * a : Nat) : Int)) = ((u % a : Nat) : Int) by omega]
  exact w64k (by omega)
end Go.Lift.L03
