/- A part of the proof that the law returns true for every input: no condition. -/
import Derived.Test.YtincaojcmkklbaaE26
import Derived.WalkKit
import Derived.ProofKit
import Derived.OpenShut
set_option linter.unusedSimpArgs false
set_option linter.unusedVariables false
namespace Go.Lift
open Go.ChangeShapes Go.WideShapes Go.RowKit

section
variable {P : Program} {T : Nat → Option Ty} {G : Tbl}

theorem Step.below {σ σ' : Store} {w w' : World} (h : Step σ w σ' w') : Below w.heap.size w w' := ⟨h.os, h.tape, h.output, h.size, h.block⟩

theorem trodAll_length {H : Type} {enc : TypeId × Value → H} {w : World} {base : Nat} {spare : Nat → Bool} {held : Bool} : ∀ {tys : List TypeId} {vs : List Value} {ds : List (DataW H)} {ps : List MemPlace},
    DataW.TrodAll enc P w base spare held tys vs ds ps → ds.length = tys.length
  | [], [], [], _, _ => rfl
  | _ :: tys, _ :: vs, _ :: ds, _, ⟨_, _, _, h, _⟩ => by simp [trodAll_length h]
  | [], _ :: _, _, _, h => h.elim
  | [], [], _ :: _, _, h => h.elim
  | _ :: _, [], _, _, h => h.elim
  | _ :: _, _ :: _, [], _, h => h.elim

theorem trodAll_stays {H : Type} {enc : TypeId × Value → H} {W W' : World} {base : Nat} {sp' : Nat → Bool} (hl : laidOutB P = true) (hw : ∀ p : MemPlace, p.block < W.heap.size → W.sameAt W' p) (hs : ∀ b, b < W.heap.size → sp' b = true) : ∀ {tys : List TypeId} {vs : List Value} {ds : List (DataW H)} {ps : List MemPlace},
    (tys.all fun t => P.readableRec t && decide (t < P.types.size)) = true → (∀ p ∈ ps, p.block < W.heap.size) →
    DataW.TrodAll enc P W base (fun _ => true) true tys vs ds ps → DataW.TrodAll enc P W' base sp' true tys vs ds ps
  | [], [], [], _, _, _, h => h
  | _ :: tys, _ :: vs, _ :: ds, _, hr, hp, ⟨p, q, h1, h2, he⟩ => by
    subst he
    simp only [List.all_cons, Bool.and_eq_true, decide_eq_true_eq] at hr
    have a1 := WideElems.Trod_stays (sp' := sp') hl hr.1.1 hr.1.2 h1 (fun x hx => hw x (hp x (List.mem_append.2 (.inl hx)))) (fun x hx => hs _ (hp x (List.mem_append.2 (.inl hx))))
    have a2 := trodAll_stays (sp' := sp') hl hw hs hr.2 (fun x hx => hp x (List.mem_append.2 (.inr hx))) h2
    exact ⟨p, q, a1, a2, rfl⟩
  | [], _ :: _, _, _, _, _, h => h.elim
  | [], [], _ :: _, _, _, _, h => h.elim
  | _ :: _, [], _, _, _, _, h => h.elim
  | _ :: _, _ :: _, [], _, _, _, h => h.elim

/-- THE LAW's CONTRACT: the typed run returns true, whatever well-formed data came in -/
theorem law_contract (hE : Env P T G) {f : Nat} {fn : Func} {s : ChangeSpec} {H : Type} {enc : TypeId × Value → H} {apart fresh handsOn : Bool} {ts : List Ty} {tb : Nat}
    (hts : mapO T fn.params.toList = some ts) (hvars : s.vars = []) (hfn : ∀ ds : List (DataW H), ds.length = ts.length → s.fn H ds = { results := [.lit (.bool true)], args := ds })
    (hr : fn.resultTypes = #[tb]) (hb : P.underlying tb = some .bool) (hl : laidOutB P = true) (hread : (fn.params.toList.all fun t => P.readableRec t && decide (t < P.types.size)) = true)
    (hlaw : ∀ tds : List TD, tds.map TD.t = ts → (∀ d ∈ tds, Wf d.t d.x) → G f tds = some (true, .tv ⟨.bool, true⟩))
    (W : World) (base : Nat) (args : Array Value) (ds gs : List (DataW H)) (before : List MemPlace)
    (hval : ∀ (j : Nat) t v, fn.params[j]? = some t → args[j]? = some v → Value.okWide P W .any base t v)
    (hW : DataW.Whole enc P fn.params.toList s.vars apart W args.toList ds gs before) :
    Calls P f args W fun e W' => ∃ v, e = .returned v ∧ s.post enc P fn apart fresh handsOn false W args v W' := by
  have hW' := hW
  obtain ⟨p, q, hA, hV, rfl, hfz, hnd⟩ := hW
  rw [hvars] at hV
  obtain ⟨rfl, rfl⟩ := trodVars_none hV
  obtain ⟨tds, g1, g2, g3, g4⟩ := args_of_trodAll (base := base) hE.types _ ts args.toList ds p hts hA fun j t v hj hv => hval j t v (by simpa using hj) (by simpa using hv)
  have hlen : ds.length = ts.length := by
    rw [trodAll_length hA]
    exact ((mapO_spec hts).1).symm
  refine (hE.good f tds _ (hlaw tds g1 g4) (heapS W) W args (holds_heapS W) ⟨by simpa using g2, fun i d v hd hv => g3 i d v hd (by simpa using hv)⟩).mono fun e W' ⟨v, σ', he, hst, hret⟩ => ?_
  have hv : v = .bool true := hret.bool
  subst hv
  have hbel := hst.below
  have hlt : ∀ x ∈ p ++ [], x.block < W.heap.size := fun x hx => hW'.lt x hx
  refine ⟨.bool true, he, ds, [], p ++ [], [], p, [], hW', ?_, ?_, ?_, hbel.frame _, fun h => by cases h⟩
  · rw [List.append_nil, hfn ds hlen, hr]
    exact trodAll_cons_mk (shut_bool hb true) trodAll_mk0
  · rw [List.append_nil, hfn ds hlen]
    exact trodAll_stays hl (fun x hx => hbel.same hx) (fun b hb => by simpa using hb) hread (fun x hx => hlt x (by simpa using hx)) hA
  · rw [List.append_nil, hfn ds hlen, hvars]
    rfl

end
end Go.Lift
