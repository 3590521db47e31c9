/- What the machine says of a closed law, as the row asks it: the call returns true, and of the memory that was there nothing turns. -/
import Derived.Test.YtladpdndjcgebaaKxS
import Derived.RowKit3
import Derived.ChangeSame
namespace Go.Proofs.Ytladpdndjcgebaa.Kx
set_option linter.unusedVariables false
open Go Go.Proofs.Ytladpdndjcgebaa.Sx

theorem kept_of {w w' : World} (hos : w'.os = w.os) (hout : w'.output = w.output) (h : ∀ (i : Nat) (o : Obj), w.heap[i]? = some o → w'.heap[i]? = some o) : w.keptBut w' (fun _ => False) := by
  refine ⟨hos, hout, fun i hi => ?_⟩
  have h1 : w.heap[i]? = some w.heap[i] := Array.getElem?_eq_getElem hi
  have h2 := h i _ h1
  rw [h1, h2]
  split
  · rename_i c t fr c' t' fr' e1 e2
    cases e1.symm.trans e2
    exact ⟨rfl, rfl, rfl, fun _ _ => rfl⟩
  · rename_i es clock es' clock' e1 e2
    cases e1.symm.trans e2
    exact .inr ⟨rfl, rfl⟩
  · rfl

theorem calls_true {P : Program} {ty : Ty} (hT : TyOK P ty) (hm : P.follows .mixedOrders = true) {n f : Nat} (h : saysTrue P ty n f = true) (w : World) :
    Calls P f #[] w fun e w' => e = .returned (.bool true) ∧ w.keptBut w' (fun _ => False) := by
  obtain ⟨post, _, hs⟩ := spec_says hT hm h
  refine Calls.mono (hs (fun _ => none) (fun _ => 1) w [] (fun _ _ => rfl) rfl (fun c => ?_)) fun e w' he => ?_
  · cases c <;> trivial
  · obtain ⟨v, r, chs, ρ', own', rfl, ⟨rfl, _⟩, hsince, _, hr, _⟩ := he
    have hr : v = .bool true := hr
    refine ⟨by rw [hr], kept_of hsince.os hsince.output fun i o hi => ?_⟩
    have h1 := hsince.sub 1 (by omega) i o (by simp only [view, if_true]; exact hi)
    exact view_heap h1

/-- The row's promise, where it asks no second call: what was there is there as it was. -/
theorem post_kept {H : Type} {enc : TypeId × Value → H} {P : Program} {f : Func} {s : ChangeSpec} {apart fresh handsOn : Bool} {W W' : World} {args : Array Value} {v : Value} {ds gs : List (DataW H)} {before : List MemPlace}
    (hW : DataW.Whole enc P f.params.toList s.vars apart W args.toList ds gs before)
    (hres : ∀ (b : Nat) (sp : Nat → Bool) (hd : Bool), DataW.TrodAll enc P W' b sp hd f.resultTypes.toList (v.resultList f.resultTypes.size) (s.fn H (ds ++ gs)).results [])
    (hargs : ∀ sp : Nat → Bool, (∀ p ∈ before, sp p.block = true) → DataW.TrodAll enc P W' 0 sp true f.params.toList args.toList (s.fn H (ds ++ gs)).args [])
    (hvars : ∀ sp : Nat → Bool, (∀ p ∈ before, sp p.block = true) → DataW.TrodVars enc P W' sp s.vars (s.fn H (ds ++ gs)).vars [])
    (hk : W.keptBut W' (fun _ => False)) : s.post enc P f apart fresh handsOn false W args v W' := by
  have hold : ∀ p ∈ before, (fun b => decide (b < W.heap.size)) p.block = true := fun p hp => by simpa using hW.lt p hp
  exact ⟨ds, gs, before, [], [], [], hW, hres _ _ _, hargs _ hold, hvars _ hold, World.keptBut_mono (fun _ f => f.elim) hk, fun h => by cases h⟩
end Go.Proofs.Ytladpdndjcgebaa.Kx
