/-
  From a contract in N to a law's row.
-/
import Derived.Test.YtobpahgkkpmpfaaGreatNwA
import Derived.WalkKit
import Derived.ProofKit
import Derived.OpenShut
import Derived.Below
namespace Go.NL
open Go

theorem law_of {P : Program} {f : FuncId} {args : List NV} {args' : List Value} {M' : Mem} {n' : Nat} {im : Nat → Nat → Option Value} {w : World} (h : Callable P f args (fun _ => none) 0 (.b true) M' n') (hargs : VRs ⟨fun _ => none, im⟩ args args')
    (him : ∀ b o v, im b o = some v → w.cell? ⟨b, o, none⟩ = some v) : Calls P f ⟨args'⟩ w fun e w' => e = .returned (.bool true) ∧ RowKit.Below w.heap.size w w' := by
  have h0 : MRel P ⟨fun _ => none, im⟩ (fun _ => none) w := ⟨fun id o hm => (by cases hm), fun i j o o' hi => (by cases hi), him, fun b o v i ob hv hi => (by cases hi)⟩
  refine (h ⟨fun _ => none, im⟩ w args' (fun _ _ => rfl) hargs h0).mono fun e w' hp => ?_
  obtain ⟨G', u, rfl, h1, h2, h3, h4, h5, h6⟩ := hp
  cases h3
  exact ⟨rfl, h5.os, h5.tape, h5.output, h5.size, fun b hb => h5.heap b hb fun id o hm => (by cases hm)⟩

open Go.ChangeShapes Go.WideShapes in
theorem post_of_below {H : Type} {enc : TypeId × Value → H} {P : Program} {f : Func} {s : ChangeSpec} {apart fresh handsOn : Bool} {W W' : World} {args : Array Value} {v : Value} {ds gs : List (DataW H)} {before pa pv : List MemPlace}
    (hW : DataW.Whole enc P f.params.toList s.vars apart W args.toList ds gs before)
    (hres : ∀ (b : Nat) (sp : Nat → Bool) (hd : Bool), DataW.TrodAll enc P W' b sp hd f.resultTypes.toList (v.resultList f.resultTypes.size) (s.fn H (ds ++ gs)).results [])
    (hargs : DataW.TrodAll enc P W' 0 (fun b => decide (b < W.heap.size)) true f.params.toList args.toList (s.fn H (ds ++ gs)).args pa)
    (hvars : DataW.TrodVars enc P W' (fun b => decide (b < W.heap.size)) s.vars (s.fn H (ds ++ gs)).vars pv)
    (hps : before = pa ++ pv) (hk : RowKit.Below W.heap.size W W') : s.post enc P f apart fresh handsOn false W args v W' := by
  refine ⟨ds, gs, before, [], pa, pv, hW, hres _ _ _, hargs, hvars, World.keptBut_mono (fun p hp => ⟨hp, ?_⟩) (hk.frame (· ∈ before)), fun h => by cases h⟩
  rw [hps, List.mem_append] at hp
  exact Or.inr hp

end Go.NL
