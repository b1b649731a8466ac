/-
  EV, part F: from a call that leaves alone what there was to what a row's end asks. Own work of this claim.
-/
import Derived.Test.YtgaoddafkjdecaaGreatRows
import Derived.WalkKit
import Derived.ProofKit
import Derived.OpenShut
import Derived.Below
import Derived.ChangeSame
set_option linter.unusedVariables false
namespace Go.Proofs.YtgaoddafkjdecaaGreat.EV
open Go.RowKit Go.WideShapes Go.ChangeShapes Go.ChangeAt

/-- behind a call that has turned nothing that was there, the arguments read as they did, and the result reads as it is told -/
theorem post_kept {H : Type} {enc : TypeId × Value → H} {P : Program} {f : Func} {s : ChangeSpec} {fresh handsOn again : Bool} {W V : World} {args : Array Value} {v : Value} {ds gs : List (DataW H)} {ps qa qv : List MemPlace}
    (whole : DataW.Whole enc P f.params.toList s.vars false W args.toList ds gs ps) (kept : Below W.heap.size W V) (parts : ps = qa ++ qv)
    (out : ∀ b sp hd, DataW.TrodAll enc P V b sp hd f.resultTypes.toList (v.resultList f.resultTypes.size) (s.fn H (ds ++ gs)).results [])
    (ins : ∀ sp : Nat → Bool, (∀ p ∈ ps, sp p.block = true) → DataW.TrodAll enc P V 0 sp true f.params.toList args.toList (s.fn H (ds ++ gs)).args qa)
    (vars : ∀ sp : Nat → Bool, (∀ p ∈ ps, sp p.block = true) → DataW.TrodVars enc P V sp s.vars (s.fn H (ds ++ gs)).vars qv)
    (fits : ∀ (j : Nat) (t : TypeId) (r : Value), f.resultTypes[j]? = some t → (v.resultList f.resultTypes.size)[j]? = some r → Value.okWide P V .any 0 t r) :
    s.post enc P f false fresh handsOn again W args v V := by
  have lt := whole.lt
  have here : ∀ p ∈ ps, decide (p.block < W.heap.size) = true := fun p hp => decide_eq_true (lt p hp)
  have all : ∀ p ∈ ps, (fun _ : Nat => true) p.block = true := fun _ _ => rfl
  obtain ⟨a1, a2, a3, a4, a5, frozen, a6⟩ := id whole
  refine ⟨ds, gs, ps, [], qa, qv, whole, out _ _ _, ins _ here, vars _ here, ?_, ?_⟩
  · refine World.keptBut_mono ?_ (kept.frame fun p => p ∈ ps)
    intro p hp
    refine ⟨hp, .inr ?_⟩
    subst parts
    exact List.mem_append.1 hp
  · intro _
    refine ⟨fits, _, _, ([] ++ qa) ++ qv, ⟨[] ++ qa, qv, trodAll_append (ins _ all) (out _ _ _), vars _ all, rfl, ?_, fun h => by cases h⟩, ?_⟩
    · intro b o hp
      have hin : MemPlace.cell b o ∈ ps := by subst parts; simpa using hp
      rw [kept.frozen (lt _ hin)]
      exact frozen b o hin
    · intro p hp _
      subst parts
      simpa using hp

end Go.Proofs.YtgaoddafkjdecaaGreat.EV
