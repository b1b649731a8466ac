/-
  EV, part S22: books from lists; closed calls as summaries; what a closed run says of the world. Own work of this claim.
-/
import Derived.Test.YtgaoddafkjdecaaGreatEvS21
import Derived.Test.YtgaoddafkjdecaaGreatEvP
set_option linter.unusedVariables false
set_option linter.unusedSimpArgs false
namespace Go.Proofs.YtgaoddafkjdecaaGreat.EV
open Go.RowKit

/-- a trie from a list -/
noncomputable def mkT {α : Type} : List (Nat × α) → Tr α
  | [] => .lf
  | (i, x) :: l => (mkT l).set (some x) (tp i)

theorem mkT_get {α : Type} {f : Nat} {g : α} : ∀ {l : List (Nat × α)}, (mkT l).get (tp f) = some g → (f, g) ∈ l
  | [], h => by simp [mkT] at h
  | (i, x) :: l, h => by
    simp only [mkT, Tr.get_set] at h
    split at h
    · rename_i e
      have := tp_inj e
      subst this
      cases h
      simp
    · exact List.mem_cons_of_mem _ (mkT_get h)

inductive All {α : Type} (Q : α → Prop) : List α → Prop
  | nil : All Q []
  | cons {x : α} {l : List α} (h : Q x) (t : All Q l) : All Q (x :: l)

theorem All.mem {α : Type} {Q : α → Prop} {l : List α} (h : All Q l) : ∀ x ∈ l, Q x := by
  induction h with
  | nil => simp
  | cons h t ih =>
    intro x hx
    rcases List.mem_cons.1 hx with rfl | hx
    · exact h
    · exact ih x hx

def FnFact (P : Program) (ms : List String) (x : Nat × AFn) : Prop := ∃ fn, P.funcs[x.1]? = some fn ∧ cFn P ms fn = some x.2

theorem fns_of {P : Program} {ms : List String} {t : Tr AFn} {l : List (Nat × AFn)} (ht : mkT l = t) (h : All (FnFact P ms) l) :
    ∀ (f : FuncId) (g : AFn), t.get (tp f) = some g → ∃ fn, P.funcs[f]? = some fn ∧ cFn P ms fn = some g := by
  subst ht
  exact fun f g e => h.mem _ (mkT_get e)

theorem prims_of {P : Program} {t : Tr Prim} {l : List (Nat × Prim)} (ht : mkT l = t) (h : All (fun x => PrimOK P x.1 x.2) l) :
    ∀ (f : FuncId) (p : Prim), t.get (tp f) = some p → PrimOK P f p := by
  subst ht
  exact fun f p e => h.mem _ (mkT_get e)

/-- nothing known -/
def noMu : Mu := fun _ => none
def noAH : AH := ⟨.one, .lf⟩

theorem noRel (w : World) : Rel noMu noAH w := by
  refine ⟨fun b _ => ?_, fun b p e => by simp [noMu] at e, fun b x p e f => by simp [noMu] at f, fun b x p c y q e1 e2 e3 => by simp [noMu] at e3⟩
  exact Tr.get_lf b

theorem noStep {μ' : Mu} {σ' : AH} {w w' : World} (h : Step noMu noAH w μ' σ' w') : Below w.heap.size w w' :=
  ⟨h.fr.os, h.fr.tape, h.fr.output, h.fr.size, fun i hi => h.fr.keep i hi (by rintro ⟨b, x, p, _, _, h3, _⟩; simp [noMu] at h3)⟩

theorem below_step {μ : Mu} {σ : AH} {w w' : World} (hR : Rel μ σ w) (h : Below w.heap.size w w') : Step μ σ w μ σ w' := by
  refine ⟨Mu.le_refl μ, ⟨hR.fresh, ?_, ?_, hR.inj⟩, ⟨h.os, h.tape, h.output, h.size, fun i hi _ => h.block i hi, fun _ _ h => h, Nat.le_refl _, fun _ _ h => h, fun _ _ h => h⟩, fun _ _ => rfl⟩
  · intro b p e
    have := hR.dom b p e
    exact ⟨this.1, Nat.lt_of_lt_of_le this.2 h.size⟩
  · intro b x p e f
    exact (hR.blk b x p e f).heap (h.block _ (hR.dom b p f).2)

/-- does a closed call answer true? -/
def saysTrue : Option (Out × AH) → Bool
  | some (.val (.bool true), _) => true
  | _ => false

theorem closed_calls {P : Program} {call : Call} (hC : CallOK P call) {f : FuncId} (h : saysTrue (call (tp f) [] noAH) = true) (w : World) :
    Ent P f ∧ Calls P f #[] w fun e w' => e = .returned (.bool true) ∧ Below w.heap.size w w' := by
  have : ∃ σ', call (tp f) [] noAH = some (.val (.bool true), σ') := by
    unfold saysTrue at h
    split at h
    · rename_i σ' e; exact ⟨σ', e⟩
    · cases h
  obtain ⟨σ', hc⟩ := this
  obtain ⟨h1, h2⟩ := hC f [] noAH _ σ' hc
  refine ⟨h1, (h2 noMu w #[] (noRel w) rfl).mono ?_⟩
  rintro e w' ⟨μ', hst, v, rfl, hv⟩
  simp only [RV] at hv
  subst hv
  exact ⟨rfl, noStep hst⟩

/-- a function without arguments that answers true and leaves what there was alone -/
def trueP : Prim := fun _ args σ =>
  match args with
  | [] => some (.val (.bool true), σ)
  | _ => none

theorem closed_prim {P : Program} {call : Call} (hC : CallOK P call) {f : FuncId} (h : saysTrue (call (tp f) [] noAH) = true) : PrimOK P f trueP := by
  intro _ _ args σ out σ' e
  unfold trueP at e
  split at e
  · cases e
    refine ⟨(closed_calls hC h default).1, fun μ w cargs hR hargs => ?_⟩
    simp only [RVs] at hargs
    have : cargs = #[] := Array.ext' hargs
    subst this
    refine ((closed_calls hC h w).2).mono ?_
    rintro e w' ⟨rfl, hb⟩
    exact ⟨μ, below_step hR hb, _, rfl, rfl⟩
  · cases e

end Go.Proofs.YtgaoddafkjdecaaGreat.EV
