/-
  EV, part K: functions are compiled. Own work of this claim; generic over programs.
-/
import Derived.Test.YtgaoddafkjdecaaGreatEvD
set_option linter.unusedVariables false
namespace Go.Proofs.YtgaoddafkjdecaaGreat.EV

def stageOf : List Nat → Nat → Nat → List Nat → Nat
  | [], _, best, _ => best
  | e :: es, k, best, r => stageOf es (k + 1) (bif memN e r then k + 1 else best) r

def loudIx : Nat → List ROp → List Nat
  | _, [] => []
  | i, r :: l => bif r.op.loud then i :: loudIx (i + 1) l else loudIx (i + 1) l

/-- operations without effect: place, stage, whether they are to be looked at again -/
def quietIx (tab : List (List Nat)) (effs : List Nat) : Nat → List ROp → List (Nat × Nat × Bool)
  | _, [] => []
  | i, r :: l => bif r.op.loud then quietIx tab effs (i + 1) l else (i, stageOf effs 0 0 (tab.getD i []), r.op.reads || r.op.madeBy) :: quietIx tab effs (i + 1) l

def runsAt (s : Nat) : List (Nat × Nat × Bool) → List Nat
  | [] => []
  | (i, t, _) :: l => bif Nat.beq t s then i :: runsAt s l else runsAt s l

def chksAt (s : Nat) (re : List Nat) : List (Nat × Nat × Bool) → List Nat
  | [] => []
  | (i, t, b) :: l => bif Nat.blt t s && b && !memN i re then i :: chksAt s re l else chksAt s re l

def mkStages (tab : List (List Nat)) (q : List (Nat × Nat × Bool)) : Nat → Option Nat → List Nat → List Stage
  | s, prev, effs =>
    let chks := match prev with
      | none => []
      | some e => chksAt s (tab.getD e []) q
    match effs with
    | [] => [⟨chks, runsAt s q, none⟩]
    | e :: es => ⟨chks, runsAt s q, some e⟩ :: mkStages tab q (s + 1) (some e) es

def planOf (ops : Array Oper) (rl : List ROp) : List Stage :=
  let tab := reachTab (ops.toList.map predsOf) []
  let effs := loudIx 0 rl
  mkStages tab (quietIx tab effs 0 rl) 0 none effs

def cCode (P : Program) (ms : List String) (nt : Nat) : Code → Option ACode
  | .skip => some .skip
  | .region _ ops false => match cOpers P ms ops nt ops.toList with
    | some l => some (.region l)
    | none => none
  | .region _ ops true => match cOpers P ms ops nt ops.toList with
    | some l => bif planOk ops l (planOf ops l) then some (.drawn l (planOf ops l)) else none
    | none => none
  | .seq a b => match cCode P ms nt a, cCode P ms nt b with
    | some a, some b => some (.seq a b)
    | _, _ => none
  | .cond c a b => match cOpd c, cCode P ms nt a, cCode P ms nt b with
    | some c, some a, some b => some (.cond c a b)
    | _, _, _ => none
  | .block id b => match cCode P ms nt b with
    | some b => some (.block id b)
    | none => none
  | .loop b => match cCode P ms nt b with
    | some b => some (.loop b)
    | none => none
  | .exit id => some (.exit id)
  | .ret => some .ret
  | _ => none

def cRes (P : Program) : List ResultVar → Option (List RVar)
  | [] => some []
  | .tmp t :: l => match cRes P l with
    | some r => some (.tmp (tp t) :: r)
    | none => none
  | .cell a t :: l => match sizeT P t, isAggT P t, cRes P l with
    | some n, some g, some r => some (.cell (tp a) n g :: r)
    | _, _, _ => none

def cFn (P : Program) (ms : List String) (fn : Func) : Option AFn :=
  bif fn.name == "runtime.NumGoroutine" then none else
  match fn.body with
  | some c => match cCode P ms fn.ntmps c, cRes P fn.results.toList with
    | some b, some rs => bif Nat.ble (fn.params.size + fn.nfree) fn.ntmps then some ⟨fn.params.size + fn.nfree, rs, b⟩ else none
    | _, _ => none
  | none => none

end Go.Proofs.YtgaoddafkjdecaaGreat.EV
