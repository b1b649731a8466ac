/-
  EV, part D: regions that draw their order: what a plan is looked at for. Own work of this claim.
-/
import Derived.Test.YtgaoddafkjdecaaGreatEvS17
set_option linter.unusedVariables false
set_option linter.unusedSimpArgs false
namespace Go.Proofs.YtgaoddafkjdecaaGreat.EV

def memN (a : Nat) : List Nat → Bool
  | [] => false
  | b :: l => bif Nat.beq a b then true else memN a l

theorem memN_iff {a : Nat} {l : List Nat} : memN a l = true ↔ a ∈ l := by
  induction l with
  | nil => simp [memN]
  | cons b l ih =>
    simp only [memN, cond_eq_ite, List.mem_cons]
    split
    · rename_i h; simp [Nat.eq_of_beq_eq_true h]
    · rename_i h
      rw [ih]
      constructor
      · exact .inr
      · rintro (rfl | h')
        · simp at h
        · exact h'

/-- what an operation waits for -/
def predsOf (o : Oper) : List Nat := (o.after.toList.filter (Region.binds .any)).map (·.on)

def addAll (xs acc : List Nat) : List Nat :=
  match xs with
  | [] => acc
  | x :: xs => addAll xs (bif memN x acc then acc else x :: acc)

def reachOf (tab : List (List Nat)) (ps acc : List Nat) : List Nat :=
  match ps with
  | [] => acc
  | p :: ps => reachOf tab ps (addAll (p :: tab.getD p []) acc)

/-- all that comes before -/
def reachTab : List (List Nat) → List (List Nat) → List (List Nat)
  | [], tab => tab
  | ps :: l, tab => reachTab l (tab ++ [reachOf tab ps []])

def widx (p : Pos) : Nat → List ROp → Option Nat
  | _, [] => none
  | i, r :: l => match r.dst with
    | some q => bif p == q then some i else widx p (i + 1) l
    | none => widx p (i + 1) l

def usesG : Option (Pos × Bool) → List Pos
  | none => []
  | some (p, _) => [p]

def ROp.uses (r : ROp) : List Pos := usesG r.guard ++ r.op.uses

section
variable (pl tab : List (List Nat)) (rl : List ROp)

/-- what an operation looks at is settled -/
def okUse (i : Nat) (dn : List Nat) (r : ROp) : Bool :=
  r.uses.all fun p => match widx p 0 rl with
    | none => true
    | some j => bif memN j dn then !Nat.beq j i && memN j (tab.getD i []) else Nat.beq j i || memN i (tab.getD j [])

def nodupD : Nat → List ROp → Bool
  | _, [] => true
  | j, r :: l => (match r.dst with
    | none => true
    | some p => match widx p 0 rl with
      | some k => Nat.beq k j
      | none => false) && nodupD (j + 1) l

def okPrev (prev : Option Nat) (i : Nat) : Bool :=
  match prev with
  | none => true
  | some e => memN e (tab.getD i [])

def okRun (prev : Option Nat) (dn : List Nat) (i : Nat) : Bool :=
  match rl[i]? with
  | some r => !r.op.loud && !memN i dn && okUse tab rl i dn r && (pl.getD i []).all (fun p => memN p dn) && okPrev tab prev i && (!r.op.madeBy || r.dst.isSome)
  | none => false

def okRuns (prev : Option Nat) : List Nat → List Nat → Option (List Nat)
  | dn, [] => some dn
  | dn, i :: l => bif okRun pl tab rl prev dn i then okRuns prev (i :: dn) l else none

def okChk (dn : List Nat) (i : Nat) : Bool :=
  match rl[i]? with
  | some r => !r.op.loud && memN i dn && okUse tab rl i dn r
  | none => false

def covered (prev : Option Nat) (chks : List Nat) (i : Nat) : Bool :=
  match rl[i]? with
  | some r => (!r.op.reads && !r.op.madeBy && !r.op.loud) || memN i chks || (match prev with
    | none => false
    | some e => Nat.beq i e || memN i (tab.getD e []))
  | none => false

def okEff (prev : Option Nat) (dn : List Nat) (e : Nat) : Bool :=
  match rl[e]? with
  | some r => !memN e dn && okUse tab rl e dn r && (pl.getD e []).all (fun p => memN p dn) && okPrev tab prev e && (!r.op.madeBy)
  | none => false

def okPlan : Option Nat → List Nat → List Stage → Bool
  | _, _, [] => false
  | prev, dn, s :: l =>
    s.chks.all (okChk tab rl dn) && dn.all (covered tab rl prev s.chks) && (match okRuns pl tab rl prev dn s.runs with
      | none => false
      | some dn => match s.eff with
        | none => l.isEmpty && (List.range rl.length).all (fun i => memN i dn)
        | some e => okEff pl tab rl prev dn e && okPlan (some e) (e :: dn) l)

end

def planOk (ops : Array Oper) (rl : List ROp) (plan : List Stage) : Bool :=
  let pl := ops.toList.map predsOf
  let tab := reachTab pl []
  nodupD rl 0 rl && okPlan pl tab rl none [] plan

end Go.Proofs.YtgaoddafkjdecaaGreat.EV
