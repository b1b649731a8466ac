/-
  EV, part P: the answers of the functions that the evaluator does not run itself (what they answer; that they do so stands elsewhere). Own work of this claim.
-/
import Derived.Test.YtgaoddafkjdecaaGreatEvA
namespace Go.Proofs.YtgaoddafkjdecaaGreat.EV

noncomputable section

/-- guard.Try: ft is the type of what breaks, a struct of one number -/
def tryP (ft : Nat) : Prim := fun call args σ =>
  match args with
  | [.nilf] => some (.val (.int .i64 0), σ)
  | [.clo g a c] => match call g (a ++ c) σ with
    | some (.val _, σ) => some (.val (.int .i64 0), σ)
    | some (.pan (.ifc t (.agg [.int .i64 e])), σ) => bif Nat.beq t ft then some (.val (.int .i64 e), σ) else none
    | _ => none
  | _ => none

/-- strings.Compare -/
def cmpP : Prim := fun _ args σ =>
  match args with
  | [.str a, .str b] => some (.val (.int .i64 (bif lless a b then -1 else bif leqN a b then 0 else 1)), σ)
  | _ => none

def insI (x : Int) : List Int → List Int
  | [] => [x]
  | y :: l => bif ilt y x then y :: insI x l else x :: y :: l

def keysI : List (AV × AV) → Option (List Int)
  | [] => some []
  | (.int .i64 n, _) :: l => match keysI l with
    | some r => some (insI n r)
    | none => none
  | _ => none

def intsOf : List Int → List AV
  | [] => []
  | n :: l => .int .i64 n :: intsOf l

/-- slices.Sorted of maps.Keys (the closure g) of a map of ints -/
def sortedP (g : Pos) : Prim := fun _ args σ =>
  match args with
  | [.clo f [] [.ptr b o]] => bif f == g then
      (match σ.load b o 1 with
      | some [.nilm] => some (.val .nils, σ)
      | some [.map m] => match σ.get m with
        | some (.mp es) => match keysI es with
          | some [] => some (.val .nils, σ)
          | some ks => bif small ks.length 8 then newOpen 1 ks.length (intsOf ks) σ else none
          | none => none
        | _ => none
      | _ => none) else none
  | _ => none

/-- slices.Insert at elements of sz cells, bytes bytes -/
def insertP (sz bytes : Nat) : Prim := fun _ args σ =>
  match args with
  | [s, .int .i64 (.ofNat i), v] =>
    match lenOf s, lenOf v with
    | some n, some m => bif Nat.ble i n && small (n + m) bytes then
        bif Nat.beq m 0 then val s σ else
        (match srcCells σ sz n s, srcCells σ sz m v with
        | some cs, some vs =>
          (match ltake (i * sz) cs with
          | some h =>
            (match s with
            | .nils => newOpen sz m vs σ
            | .slc b _ _ _ => σ.setK b none fun σ => newOpen sz (n + m) (h ++ (vs ++ ldrop (i * sz) cs)) σ
            | _ => none)
          | none => none)
        | _, _ => none) else none
    | _, _ => none
  | _ => none

end
end Go.Proofs.YtgaoddafkjdecaaGreat.EV
