/-
  EV, part T3: the summary of slices.Insert at cells, at the one place where it is called. Own work of this claim.
-/
import Derived.Test.YtgaoddafkjdecaaGreatEvS23
import Derived.Test.YtgaoddafkjdecaaGreatEvB1
import Derived.Laws.Externs
set_option linter.unusedVariables false
set_option linter.unusedSimpArgs false
namespace Go.Proofs.YtgaoddafkjdecaaGreat.EV
open Go.Proofs Go.RowKit

def insA : List AV := [.str [98], .int .i64 (.ofNat 1), .flt 4611686018427387904, .str [], .int .i64 (.ofNat 0), .int .i64 (.ofNat 0), .flt 0, .str []]
def insV : List AV := [.str [97], .int .i64 (.ofNat 2), .flt 0, .str [120], .int .i64 (.ofNat 0), .int .i64 (.ofNat 0), .flt 0, .str []]
def insJ : List AV := [.junk, .junk, .junk, .junk, .junk, .junk, .junk, .junk]

noncomputable def insP : Prim := fun _ args σ =>
  match args with
  | [.slc b 0 1 (.opn 8), .int .i64 (.ofNat 0), .slc b2 0 1 (.known 1)] => match σ.get b, σ.get b2 with
    | some (.cells false l), some (.cells r m) => bif AV.beqs l insA && AV.beqs m insV then σ.setK b none fun σ => newOpen 8 2 (insV ++ insA) σ else none
    | _, _ => none
  | _ => none

def sFst : Code → Code
  | .seq a _ => a
  | c => c
def sSnd : Code → Code
  | .seq _ b => b
  | c => c
def rOps : Code → Array Oper
  | .region _ ops _ => ops
  | _ => #[]

noncomputable def insB0 : Code := Tryz.f122.body.getD .skip
noncomputable def insB1 : Code := sSnd insB0
noncomputable def insB2 : Code := sSnd insB1
noncomputable def insB3 : Code := sSnd insB2
noncomputable def insB4 : Code := sSnd insB3
noncomputable def insB5 : Code := sSnd insB4
noncomputable def insB6 : Code := sSnd insB5
noncomputable def insB7 : Code := sSnd insB6
noncomputable def insB8 : Code := sSnd insB7
noncomputable def insPre : List Code := [sFst insB0, sFst insB1, sFst insB2, sFst insB3, sFst insB4, sFst insB5, sFst insB6, sFst insB7]
noncomputable def insR14 : Code := sFst (sFst insB8)
noncomputable def insIf : Code := sSnd (sFst insB8)
noncomputable def insC0 : Code := sSnd insB8
noncomputable def insC1 : Code := sSnd insC0
noncomputable def insC2 : Code := sSnd insC1
noncomputable def insRest : List Code := [insIf, sFst insC0, sFst insC1, sFst insC2]
noncomputable def insOps : Array Oper := rOps insR14

theorem ins_body : Tryz.f122.body = some (seqs insPre (.seq (.seq (.region 14 insOps false) insIf) (seqs [sFst insC0, sFst insC1, sFst insC2] .ret))) := by kernel_rfl

noncomputable def insBook : Book := ⟨tblT, fnsT, .lf⟩
noncomputable def insCall : Call := insBook.call 60 20
noncomputable def insAcs : List ACode := (cCodes Tryz.prog ["Page"] 95 insPre).getD []
noncomputable def insAcr : List ACode := (cCodes Tryz.prog ["Page"] 95 insRest).getD []
noncomputable def insR6 : List ROp := (cOpers Tryz.prog ["Page"] insOps 95 (insOps.toList.take 6)).getD []
noncomputable def insR1 : List ROp := (cOpers Tryz.prog ["Page"] insOps 95 (insOps.toList.drop 7)).getD []

theorem insAcs_ok : (cCodes Tryz.prog ["Page"] 95 insPre).isSome = true := by kernel_rfl
theorem insAcr_ok : (cCodes Tryz.prog ["Page"] 95 insRest).isSome = true := by kernel_rfl
theorem insR6_ok : (cOpers Tryz.prog ["Page"] insOps 95 (insOps.toList.take 6)).isSome = true := by kernel_rfl
theorem insR1_ok : (cOpers Tryz.prog ["Page"] insOps 95 (insOps.toList.drop 7)).isSome = true := by kernel_rfl

/-- a part of the memory -/
noncomputable def insMem (l : List AV) : AH := ⟨.i .one, ((Tr.lf : Tr AB).set (some (.cells false l)) .one).set (some (.cells true insV)) (.o .one)⟩
noncomputable def insEnv (c : Nat) : Env := (((Tr.lf : Env).set (some (.slc .one 0 1 (.known c))) (tp 0)).set (some (.int .i64 (.ofNat 0))) (tp 1)).set (some (.slc (.o .one) 0 1 (.known 1))) (tp 2)

/-- up to the test of overlap -/
noncomputable def insUp (c : Nat) (l : List AV) : Res := evSeq tblT insCall 60 insAcs (insEnv c) (insMem l)
/-- behind it -/
noncomputable def insEnd (β : Bool) : Res → Res
  | some (.norm, ρ, σ) => match evOps tblT insCall insR6 ρ σ with
    | some (.norm, ρ, σ) => match evOps tblT insCall insR1 (ρ.set (some (.bool β)) (tp 67)) σ with
      | some (.norm, ρ, σ) => evSeq tblT insCall 60 insAcr ρ σ
      | _ => none
    | _ => none
  | _ => none

noncomputable def seen1 (r : Res) (rs : List RVar) (b : Pos) : Option (AX × Option (List AV) × Option AB) :=
  match r with
  | some (x, ρ, σ) => some (x, evRes ρ σ rs, σ.get b)
  | none => none

/-- no room: the answer is a new block -/
theorem ins_grow : seen1 (insUp 1 insA) [.tmp (tp 6)] (.i .one) = some (.ret, some [.slc (.i .one) 0 2 (.opn 8)], some (.cells false (insV ++ insA))) := by kernel_rfl
theorem ins_in0 (k : Nat) : seen1 (insEnd false (insUp (k + 2) (insA ++ insJ))) [.tmp (tp 6)] .one =
    some (.ret, some [.slc .one 0 2 (.known (k + 2))], some (.cells false (insV ++ insA))) := by kernel_rfl
theorem ins_in1 (k : Nat) : seen1 (insEnd true (insUp (k + 2) (insA ++ insJ))) [.tmp (tp 6)] .one =
    some (.norm, some [.slc .one 0 2 (.known (k + 2))], some (.cells false (insV ++ insA))) := by kernel_rfl

end Go.Proofs.YtgaoddafkjdecaaGreat.EV
