/-
  EV: a closed run: engrosslaw22.ViewNone. Own work of this claim.
-/
import Derived.Test.YtgaoddafkjdecaaGreatEvR3
set_option linter.unusedVariables false
namespace Go.Proofs.YtgaoddafkjdecaaGreat.EV
open Go.Proofs
noncomputable def primsL3 : List (Nat × Prim) := [(150, cmpP), (63, (tryP 170)), (59, (sortedQ q99)), (60, (keysQ q99)), (122, insQ), (68, trueP), (8, trueP), (19, trueP)]
noncomputable def primsT3 : Tr Prim := (.nd none (.nd none (.nd none (.nd none (.nd none (.nd none (.nd (some (tryP 170)) .lf .lf) .lf) .lf) .lf) (.nd none (.nd (some trueP) .lf .lf) (.nd none .lf (.nd (some (sortedQ q99)) .lf .lf)))) .lf) (.nd none (.nd none (.nd (some trueP) .lf .lf) (.nd none (.nd none (.nd none (.nd (some trueP) .lf .lf) .lf) .lf) (.nd none .lf (.nd (some (keysQ q99)) .lf .lf)))) (.nd none (.nd none .lf (.nd none .lf (.nd none .lf (.nd (some insQ) .lf .lf)))) (.nd none (.nd none .lf (.nd none (.nd none (.nd (some cmpP) .lf .lf) .lf) .lf)) .lf))))
theorem primsT3_eq : mkT primsL3 = primsT3 := by kernel_rfl
noncomputable def book3 : Book := ⟨tblT, fnsT, primsT3⟩
theorem book3_ok : BookOK Tryz.prog ["Page"] book3 where
  mixed := tryz_mixed
  disp := tblT_ok
  prims := prims_of primsT3_eq (.cons cmp_ok (.cons try_ok (.cons sorted_ok (.cons keys_ok (.cons ins_ok (.cons run68_ok (.cons run8_ok (.cons run19_ok .nil))))))))
  fns := fns_of fnsT_eq fnsL_ok
theorem run5_true : saysTrue (book3.call 300 60 q5 [] noAH) = true := by kernel_rfl
theorem run5_ok : PrimOK Tryz.prog 5 trueP := closed_prim (book_sound book3_ok 300 60) run5_true

end Go.Proofs.YtgaoddafkjdecaaGreat.EV
