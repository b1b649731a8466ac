/-
  EV: a closed run: engrosslaw22.begun. Own work of this claim.
-/
import Derived.Test.YtgaoddafkjdecaaGreatEvR2
set_option linter.unusedVariables false
namespace Go.Proofs.YtgaoddafkjdecaaGreat.EV
open Go.Proofs
noncomputable def primsL2 : List (Nat × Prim) := [(150, cmpP), (63, (tryP 170)), (59, (sortedQ q99)), (60, (keysQ q99)), (122, insQ), (68, trueP), (8, trueP)]
noncomputable def primsT2 : Tr Prim := (.nd none (.nd none (.nd none (.nd none (.nd none (.nd none (.nd (some (tryP 170)) .lf .lf) .lf) .lf) .lf) (.nd none .lf (.nd none .lf (.nd (some (sortedQ q99)) .lf .lf)))) .lf) (.nd none (.nd none (.nd (some trueP) .lf .lf) (.nd none (.nd none (.nd none (.nd (some trueP) .lf .lf) .lf) .lf) (.nd none .lf (.nd (some (keysQ q99)) .lf .lf)))) (.nd none (.nd none .lf (.nd none .lf (.nd none .lf (.nd (some insQ) .lf .lf)))) (.nd none (.nd none .lf (.nd none (.nd none (.nd (some cmpP) .lf .lf) .lf) .lf)) .lf))))
theorem primsT2_eq : mkT primsL2 = primsT2 := by kernel_rfl
noncomputable def book2 : Book := ⟨tblT, fnsT, primsT2⟩
theorem book2_ok : BookOK Tryz.prog ["Page"] book2 where
  mixed := tryz_mixed
  disp := tblT_ok
  prims := prims_of primsT2_eq (.cons cmp_ok (.cons try_ok (.cons sorted_ok (.cons keys_ok (.cons ins_ok (.cons run68_ok (.cons run8_ok .nil)))))))
  fns := fns_of fnsT_eq fnsL_ok
theorem run19_true : saysTrue (book2.call 300 60 q19 [] noAH) = true := by kernel_rfl
theorem run19_ok : PrimOK Tryz.prog 19 trueP := closed_prim (book_sound book2_ok 300 60) run19_true

end Go.Proofs.YtgaoddafkjdecaaGreat.EV
