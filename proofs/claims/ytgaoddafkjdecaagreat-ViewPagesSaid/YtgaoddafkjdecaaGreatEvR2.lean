/-
  EV: a closed run: engrosslaw15.begun. Own work of this claim.
-/
import Derived.Test.YtgaoddafkjdecaaGreatEvR1
set_option linter.unusedVariables false
namespace Go.Proofs.YtgaoddafkjdecaaGreat.EV
open Go.Proofs
noncomputable def primsL1 : List (Nat × Prim) := [(150, cmpP), (63, (tryP 170)), (59, (sortedQ q99)), (60, (keysQ q99)), (122, insQ), (68, trueP)]
noncomputable def primsT1 : Tr Prim := (.nd none (.nd none (.nd none (.nd none (.nd none (.nd none (.nd (some (tryP 170)) .lf .lf) .lf) .lf) .lf) (.nd none .lf (.nd none .lf (.nd (some (sortedQ q99)) .lf .lf)))) .lf) (.nd none (.nd none .lf (.nd none (.nd none (.nd none (.nd (some trueP) .lf .lf) .lf) .lf) (.nd none .lf (.nd (some (keysQ q99)) .lf .lf)))) (.nd none (.nd none .lf (.nd none .lf (.nd none .lf (.nd (some insQ) .lf .lf)))) (.nd none (.nd none .lf (.nd none (.nd none (.nd (some cmpP) .lf .lf) .lf) .lf)) .lf))))
theorem primsT1_eq : mkT primsL1 = primsT1 := by kernel_rfl
noncomputable def book1 : Book := ⟨tblT, fnsT, primsT1⟩
theorem book1_ok : BookOK Tryz.prog ["Page"] book1 where
  mixed := tryz_mixed
  disp := tblT_ok
  prims := prims_of primsT1_eq (.cons cmp_ok (.cons try_ok (.cons sorted_ok (.cons keys_ok (.cons ins_ok (.cons run68_ok .nil))))))
  fns := fns_of fnsT_eq fnsL_ok
theorem run8_true : saysTrue (book1.call 300 60 q8 [] noAH) = true := by kernel_rfl
theorem run8_ok : PrimOK Tryz.prog 8 trueP := closed_prim (book_sound book1_ok 300 60) run8_true

end Go.Proofs.YtgaoddafkjdecaaGreat.EV
