/-
  EV: a closed run: engrosslaw14.begun. Own work of this claim.
-/
import Derived.Test.YtgaoddafkjdecaaGreatEvX7
import Derived.Test.YtgaoddafkjdecaaGreatEvT1
import Derived.Test.YtgaoddafkjdecaaGreatEvT2
set_option linter.unusedVariables false
namespace Go.Proofs.YtgaoddafkjdecaaGreat.EV
open Go.Proofs
noncomputable def primsL0 : List (Nat × Prim) := [(150, cmpP), (63, (tryP 170)), (59, (sortedQ q99)), (60, (keysQ q99)), (122, insQ)]
noncomputable def primsT0 : Tr Prim := (.nd none (.nd none (.nd none (.nd none (.nd none (.nd none (.nd (some (tryP 170)) .lf .lf) .lf) .lf) .lf) (.nd none .lf (.nd none .lf (.nd (some (sortedQ q99)) .lf .lf)))) .lf) (.nd none (.nd none .lf (.nd none .lf (.nd none .lf (.nd (some (keysQ q99)) .lf .lf)))) (.nd none (.nd none .lf (.nd none .lf (.nd none .lf (.nd (some insQ) .lf .lf)))) (.nd none (.nd none .lf (.nd none (.nd none (.nd (some cmpP) .lf .lf) .lf) .lf)) .lf))))
theorem primsT0_eq : mkT primsL0 = primsT0 := by kernel_rfl
noncomputable def book0 : Book := ⟨tblT, fnsT, primsT0⟩
theorem book0_ok : BookOK Tryz.prog ["Page"] book0 where
  mixed := tryz_mixed
  disp := tblT_ok
  prims := prims_of primsT0_eq (.cons cmp_ok (.cons try_ok (.cons sorted_ok (.cons keys_ok (.cons ins_ok .nil)))))
  fns := fns_of fnsT_eq fnsL_ok
theorem run68_true : saysTrue (book0.call 300 60 q68 [] noAH) = true := by kernel_rfl
theorem run68_ok : PrimOK Tryz.prog 68 trueP := closed_prim (book_sound book0_ok 300 60) run68_true

end Go.Proofs.YtgaoddafkjdecaaGreat.EV
