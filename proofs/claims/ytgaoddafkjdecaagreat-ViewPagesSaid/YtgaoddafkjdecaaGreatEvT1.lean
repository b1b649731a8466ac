/-
  EV, part T1: summaries of library functions of this program: comparing texts. Own work of this claim.
-/
import Derived.Test.YtgaoddafkjdecaaGreatEvS21
import Derived.Test.YtgaoddafkjdecaaGreatEvP
import Derived.Test.YtgaoddafkjdecaaGreatProg
import Derived.Lib.Strings
import Derived.Lib.Slices
import Derived.Lib.Walk
import Derived.Lib.Bytealg
import Derived.WalkKit
set_option linter.unusedVariables false
set_option linter.unusedSimpArgs false
namespace Go.Proofs.YtgaoddafkjdecaaGreat.EV
open Go.Proofs

set_option maxHeartbeats 1000000 in
set_option maxRecDepth 100000 in
theorem compareString (a b : ByteArray) (w : World) :
    Calls Tryz.prog 150 #[.string a, .string b] w fun e w' => e = .returned (.int .i64 (Lib.compareBytes a.data.toList b.data.toList)) ∧ w' = w := by
  go_enter Tryz.func150, Tryz.ntmps150
  go_wp2
  rw [run_callFunc_extern Tryz.func178 (by kernel_rfl) (by kernel_rfl) (by kernel_rfl) (e := Extern.BytealgCompare.compare) (by kernel_rfl), Lib.run_compareString]
  simp only [Result.andThen]
  rw [Oper.upon_value]
  go_wp2
  go_ret
  exact ⟨rfl, rfl⟩

theorem cmp_eq : ∀ (a b : List UInt8), (bif lless (a.map (·.toNat)) (b.map (·.toNat)) then (-1 : Int) else bif leqN (a.map (·.toNat)) (b.map (·.toNat)) then 0 else 1) = Lib.compareBytes a b
  | [], [] => rfl
  | [], _ :: _ => rfl
  | _ :: _, [] => rfl
  | a :: x, b :: y => by
    simp only [List.map_cons, lless, leqN, Lib.compareBytes]
    rw [← cmp_eq x y]
    have h1 : (a < b) = (a.toNat < b.toNat) := rfl
    have h2 : (b < a) = (b.toNat < a.toNat) := rfl
    simp only [h1, h2, cond_eq_ite]
    by_cases hlt : a.toNat < b.toNat
    · have : Nat.blt a.toNat b.toNat = true := by rw [Nat.blt_eq]; exact hlt
      simp [this, hlt]
    · have e1 : Nat.blt a.toNat b.toNat = false := by
        cases h : Nat.blt a.toNat b.toNat with
        | false => rfl
        | true => exact absurd (by rw [Nat.blt_eq] at h; exact h) hlt
      by_cases heq : a.toNat = b.toNat
      · simp [e1, heq]
      · have e2 : Nat.beq a.toNat b.toNat = false := by
          cases h : Nat.beq a.toNat b.toNat with
          | false => rfl
          | true => exact absurd (Nat.eq_of_beq_eq_true h) heq
        have hgt : b.toNat < a.toNat := by omega
        simp [e1, e2, hlt, hgt]

theorem cmp_ok : PrimOK Tryz.prog 150 cmpP := by
  intro call hC args σ out σ' h
  unfold cmpP at h
  split at h
  · rename_i x y
    cases h
    refine ⟨⟨_, Tryz.func150, by kernel_rfl, by kernel_rfl⟩, fun μ w cargs hR hargs => ?_⟩
    simp only [RVs, RV] at hargs
    obtain ⟨_, _, e1, ⟨s, rfl, rfl⟩, _, _, e2, ⟨t, rfl, rfl⟩, e3⟩ := hargs
    have hc : cargs = #[.string s, .string t] := Array.ext' (by rw [e1, e2, e3])
    subst hc
    refine (compareString s t w).mono ?_
    rintro e w' ⟨rfl, rfl⟩
    refine ⟨μ, Step.refl hR, _, rfl, ?_⟩
    simp only [RV]
    rw [cmp_eq]
  · cases h

end Go.Proofs.YtgaoddafkjdecaaGreat.EV
