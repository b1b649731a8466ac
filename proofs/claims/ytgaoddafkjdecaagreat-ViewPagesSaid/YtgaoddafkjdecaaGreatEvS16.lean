/-
  EV, part S16: the operations of a region, in the text's order. Own work of this claim.
-/
import Derived.Test.YtgaoddafkjdecaaGreatEvS15
set_option linter.unusedVariables false
set_option linter.unusedSimpArgs false
namespace Go.Proofs.YtgaoddafkjdecaaGreat.EV

/-- how a piece of code ends -/
def RelX (μ : Mu) : AX → Exit → Prop
  | .norm, e => e = .normal
  | .exit id, e => e = .exit id
  | .ret, e => e = .ret
  | .pan v, e => ∃ v', e = .panic [{ v := v', recovered := false }] ∧ RV μ v v'

/-- the end that the evaluator tells -/
def Fin (nt : Nat) (μ : Mu) (σ : AH) (w : World) (x : AX) (ρ' : Env) (σ' : AH) (e : Exit) (a' : Act) (w' : World) : Prop :=
  ∃ μ', Step μ σ w μ' σ' w' ∧ RA μ' nt ρ' a' ∧ RelX μ' x e

noncomputable def eput (ρ : Env) (d : Option Pos) (v : AV) : Env :=
  match d with
  | some p => ρ.set (some v) p
  | none => ρ

theorem setD_eq {β : Type} (ρ : Env) (d : Option Pos) (v : AV) (k : Env → β) : setD ρ d v k = k (eput ρ d v) := by
  cases d with
  | none => rfl
  | some p => simp [setD, eput, Tr.setK_eq]

section
variable {P : Program} {ms : List String} {w : World} {μ : Mu} {σ σ' : AH} {nt : Nat} {ρ ρ' : Env} {a : Act} {ops : Array Oper} {o : Oper} {out : Out} {tbl : Disp} {call : Call}

theorem RA.putD (h : RA μ nt ρ a) {d : Option Nat} (hd : ∀ t, d = some t → t < nt) {x : AV} {v : Value} (r : RV μ x v) :
    RA μ nt (eput ρ (d.map tp) x) (a.put d v) := by
  cases d with
  | none => exact h
  | some t => exact h.put (hd t rfl) r

theorem cOper_spec {r : ROp} (h : cOper P ms ops nt o = some r) :
    cOp P ms o.op = some r.op ∧ cGuard ops nt o.guard = some r.guard ∧ r.dst = o.dst.map tp ∧ ∀ t, o.dst = some t → t < nt := by
  unfold cOper at h
  split at h
  · rename_i x g h1 h2
    split at h
    · rename_i hd
      cases h
      exact ⟨h1, h2, by simp [hd], by simp [hd]⟩
    · rename_i d hd
      simp only [cond_eq_ite] at h
      split at h
      · rename_i hlt
        cases h
        refine ⟨h1, h2, by simp [hd], ?_⟩
        intro t ht
        rw [hd] at ht
        cases ht
        simpa using hlt
      · cases h
  · cases h

theorem wants_spec (hA : RA μ nt ρ a) {g : Option (Pos × Bool)} (hg : cGuard ops nt o.guard = some g) {b : Bool} (hw : wants ρ g = some b) :
    Region.wanted o (yielded ops a.tmps) = b := by
  unfold Region.wanted
  cases hgo : o.guard with
  | none =>
    rw [hgo] at hg
    simp [cGuard] at hg
    subst hg
    simpa [wants] using hw
  | some jw =>
    obtain ⟨j, want⟩ := jw
    rw [hgo] at hg
    simp only [cGuard] at hg
    split at hg
    · rename_i d hd
      simp only [cond_eq_ite] at hg
      split at hg
      · rename_i hlt
        cases hg
        have hlt : d < nt := by simpa using hlt
        have hs : d < a.tmps.size := by rw [hA.size]; exact hlt
        have rd := hA.get d
        simp only [wants, AO.ev_tmp] at hw
        have hgd : a.tmps.getD d undef = a.tmps[d] := by simp [hs]
        have hy : yielded ops a.tmps j = match a.tmps[d] with | .bool b => some b | _ => none := by
          unfold yielded
          rw [hd]
          simp only [Option.bind_some, Array.getElem?_eq_getElem hs]
          generalize a.tmps[d] = z
          cases z <;> rfl
        rw [hgd] at rd
        split at hw
        · rename_i x hx
          rw [hx] at rd
          simp only [RV] at rd
          rw [rd] at hy
          simp only [hy]
          simpa using hw
        · rename_i hx
          rw [hx] at rd
          simp only [RV, RVs] at rd
          obtain ⟨vs, hv, _⟩ := rd
          rw [hv] at hy
          simp only [hy]
          simpa using hw
        · cases hw
      · cases hg
    · cases hg

/-- one operation of a region, wanted or not -/
theorem oper_sound (hC : CallOK P call) (hD : DispOK P ms tbl) (hR : Rel μ σ w) (hA : RA μ nt ρ a) {i : Nat} (hi : ops[i]? = some o) {r : ROp}
    (hc : cOper P ms ops nt o = some r) {b : Bool} (hw : wants ρ r.guard = some b) (hev : b = true → evOp tbl call ρ σ r.op = some (out, σ'))
    {K : Act → World → Prop} {Q : Exit → Act → World → Prop}
    (hF : b = false → K (a.put o.dst undef) w)
    (hK : b = true → ∀ v, out = .val v → ∀ μ' w' v', Step μ σ w μ' σ' w' → RV μ' v v' → K (a.put o.dst v') w')
    (hQ : b = true → ∀ v, out = .pan v → ∀ μ' w' v', Step μ σ w μ' σ' w' → RV μ' v v' → Q (.panic [{ v := v', recovered := false }]) a w') :
    wpOp P ops Q i K a w := by
  obtain ⟨h1, h2, h3, h4⟩ := cOper_spec hc
  have hwant := wants_spec hA h2 hw
  unfold wpOp
  simp only [hi, hwant]
  cases b with
  | false => simpa using hF rfl
  | true =>
    simp only [if_true]
    exact .inl (op_sound hC hD hR hA h1 (hev rfl) (hK rfl) (hQ rfl))

theorem evOps_cons (tbl : Disp) (call : Call) (r : ROp) (l : List ROp) (ρ : Env) (σ : AH) : evOps tbl call (r :: l) ρ σ =
    match wants ρ r.guard with
      | some true => match evOp tbl call ρ σ r.op with
        | some (.val v, σ) => setD ρ r.dst v fun ρ => evOps tbl call l ρ σ
        | some (.pan v, σ) => some (.pan v, ρ, σ)
        | none => none
      | some false => setD ρ r.dst unA fun ρ => evOps tbl call l ρ σ
      | none => none := rfl

theorem evOps_sound (hC : CallOK P call) (hD : DispOK P ms tbl) {x : AX} {Q : Exit → Act → World → Prop} : ∀ (l : List Oper) (rl : List ROp) (k : Nat)
    (μ : Mu) (σ : AH) (w : World) (ρ : Env) (a : Act),
    (∀ j, j < l.length → ops[k + j]? = l[j]?) → cOpers P ms ops nt l = some rl → evOps tbl call rl ρ σ = some (x, ρ', σ') → Rel μ σ w → RA μ nt ρ a →
    (∀ e a' w', Fin nt μ σ w x ρ' σ' e a' w' → Q e a' w') →
    wpOps P ops Q (List.range' k l.length) a w
  | [], rl, k, μ, σ, w, ρ, a, hl, hc, hev, hR, hA, hQ => by
    simp [cOpers] at hc
    subst hc
    have hev : (AX.norm, ρ, σ) = (x, ρ', σ') := by simpa [evOps] using hev
    cases hev
    exact hQ _ _ _ ⟨μ, Step.refl hR, hA, rfl⟩
  | o :: l, rl, k, μ, σ, w, ρ, a, hl, hc, hev, hR, hA, hQ => by
    simp only [cOpers] at hc
    split at hc
    · rename_i r rs h1 h2
      cases hc
      rw [evOps_cons] at hev
      have hi : ops[k]? = some o := by simpa using hl 0 (by simp)
      have hl' : ∀ j, j < l.length → ops[k + 1 + j]? = l[j]? := by
        intro j hj
        have := hl (j + 1) (by simp; omega)
        rw [show k + 1 + j = k + (j + 1) by omega, this]
        simp
      obtain ⟨s1, s2, s3, s4⟩ := cOper_spec h1
      rw [List.length_cons, List.range'_succ, wpOps_cons]
      split at hev
      · rename_i hw
        split at hev
        · rename_i v τ hop
          rw [setD_eq] at hev
          refine oper_sound hC hD hR hA hi h1 hw (fun _ => hop) (fun h => by cases h) ?_ (fun _ v e => by cases e)
          intro _ v1 e1 μ' w' v' hst hrv
          cases e1
          rw [s3] at hev
          refine evOps_sound hC hD l rs (k + 1) μ' τ w' _ _ hl' h2 hev hst.rel ((hA.mono hst.le).putD s4 hrv) ?_
          rintro e a' w'' ⟨μ'', hst2, hA2, hx⟩
          exact hQ _ _ _ ⟨μ'', hst.trans hst2, hA2, hx⟩
        · rename_i v τ hop
          simp only [Option.some.injEq, Prod.mk.injEq] at hev
          obtain ⟨rfl, rfl, rfl⟩ := hev
          refine oper_sound hC hD hR hA hi h1 hw (fun _ => hop) (fun h => by cases h) (fun _ v e => by cases e) ?_
          intro _ v1 e1 μ' w' v' hst hrv
          cases e1
          exact hQ _ _ _ ⟨μ', hst, hA.mono hst.le, _, rfl, hrv⟩
        · cases hev
      · rename_i hw
        rw [setD_eq, s3] at hev
        refine oper_sound (out := .val unA) (σ' := σ) hC hD hR hA hi h1 hw (fun h => by cases h) ?_ (fun h => by cases h) (fun h => by cases h)
        intro _
        exact evOps_sound hC hD l rs (k + 1) μ σ w _ _ hl' h2 hev hR (hA.putD s4 (RV_unA μ)) hQ
      · cases hev
    · cases hc

theorem region_sound (hC : CallOK P call) (hD : DispOK P ms tbl) {x : AX} {rl : List ROp} {id : Nat}
    (hc : cOpers P ms ops nt ops.toList = some rl) (hev : evOps tbl call rl ρ σ = some (x, ρ', σ')) (hR : Rel μ σ w) (hA : RA μ nt ρ a) :
    (Code.region id ops false).wp P (Fin nt μ σ w x ρ' σ') a w := by
  refine wp_region ?_
  have := evOps_sound (Q := Fin nt μ σ w x ρ' σ') hC hD ops.toList rl 0 μ σ w ρ a (fun j _ => by simp) hc hev hR hA (fun _ _ _ h => h)
  rw [List.range_eq_range']
  simpa using this

end
end Go.Proofs.YtgaoddafkjdecaaGreat.EV
