/-
  EV, part S23: code that is run in part by the evaluator, in part by hand; a call seen from a part of the memory. Own work of this claim.
-/
import Derived.Test.YtgaoddafkjdecaaGreatEvS22
set_option linter.unusedVariables false
set_option linter.unusedSimpArgs false
namespace Go.Proofs.YtgaoddafkjdecaaGreat.EV
open Go.RowKit

section
variable {P : Program} {ms : List String} {w : World} {μ : Mu} {σ σ' : AH} {nt : Nat} {ρ ρ' : Env} {a : Act} {ops : Array Oper} {o : Oper} {out : Out} {tbl : Disp} {call : Call}

/-- the first operations of a region -/
theorem evOps_sound2 (hC : CallOK P call) (hD : DispOK P ms tbl) {Q : Exit → Act → World → Prop} {rest : List Nat} : ∀ (l : List Oper) (rl : List ROp) (k : Nat)
    (μ : Mu) (σ : AH) (w : World) (ρ : Env) (a : Act),
    (∀ j, j < l.length → ops[k + j]? = l[j]?) → cOpers P ms ops nt l = some rl → evOps tbl call rl ρ σ = some (.norm, ρ', σ') → Rel μ σ w → RA μ nt ρ a →
    (∀ μ' a' w', Step μ σ w μ' σ' w' → RA μ' nt ρ' a' → wpOps P ops Q rest a' w') →
    wpOps P ops Q (List.range' k l.length ++ rest) a w
  | [], rl, k, μ, σ, w, ρ, a, hl, hc, hev, hR, hA, hQ => by
    simp [cOpers] at hc
    subst hc
    have hev : (AX.norm, ρ, σ) = (AX.norm, ρ', σ') := by simpa [evOps] using hev
    cases hev
    exact hQ _ _ _ (Step.refl hR) hA
  | o :: l, rl, k, μ, σ, w, ρ, a, hl, hc, hev, hR, hA, hQ => by
    simp only [cOpers] at hc
    split at hc
    · rename_i r rs h1 h2
      cases hc
      rw [evOps_cons] at hev
      have hi : ops[k]? = some o := by simpa using hl 0 (by simp)
      have hl' : ∀ j, j < l.length → ops[k + 1 + j]? = l[j]? := by
        intro j hj
        have := hl (j + 1) (by simp; omega)
        rw [show k + 1 + j = k + (j + 1) by omega, this]
        simp
      obtain ⟨s1, s2, s3, s4⟩ := cOper_spec h1
      rw [List.length_cons, List.range'_succ, List.cons_append, wpOps_cons]
      split at hev
      · rename_i hw
        split at hev
        · rename_i v τ hop
          rw [setD_eq] at hev
          refine oper_sound hC hD hR hA hi h1 hw (fun _ => hop) (fun h => by cases h) ?_ (fun _ v e => by cases e)
          intro _ v1 e1 μ' w' v' hst hrv
          cases e1
          rw [s3] at hev
          refine evOps_sound2 hC hD l rs (k + 1) μ' τ w' _ _ hl' h2 hev hst.rel ((hA.mono hst.le).putD s4 hrv) ?_
          intro μ'' a' w'' hst2 hA2
          exact hQ _ _ _ (hst.trans hst2) hA2
        · simp at hev
        · cases hev
      · rename_i hw
        rw [setD_eq, s3] at hev
        refine oper_sound (out := .val unA) (σ' := σ) hC hD hR hA hi h1 hw (fun h => by cases h) ?_ (fun h => by cases h) (fun h => by cases h)
        intro _
        exact evOps_sound2 hC hD l rs (k + 1) μ σ w _ _ hl' h2 hev hR (hA.putD s4 (RV_unA μ)) hQ
      · cases hev
    · cases hc

/-- codes one after the other -/
noncomputable def evSeq (tbl : Disp) (call : Call) (rounds : Nat) : List ACode → Env → AH → Res
  | [], ρ, σ => some (.norm, ρ, σ)
  | c :: l, ρ, σ => match evCode tbl call rounds c ρ σ with
    | some (.norm, ρ, σ) => evSeq tbl call rounds l ρ σ
    | r => r

def seqs : List Code → Code → Code
  | [], d => d
  | c :: l, d => .seq c (seqs l d)

def cCodes (P : Program) (ms : List String) (nt : Nat) : List Code → Option (List ACode)
  | [] => some []
  | c :: l => match cCode P ms nt c, cCodes P ms nt l with
    | some a, some r => some (a :: r)
    | _, _ => none

theorem seqs_sound (hC : CallOK P call) (hD : DispOK P ms tbl) (hmo : P.follows .mixedOrders = true) {rounds : Nat} {d : Code} {Q : Exit → Act → World → Prop} {x : AX} :
    ∀ (cs : List Code) (acs : List ACode) (μ : Mu) (σ : AH) (w : World) (ρ : Env) (a : Act), cCodes P ms nt cs = some acs →
    evSeq tbl call rounds acs ρ σ = some (x, ρ', σ') → Rel μ σ w → RA μ nt ρ a →
    (x = .norm → ∀ μ' a' w', Step μ σ w μ' σ' w' → RA μ' nt ρ' a' → d.wp P Q a' w') →
    (x ≠ .norm → ∀ e a' w', Fin nt μ σ w x ρ' σ' e a' w' → Q e a' w') → (seqs cs d).wp P Q a w
  | [], acs, μ, σ, w, ρ, a, hc, hev, hR, hA, hn, hx => by
    simp only [cCodes, Option.some.injEq] at hc
    subst hc
    simp only [evSeq, Option.some.injEq, Prod.mk.injEq] at hev
    obtain ⟨rfl, rfl, rfl⟩ := hev
    exact hn rfl _ _ _ (Step.refl hR) hA
  | c :: cs, acs, μ, σ, w, ρ, a, hc, hev, hR, hA, hn, hx => by
    simp only [cCodes] at hc
    split at hc
    · rename_i ac r h1 h2
      cases hc
      simp only [evSeq] at hev
      simp only [seqs]
      refine wp_seq ?_
      split at hev
      · rename_i ρ1 σ1 hev1
        refine wp_mono (code_sound hC hD hmo c ac h1 μ σ w ρ a _ _ _ hev1 hR hA) ?_
        rintro e a1 w1 ⟨μ1, hst, hA1, hxe⟩
        simp only [RelX] at hxe
        subst hxe
        refine seqs_sound hC hD hmo cs r μ1 σ1 w1 ρ1 a1 h2 hev hst.rel hA1 (fun e μ' a' w' hs ha => hn e μ' a' w' (hst.trans hs) ha) ?_
        intro hne e a' w' hf
        exact hx hne e a' w' (hf.trans hst)
      · rename_i hne
        refine wp_mono (code_sound hC hD hmo c ac h1 μ σ w ρ a _ _ _ hev hR hA) ?_
        intro e a1 w1 hf
        have hxn : x ≠ .norm := by rintro rfl; exact hne _ _ hev
        obtain ⟨μ1, hst, hA1, hxe⟩ := id hf
        have := hx hxn e a1 w1 hf
        cases x with
        | norm => exact absurd rfl hxn
        | exit id => simp only [RelX] at hxe; subst hxe; exact this
        | ret => simp only [RelX] at hxe; subst hxe; exact this
        | pan v => simp only [RelX] at hxe; obtain ⟨v', rfl, hv⟩ := hxe; exact this
    · cases hc

end
/-- a value that leads to no block -/
def AV.flat : AV → Bool
  | .bool _ | .int _ _ | .flt _ | .str _ | .nilp | .nils | .nilm | .nilf | .nili | .junk => true
  | _ => false

theorem RV.flat {μ ν : Mu} {x : AV} {v : Value} (hf : x.flat = true) (h : RV μ x v) : RV ν x v := by
  cases x <;> first | (cases hf; done) | exact h

theorem sub_step {μ μs μs' : Mu} {σ σs σs' : AH} {w w' : World} (hR : Rel μ σ w) {b : Pos} {x : AB} {p : Plc} (hb : σ.get b = some x) (hw : x.wr = true) (hp : μ b = some p)
    (hown : ∀ i, Own μs σs i → i = p.blk) (hst : Step μs σs w μs' σs' w') {r : Pos} {L : List AV} {q : Plc} (hr : σs'.get r = some (.cells false L)) (hq : μs' r = some q)
    (hL : ∀ a ∈ L, a.flat = true) : Step μ σ w (μ.up σ.nx q) ((σ.put b none).new (.cells false L)) w' := by
  have hn := hR.mu_nx
  have hle := Mu.le_up (p := q) hn
  have hroF : ∀ l, x ≠ .cells true l := by rintro l rfl; simp [AB.wr] at hw
  have hbn : b ≠ σ.nx := fun e => by subst e; rw [hR.fresh _ (Nat.le_refl _)] at hb; cases hb
  have hqs := (hst.rel.dom r q hq).2
  have hqp : q.blk < w.heap.size → q.blk = p.blk := fun h => hown _ (hst.fr.own _ h ⟨r, _, q, hr, rfl, hq, rfl⟩)
  have hkeep : ∀ i, i < w.heap.size → i ≠ p.blk → w'.heap[i]? = w.heap[i]? := fun i hi hne => hst.fr.keep i hi fun ho => hne (hown i ho)
  have hOwn : Own μ σ p.blk := ⟨b, x, p, hb, hw, hp, rfl⟩
  have hnp : ∀ c y pc, σ.get c = some y → μ c = some pc → c ≠ b → pc.blk ≠ p.blk := fun c y pc e f hc => (hR.inj b x p c y pc hb hw hp e f (Ne.symm hc)).symm
  have get : ∀ c, ((σ.put b none).new (.cells false L)).get c = if c = σ.nx then some (.cells false L) else if c = b then none else σ.get c := by
    intro c; rw [AH.get_new, AH.get_put]; rfl
  refine ⟨hle, ⟨?_, ?_, ?_, ?_⟩, ⟨hst.fr.os, hst.fr.tape, hst.fr.output, hst.fr.size, ?_, ?_, ?_, ?_, ?_⟩, fun c hc => by unfold Mu.up; rw [if_neg (fun e => by subst e; omega)]⟩
  · intro c hc
    rw [AH.nx_new, AH.nx_put, Pos.nat_succ] at hc
    rw [get, if_neg (fun e => by subst e; omega)]
    split
    · rfl
    · exact hR.fresh c (by omega)
  · intro c s e
    rw [AH.nx_new, AH.nx_put, Pos.nat_succ]
    unfold Mu.up at e
    split at e
    · rename_i hc; cases e; subst hc; omega
    · have := hR.dom c s e; have := hst.fr.size; omega
  · intro c y s e f
    rw [get] at e
    unfold Mu.up at f
    split at e
    · rename_i hc
      rw [if_pos hc] at f
      cases e; cases f
      obtain ⟨cc, ee, fr, h1, h2, h3, h4, h5⟩ := hst.rel.blk r _ q hr hq
      refine ⟨cc, ee, fr, h1, h2, h3, h4, fun i a hi => ?_⟩
      obtain ⟨v, hv, rv⟩ := h5 i a hi
      exact ⟨v, hv, rv.flat (hL a (List.mem_of_getElem? hi))⟩
    · rename_i hc
      rw [if_neg hc] at f
      split at e
      · cases e
      · rename_i hcb
        exact ((hR.blk c y s e f).mono hle).heap (hkeep _ (hR.dom c s f).2 (hnp c y s e f hcb))
  · intro c y s d z t e1 e2 e3 e4 e5 hne
    rw [get] at e1 e4
    unfold Mu.up at e3 e5
    by_cases hc : c = σ.nx
    · have hd : d ≠ σ.nx := fun e => hne (hc.trans e.symm)
      rw [if_pos hc] at e3
      rw [if_neg hd] at e5 e4
      cases e3
      split at e4
      · cases e4
      · rename_i hdb
        intro heq
        have hlt := (hR.dom d t e5).2
        exact hnp d z t e4 e5 hdb (by rw [← heq]; exact hqp (by omega))
    · rw [if_neg hc] at e1 e3
      split at e1
      · cases e1
      · rename_i hcb
        by_cases hd : d = σ.nx
        · rw [if_pos hd] at e5
          cases e5
          intro heq
          have hlt := (hR.dom c s e3).2
          exact hnp c y s e1 e3 hcb (by rw [heq]; exact hqp (by omega))
        · rw [if_neg hd] at e4 e5
          split at e4
          · cases e4
          · exact hR.inj c y s d z t e1 e2 e3 e4 e5 hne
  · intro i hi ho
    exact hkeep i hi fun e => ho (e ▸ hOwn)
  · rintro i hi ⟨c, y, s, e1, e2, e3, e4⟩
    rw [get] at e1
    unfold Mu.up at e3
    by_cases hc : c = σ.nx
    · rw [if_pos hc] at e3
      cases e3
      rw [← e4, hqp (by omega)]
      exact hOwn
    · rw [if_neg hc] at e1 e3
      split at e1
      · cases e1
      · exact ⟨c, y, s, e1, e2, e3, e4⟩
  · rw [AH.nx_new, AH.nx_put, Pos.nat_succ]; omega
  · intro c l e
    have hc1 : c ≠ σ.nx := fun hc => by subst hc; rw [hR.fresh _ (Nat.le_refl _)] at e; cases e
    have hc2 : c ≠ b := fun hc => by subst hc; rw [hb] at e; cases e; exact hroF l rfl
    rw [get, if_neg hc1, if_neg hc2]
    exact e
  · intro c l e
    rw [get] at e
    split at e
    · cases e
    · split at e
      · cases e
      · exact e

end Go.Proofs.YtgaoddafkjdecaaGreat.EV
