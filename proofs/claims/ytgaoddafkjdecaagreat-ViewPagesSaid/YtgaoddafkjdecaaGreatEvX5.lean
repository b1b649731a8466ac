/-
  EV, part X5: the summary of slices.Insert (at cells) is sound. Own work of this claim.
-/
import Derived.Test.YtgaoddafkjdecaaGreatEvX4
import Derived.Test.YtgaoddafkjdecaaGreatEvT4
set_option linter.unusedVariables false
set_option linter.unusedSimpArgs false
namespace Go.Proofs.YtgaoddafkjdecaaGreat.EV
open Go.Proofs Go.RowKit

section
variable {μ μ1 : Mu} {σ σ1 : AH} {w w' : World} {b : Pos} {L : List AV} {p : Plc}

/-- what lies behind the cells that are known is there, whatever it is -/
theorem reveal (hR : Rel μ σ w) (hb : σ.get b = some (.cells false L)) (hp : μ b = some p) {k : Nat} (hk : L.length + k ≤ p.cap) :
    Rel μ (σ.put b (some (.cells false (L ++ List.replicate k .junk)))) w := by
  refine ⟨?_, hR.dom, ?_, ?_⟩
  · intro c hc
    rw [AH.get_put]
    split
    · rename_i e; subst e; have := hR.fresh _ hc; rw [hb] at this; cases this
    · exact hR.fresh c hc
  · intro c x q e f
    rw [AH.get_put] at e
    split at e
    · rename_i hc
      subst hc
      cases e
      rw [hp] at f; cases f
      obtain ⟨c, e, fr, h1, h2, h3, h4, h5⟩ := hR.blk _ _ _ hb hp
      refine ⟨c, e, fr, h1, h2, by simp; omega, h4, fun i a hi => ?_⟩
      by_cases hl : i < L.length
      · rw [List.getElem?_append_left hl] at hi
        exact h5 i a hi
      · rw [List.getElem?_append_right (by omega)] at hi
        have hm := List.mem_of_getElem? hi
        have hi2 := (List.getElem?_eq_some_iff.1 hi).1
        simp at hi2
        have := List.eq_of_mem_replicate hm
        subst this
        exact ⟨c[p.base + i]'(by omega), by simp, trivial⟩
    · exact hR.blk c x q e f
  · intro c x q d y r e1 e2 e3 e4 e5 hne
    rw [AH.get_put] at e1 e4
    have tr : ∀ {c x}, (if c = b then some (.cells false (L ++ List.replicate k .junk)) else σ.get c) = some x → x.wr = true → ∃ x', σ.get c = some x' ∧ x'.wr = true := by
      intro c x h hw
      split at h
      · rename_i hc; subst hc; exact ⟨_, hb, rfl⟩
      · exact ⟨x, h, hw⟩
    obtain ⟨x', a1, a2⟩ := tr e1 e2
    have : ∃ y', σ.get d = some y' := by
      split at e4
      · rename_i hc; subst hc; exact ⟨_, hb⟩
      · exact ⟨y, e4⟩
    obtain ⟨y', b1⟩ := this
    exact hR.inj c x' q d y' r a1 a2 e3 b1 e5 hne

theorem reveal_step {L' : List AV} (hb : σ.get b = some (.cells false L)) (hst : Step μ (σ.put b (some (.cells false L'))) w μ1 σ1 w') : Step μ σ w μ1 σ1 w' := by
  have ho : ∀ i, Own μ (σ.put b (some (.cells false L'))) i ↔ Own μ σ i := by
    intro i
    constructor
    · rintro ⟨c, x, q, e1, e2, e3, e4⟩
      rw [AH.get_put] at e1
      split at e1
      · rename_i hc; subst hc; exact ⟨_, _, q, hb, rfl, e3, e4⟩
      · exact ⟨c, x, q, e1, e2, e3, e4⟩
    · rintro ⟨c, x, q, e1, e2, e3, e4⟩
      by_cases hc : c = b
      · subst hc; exact ⟨_, _, q, AH.get_put_same _ _ _, rfl, e3, e4⟩
      · exact ⟨c, x, q, by rw [AH.get_put_ne _ _ hc]; exact e1, e2, e3, e4⟩
  refine ⟨hst.le, hst.rel, ⟨hst.fr.os, hst.fr.tape, hst.fr.output, hst.fr.size, fun i hi h => hst.fr.keep i hi fun h' => h ((ho i).1 h'), fun i hi h => (ho i).1 (hst.fr.own i hi h), hst.fr.nx, ?_, ?_⟩, hst.old⟩
  · intro c l e
    refine hst.fr.ro c l ?_
    rw [AH.get_put_ne _ _ (fun hc => by subst hc; rw [hb] at e; cases e)]
    exact e
  · intro c l e
    have := hst.fr.rob c l e
    rw [AH.get_put] at this
    split at this
    · cases this
    · exact this

/-- what a known block holds leads through old names -/
theorem old_vals (hR : Rel μ σ w) {ro : Bool} (hb : σ.get b = some (.cells ro L)) (hp : μ b = some p) : ∀ a ∈ L, ∃ v, RV μ a v := by
  intro a ha
  obtain ⟨i, hi⟩ := List.getElem?_of_mem ha
  obtain ⟨c, e, fr, h1, h2, h3, h4, h5⟩ := hR.blk _ _ _ hb hp
  obtain ⟨v, _, r⟩ := h5 i a hi
  exact ⟨v, r⟩
end

/-! ### Pieces of one size -/

def chunks (sz : Nat) : Nat → List AV → List (List AV)
  | 0, _ => []
  | n + 1, l => l.take sz :: chunks sz n (l.drop sz)

theorem chunks_len (sz : Nat) : ∀ n l, (chunks sz n l).length = n
  | 0, _ => rfl
  | n + 1, l => by simp [chunks, chunks_len sz n]
theorem chunks_sz {sz : Nat} : ∀ {n : Nat} {l : List AV}, n * sz ≤ l.length → ∀ e ∈ chunks sz n l, e.length = sz
  | 0, _, _, e, he => by simp [chunks] at he
  | n + 1, l, h, e, he => by
    rw [Nat.succ_mul] at h
    simp only [chunks, List.mem_cons] at he
    rcases he with rfl | he
    · simp; omega
    · exact chunks_sz (n := n) (by simp; omega) e he
theorem chunks_flat {sz : Nat} : ∀ {n : Nat} {l : List AV}, (chunks sz n l).flatten = l.take (n * sz)
  | 0, _ => by simp [chunks]
  | n + 1, l => by
    simp only [chunks, List.flatten_cons, chunks_flat (n := n)]
    rw [Nat.succ_mul, Nat.add_comm, ← List.take_add]

theorem okVals_sub {es : List (List AV)} (h : okVals es.flatten = true) : ∀ e ∈ es, okVals e = true := by
  induction es with
  | nil => simp
  | cons e es ih =>
    rw [List.flatten_cons, okVals_app, Bool.and_eq_true] at h
    intro x hx
    rcases List.mem_cons.1 hx with rfl | hx
    · exact h.1
    · exact ih h.2 x hx

/-- slices.Insert at cells: into a slice of unknown room -/
noncomputable def insQ : Prim := fun _ args σ =>
  match args with
  | [.nils, .int .i64 (.ofNat 0), .slc b2 o2 m c2] => match σ.load b2 o2 (m * 8) with
    | some vs => bif Nat.blt 0 m && small (0 + m) 88 then newOpen 8 m vs σ else none
    | none => none
  | [.slc b o n (.opn 8), .int .i64 (.ofNat i), .slc b2 o2 m c2] => match σ.get b, σ.load b2 o2 (m * 8) with
    | some (.cells false L), some vs => match ltake (n * 8) (ldrop o L) with
      | some cs => bif Nat.blt 0 m && Nat.ble i n && small (n + m) 88 && Nat.blt L.length (o + (n + m) * 8) && !(b == b2) && okVals cs && okVals vs then
          match ltake (i * 8) cs with
          | some h => σ.setK b none fun σ => newOpen 8 (n + m) (h ++ (vs ++ ldrop (i * 8) cs)) σ
          | none => none
        else none
      | none => none
    | _, _ => none
  | _ => none

theorem ins_acs : cCodes Tryz.prog ["Page"] 95 insPre = some inL := by kernel_rfl
theorem ins_acr : cCodes Tryz.prog ["Page"] 95 insRest = some inT := by kernel_rfl
theorem ins_r6 : cOpers Tryz.prog ["Page"] insOps 95 (insOps.toList.take 6) = some inR6 := by kernel_rfl
theorem ins_r1 : cOpers Tryz.prog ["Page"] insOps 95 (insOps.toList.drop 7) = some inR1 := by kernel_rfl

end Go.Proofs.YtgaoddafkjdecaaGreat.EV
