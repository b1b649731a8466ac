/-
  EV, part X1: what a step shows may be told with less: other names, fewer blocks. Own work of this claim.
-/
import Derived.Test.YtgaoddafkjdecaaGreatEvS23
set_option linter.unusedVariables false
set_option linter.unusedSimpArgs false
namespace Go.Proofs.YtgaoddafkjdecaaGreat.EV

mutual
/-- a value that the names of μ lead through means the same under all that grew out of μ -/
theorem RV.narrow {μ μ1 μ2 : Mu} (h1 : μ.le μ1) (h2 : μ.le μ2) : ∀ (a : AV) (v0 v : Value), RV μ a v0 → RV μ1 a v → RV μ2 a v
  | .bool _, _, _, _, r | .int _ _, _, _, _, r | .flt _, _, _, _, r | .str _, _, _, _, r | .nilp, _, _, _, r | .nils, _, _, _, r | .nilm, _, _, _, r | .nilf, _, _, _, r | .nili, _, _, _, r
  | .junk, _, _, _, r => r
  | .ptr _ _, _, _, r0, r => by
    simp only [RV] at r0 r ⊢
    obtain ⟨p, hp, _⟩ := r0
    obtain ⟨q, hq, e⟩ := r
    rw [h1 _ _ hp] at hq
    cases hq
    exact ⟨p, h2 _ _ hp, e⟩
  | .slc _ _ _ _, _, _, r0, r => by
    simp only [RV] at r0 r ⊢
    obtain ⟨p, hp, _⟩ := r0
    obtain ⟨q, hq, e⟩ := r
    rw [h1 _ _ hp] at hq
    cases hq
    exact ⟨p, h2 _ _ hp, e⟩
  | .map _, _, _, r0, r => by
    simp only [RV] at r0 r ⊢
    obtain ⟨p, hp, _⟩ := r0
    obtain ⟨q, hq, e⟩ := r
    rw [h1 _ _ hp] at hq
    cases hq
    exact ⟨p, h2 _ _ hp, e⟩
  | .box _, _, _, r0, r => by
    simp only [RV] at r0 r ⊢
    obtain ⟨p, hp, _⟩ := r0
    obtain ⟨q, hq, e⟩ := r
    rw [h1 _ _ hp] at hq
    cases hq
    exact ⟨p, h2 _ _ hp, e⟩
  | .clo _ a c, _, _, r0, r => by
    simp only [RV] at r0 r ⊢
    obtain ⟨_, va0, vc0, _, _, k1, k2⟩ := r0
    obtain ⟨n, va, vc, e1, e2, g1, g2⟩ := r
    exact ⟨n, va, vc, e1, e2, RVs.narrow h1 h2 a _ _ k1 g1, RVs.narrow h1 h2 c _ _ k2 g2⟩
  | .ifc _ x, _, _, r0, r => by
    simp only [RV] at r0 r ⊢
    obtain ⟨_, _, k⟩ := r0
    obtain ⟨y, e, g⟩ := r
    exact ⟨y, e, RV.narrow h1 h2 x _ _ k g⟩
  | .agg l, _, _, r0, r => by
    simp only [RV] at r0 r ⊢
    obtain ⟨_, _, k⟩ := r0
    obtain ⟨vs, e, g⟩ := r
    exact ⟨vs, e, RVs.narrow h1 h2 l _ _ k g⟩
  | .tup l, _, _, r0, r => by
    simp only [RV] at r0 r ⊢
    obtain ⟨_, _, k⟩ := r0
    obtain ⟨vs, e, g⟩ := r
    exact ⟨vs, e, RVs.narrow h1 h2 l _ _ k g⟩
theorem RVs.narrow {μ μ1 μ2 : Mu} (h1 : μ.le μ1) (h2 : μ.le μ2) : ∀ (l : List AV) (vs0 vs : List Value), RVs μ l vs0 → RVs μ1 l vs → RVs μ2 l vs
  | [], _, _, _, r => r
  | a :: l, _, _, r0, r => by
    simp only [RVs] at r0 r ⊢
    obtain ⟨v0, t0, _, k1, k2⟩ := r0
    obtain ⟨v, t, e, g1, g2⟩ := r
    exact ⟨v, t, e, RV.narrow h1 h2 a _ _ k1 g1, RVs.narrow h1 h2 l _ _ k2 g2⟩
end

theorem REs.narrow {μ μ1 μ2 : Mu} (h1 : μ.le μ1) (h2 : μ.le μ2) : ∀ {l : List (AV × AV)} {es0 es : List MapEntry}, REs μ l es0 → REs μ1 l es → REs μ2 l es
  | [], _, _, _, r => r
  | (k, v) :: l, _, _, r0, r => by
    simp only [REs] at r0 r ⊢
    obtain ⟨e0, t0, _, a1, a2, a3⟩ := r0
    obtain ⟨e, t, rfl, b1, b2, b3⟩ := r
    exact ⟨e, t, rfl, RV.narrow h1 h2 _ _ _ a1 b1, RV.narrow h1 h2 _ _ _ a2 b2, REs.narrow h1 h2 a3 b3⟩

theorem RB.narrow {μ μ1 μ2 : Mu} (h1 : μ.le μ1) (h2 : μ.le μ2) {w w' : World} {p p' : Plc} : ∀ {x : AB}, RB μ w p x → RB μ1 w' p' x → RB μ2 w' p' x
  | .cells _ _, ⟨c0, _, _, _, _, _, _, k⟩, ⟨c, e, fr, g1, g2, g3, g4, g5⟩ => ⟨c, e, fr, g1, g2, g3, g4, fun i a hi =>
      let ⟨v0, _, r0⟩ := k i a hi
      let ⟨v, hv, r⟩ := g5 i a hi
      ⟨v, hv, RV.narrow h1 h2 _ _ _ r0 r⟩⟩
  | .mp _, ⟨_, _, _, _, k⟩, ⟨ces, clk, g1, gb, g2⟩ => ⟨ces, clk, g1, gb, REs.narrow h1 h2 k g2⟩

section
variable {μ μ1 μ2 : Mu} {σ σ1 σ2 : AH} {w w' : World}

/-- a step, told with other names and fewer blocks -/
theorem weak_step (hR : Rel μ σ w) (hst : Step μ σ w μ1 σ1 w') (src : Pos → Pos)
    (hnx : σ.nx.nat ≤ σ2.nx.nat) (hfresh : ∀ b : Pos, σ2.nx.nat ≤ b.nat → σ2.get b = none)
    (hold : ∀ b : Pos, b.nat < σ.nx.nat → μ2 b = μ b)
    (hdom : ∀ c p, σ.nx.nat ≤ c.nat → μ2 c = some p → c.nat < σ2.nx.nat ∧ p.blk < w'.heap.size)
    (hget : ∀ c x p, σ2.get c = some x → μ2 c = some p → RB μ2 w' p x ∧ ∃ y q, σ1.get (src c) = some y ∧ μ1 (src c) = some q ∧ q.blk = p.blk ∧ (x.wr = true → y.wr = true))
    (hinj : ∀ c d x y, σ2.get c = some x → σ2.get d = some y → src c = src d → c = d)
    (hro : ∀ b l, σ.get b = some (.cells true l) → σ2.get b = some (.cells true l))
    (hrob : ∀ b l, σ2.get b = some (.cells true l) → σ.get b = some (.cells true l)) : Step μ σ w μ2 σ2 w' := by
  have hle : μ.le μ2 := fun b p e => by rw [hold b (hR.dom b p e).1]; exact e
  refine ⟨hle, ⟨hfresh, ?_, fun b x p e f => (hget b x p e f).1, ?_⟩, ⟨hst.fr.os, hst.fr.tape, hst.fr.output, hst.fr.size, hst.fr.keep, ?_, hnx, hro, hrob⟩, hold⟩
  · intro b p e
    rcases Nat.lt_or_ge b.nat σ.nx.nat with h | h
    · rw [hold b h] at e
      have := hR.dom b p e
      have := hst.fr.size
      omega
    · exact hdom b p h e
  · intro b x p c y q e1 e2 e3 e4 e5 hne
    obtain ⟨_, y1, q1, a1, a2, a3, a4⟩ := hget b x p e1 e3
    obtain ⟨_, y2, q2, b1, b2, b3, b4⟩ := hget c y q e4 e5
    rw [← a3, ← b3]
    exact hst.rel.inj _ _ _ _ _ _ a1 (a4 e2) a2 b1 b2 fun h => hne (hinj _ _ _ _ e1 e4 h)
  · rintro i hi ⟨b, x, p, e1, e2, e3, e4⟩
    obtain ⟨_, y1, q1, a1, a2, a3, a4⟩ := hget b x p e1 e3
    exact hst.fr.own i hi ⟨_, y1, q1, a1, a4 e2, a2, a3.trans e4⟩

/-- the memory with the blocks of a list of names taken away -/
noncomputable def AH.drop (σ : AH) : List Pos → AH
  | [] => σ
  | b :: l => (σ.put b none).drop l

theorem AH.nx_drop : ∀ (l : List Pos) (σ : AH), (σ.drop l).nx = σ.nx
  | [], _ => rfl
  | b :: l, σ => by rw [AH.drop, AH.nx_drop l]; rfl

theorem AH.get_drop : ∀ (l : List Pos) (σ : AH) (c : Pos), (σ.drop l).get c = if c ∈ l then none else σ.get c
  | [], _, _ => by simp [AH.drop]
  | b :: l, σ, c => by
    rw [AH.drop, AH.get_drop l, AH.get_put]
    by_cases h1 : c ∈ l
    · simp [h1]
    · by_cases h2 : c = b <;> simp [h1, h2]

/-- some blocks go (not read-only ones), one new one is told; all else is as it was -/
theorem weak_new (hR : Rel μ σ w) (hst : Step μ σ w μ1 σ1 w') (kill : List Pos) (hkill : ∀ c ∈ kill, ∀ l, σ.get c ≠ some (.cells true l))
    (hkeep : ∀ c x, c ∉ kill → σ.get c = some x → σ1.get c = some x) {b : Pos} {L1 L : List AV} {q : Plc} (hb : σ.nx.nat ≤ b.nat ∨ b ∈ kill)
    (hb1 : σ1.get b = some (.cells false L1)) (hq : μ1 b = some q) {s k : Nat} (hs : s + k ≤ q.cap) (hk : L.length ≤ k)
    (hL : ∀ (i : Nat) (a : AV), L[i]? = some a → ∃ a1, L1[s + i]? = some a1 ∧ ∀ v, RV μ1 a1 v → RV (μ.up σ.nx ⟨q.blk, q.base + s, k⟩) a v) :
    Step μ σ w (μ.up σ.nx ⟨q.blk, q.base + s, k⟩) ((σ.drop kill).new (.cells false L)) w' := by
  have hn := hR.mu_nx
  have hbn : ∀ c x, c ∉ kill → σ.get c = some x → c ≠ b := by
    intro c x h1 h2 e
    subst e
    rcases hb with h | h
    · rw [hR.fresh _ h] at h2; cases h2
    · exact h1 h
  have get : ∀ c, ((σ.drop kill).new (.cells false L)).get c = if c = σ.nx then some (.cells false L) else if c ∈ kill then none else σ.get c := by
    intro c; rw [AH.get_new, AH.get_drop, AH.nx_drop]
  have hnx : ((σ.drop kill).new (.cells false L)).nx = σ.nx.succ := by rw [AH.nx_new, AH.nx_drop]
  have hle2 := Mu.le_up (p := ⟨q.blk, q.base + s, k⟩) hn
  refine weak_step hR hst (fun c => if c = σ.nx then b else c) ?_ ?_ ?_ ?_ ?_ ?_ ?_ ?_
  · rw [hnx, Pos.nat_succ]; omega
  · intro c hc
    rw [hnx, Pos.nat_succ] at hc
    rw [get, if_neg (fun e => by subst e; omega)]
    split
    · rfl
    · exact hR.fresh c (by omega)
  · intro c hc
    unfold Mu.up
    rw [if_neg (fun e => by subst e; omega)]
  · intro c p hc e
    rw [hnx, Pos.nat_succ]
    unfold Mu.up at e
    split at e
    · rename_i h; subst h; cases e; exact ⟨by omega, (hst.rel.dom b q hq).2⟩
    · have := (hR.dom c p e).1; omega
  · intro c x p e f
    rw [get] at e
    unfold Mu.up at f
    split at e
    · rename_i hc
      rw [if_pos hc] at f
      cases e; cases f
      rw [if_pos hc]
      refine ⟨?_, _, q, hb1, hq, rfl, fun _ => rfl⟩
      obtain ⟨cc, ee, fr, h1, h2, h3, h4, h5⟩ := hst.rel.blk b _ q hb1 hq
      refine ⟨cc, ee, fr, h1, by show q.base + s + k ≤ cc.size; omega, hk, fun _ => ?_, fun i a hi => ?_⟩
      · rcases h4 rfl with h | h
        · exact .inl h
        · exact .inr (by show q.base + s + k ≤ fr.1; omega)
      · obtain ⟨a1, g1, g2⟩ := hL i a hi
        obtain ⟨v, hv, r⟩ := h5 (s + i) a1 g1
        exact ⟨v, by show cc[q.base + s + i]? = some v; rw [Nat.add_assoc]; exact hv, g2 v r⟩
    · rename_i hc
      rw [if_neg hc] at f ⊢
      split at e
      · cases e
      · rename_i hck
        have h1 := hkeep c x hck e
        have h2 := hst.le c p f
        exact ⟨(hR.blk c x p e f).narrow hst.le hle2 (hst.rel.blk c x p h1 h2), x, p, h1, h2, rfl, id⟩
  · intro c d x y e1 e2 h
    rw [get] at e1 e2
    by_cases hc : c = σ.nx <;> by_cases hd : d = σ.nx
    · rw [hc, hd]
    · rw [if_pos hc, if_neg hd] at h
      rw [if_neg hd] at e2
      split at e2
      · cases e2
      · rename_i hk2; exact absurd h.symm (hbn d y hk2 e2)
    · rw [if_neg hc, if_pos hd] at h
      rw [if_neg hc] at e1
      split at e1
      · cases e1
      · rename_i hk2; exact absurd h (hbn c x hk2 e1)
    · rwa [if_neg hc, if_neg hd] at h
  · intro c l e
    rw [get, if_neg (fun h => by subst h; rw [hR.fresh _ (Nat.le_refl _)] at e; cases e), if_neg (fun h => hkill c h l e)]
    exact e
  · intro c l e
    rw [get] at e
    split at e
    · cases e
    · split at e
      · cases e
      · exact e

/-- all that is told is as it was -/
theorem weak_old (hR : Rel μ σ w) (hst : Step μ σ w μ1 σ1 w') (hkeep : ∀ c x, σ.get c = some x → σ1.get c = some x) : Step μ σ w μ σ w' := by
  refine weak_step hR hst (fun c => c) (Nat.le_refl _) hR.fresh (fun _ _ => rfl) ?_ ?_ (fun _ _ _ _ _ _ h => h) (fun _ _ e => e) (fun _ _ e => e)
  · intro c p hc e
    have := (hR.dom c p e).1
    omega
  · intro c x p e f
    have h1 := hkeep c x e
    have h2 := hst.le c p f
    exact ⟨(hR.blk c x p e f).narrow hst.le (Mu.le_refl μ) (hst.rel.blk c x p h1 h2), x, p, h1, h2, rfl, id⟩
end

end Go.Proofs.YtgaoddafkjdecaaGreat.EV
