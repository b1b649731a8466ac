/-
  EV, part S18: what is known of a region that draws its order, from its plan. Own work of this claim.
-/
import Derived.Test.YtgaoddafkjdecaaGreatEvD
set_option linter.unusedVariables false
set_option linter.unusedSimpArgs false
namespace Go.Proofs.YtgaoddafkjdecaaGreat.EV

section reach
variable {pl tab : List (List Nat)}

/-- with each its forerunners -/
def Down (pl : List (List Nat)) (D : Nat → Bool) : Prop := ∀ i, D i = true → ∀ p ∈ pl.getD i [], D p = true

def Lead (pl : List (List Nat)) (j i : Nat) : Prop := ∀ D, Down pl D → D i = true → D j = true

theorem addAll_mem {j : Nat} : ∀ {xs acc : List Nat}, j ∈ addAll xs acc → j ∈ xs ∨ j ∈ acc
  | [], acc, h => .inr h
  | x :: xs, acc, h => by
    rcases addAll_mem (xs := xs) h with h | h
    · exact .inl (List.mem_cons_of_mem _ h)
    · simp only [cond_eq_ite] at h
      split at h
      · exact .inr h
      · rcases List.mem_cons.1 h with rfl | h
        · exact .inl (by simp)
        · exact .inr h

theorem reachOf_mem {j : Nat} : ∀ {ps acc : List Nat}, j ∈ reachOf tab ps acc → j ∈ acc ∨ ∃ p ∈ ps, j = p ∨ j ∈ tab.getD p []
  | [], acc, h => .inl h
  | p :: ps, acc, h => by
    rcases reachOf_mem (ps := ps) h with h | ⟨q, hq, h⟩
    · rcases addAll_mem h with h | h
      · exact .inr ⟨p, by simp, by simpa using h⟩
      · exact .inl h
    · exact .inr ⟨q, by simp [hq], h⟩

theorem reachTab_ok : ∀ (l tab done : List (List Nat)), pl = done ++ l → tab.length = done.length → (∀ i j, j ∈ tab.getD i [] → Lead pl j i) →
    ∀ i j, j ∈ (reachTab l tab).getD i [] → Lead pl j i
  | [], tab, done, h1, h2, h3 => h3
  | ps :: l, tab, done, h1, h2, h3 => by
    refine reachTab_ok l (tab ++ [reachOf tab ps []]) (done ++ [ps]) (by simp [h1]) (by simp [h2]) ?_
    intro i j hj
    rcases Nat.lt_trichotomy i tab.length with hlt | heq | hgt
    · refine h3 i j ?_
      simpa [List.getD, List.getElem?_append_left hlt] using hj
    · subst heq
      have hps : pl.getD tab.length [] = ps := by rw [h1, h2]; simp
      have hj : j ∈ reachOf tab ps [] := by simpa [List.getD] using hj
      rcases reachOf_mem hj with h | ⟨p, hp, h⟩
      · simp at h
      · have hpl : Lead pl p tab.length := fun D hD hi => hD _ hi p (by rw [hps]; exact hp)
        rcases h with rfl | h
        · exact hpl
        · exact fun D hD hi => h3 p j h D hD (hpl D hD hi)
    · have : (tab ++ [reachOf tab ps []]).getD i [] = [] := by
        rw [List.getD, List.getElem?_eq_none (by simp; omega)]; rfl
      rw [this] at hj
      simp at hj
end reach

section plan
variable {rl : List ROp} {ρ0 ρE : Env} {pl tab : List (List Nat)} {tbl : Disp} {call : Call}

def Wr (rl : List ROp) (p : Pos) (j : Nat) : Prop := ∃ r, rl[j]? = some r ∧ r.dst = some p

theorem widx_none {p : Pos} : ∀ {l : List ROp} {k : Nat}, widx p k l = none → ∀ r ∈ l, r.dst ≠ some p
  | [], _, _, r, hr => by simp at hr
  | s :: l, k, h, r, hr => by
    simp only [widx] at h
    split at h
    · rename_i q hq
      simp only [cond_eq_ite] at h
      split at h
      · cases h
      · rename_i hne
        rcases List.mem_cons.1 hr with rfl | hr
        · rw [hq]; intro e; cases e; simp at hne
        · exact widx_none h r hr
    · rename_i hq
      rcases List.mem_cons.1 hr with rfl | hr
      · rw [hq]; simp
      · exact widx_none h r hr

theorem widx_some {p : Pos} {j : Nat} : ∀ {l : List ROp} {k : Nat}, widx p k l = some j → k ≤ j ∧ ∃ r, l[j - k]? = some r ∧ r.dst = some p
  | [], _, h => by simp [widx] at h
  | s :: l, k, h => by
    have rest : widx p (k + 1) l = some j → k ≤ j ∧ ∃ r, (s :: l)[j - k]? = some r ∧ r.dst = some p := by
      intro h
      obtain ⟨h1, r, h2, h3⟩ := widx_some h
      refine ⟨by omega, r, ?_, h3⟩
      rw [show j - k = (j - (k + 1)) + 1 by omega]
      simpa using h2
    simp only [widx] at h
    split at h
    · rename_i q hq
      simp only [cond_eq_ite] at h
      split at h
      · rename_i he
        cases h
        have := eq_of_beq he
        subst this
        exact ⟨Nat.le_refl _, s, by simp, hq⟩
      · exact rest h
    · exact rest h

theorem nodupD_spec {p : Pos} : ∀ {l : List ROp} {k : Nat}, nodupD rl k l = true → ∀ {j : Nat} {r : ROp}, l[j]? = some r → r.dst = some p → widx p 0 rl = some (k + j)
  | [], _, _, j, r, hj, _ => by simp at hj
  | s :: l, k, h, j, r, hj, hd => by
    simp only [nodupD, Bool.and_eq_true] at h
    obtain ⟨h1, h2⟩ := h
    cases j with
    | zero =>
      simp at hj
      subst hj
      rw [hd] at h1
      simp only at h1
      split at h1
      · rename_i k' hk
        rw [hk, Nat.eq_of_beq_eq_true h1]
        rfl
      · cases h1
    | succ j =>
      have := nodupD_spec h2 (by simpa using hj) hd
      rw [this]
      congr 1
      omega

theorem Wr.idx (hnd : nodupD rl 0 rl = true) {p : Pos} {j : Nat} (h : Wr rl p j) : widx p 0 rl = some j := by
  obtain ⟨r, h1, h2⟩ := h
  simpa using nodupD_spec hnd h1 h2

/-- the slots when the operations of D are done -/
def Mix (rl : List ROp) (ρ0 ρE : Env) (D : Nat → Bool) (ρ : Env) : Prop :=
  ∀ p, (∀ j, Wr rl p j → ρ.get p = if D j then ρE.get p else ρ0.get p) ∧ ((∀ j, ¬ Wr rl p j) → ρ.get p = ρ0.get p)

def Valid (rl : List ROp) (pl : List (List Nat)) (ρ0 ρE : Env) (i : Nat) (ρ : Env) : Prop :=
  ∃ D, Down pl D ∧ D i = false ∧ (∀ p ∈ pl.getD i [], D p = true) ∧ Mix rl ρ0 ρE D ρ

theorem lead_in {D : Nat → Bool} {i j : Nat} (hD : Down pl D) (hp : ∀ p ∈ pl.getD i [], D p = true) (hne : j ≠ i) (h : Lead pl j i) : D j = true := by
  have := h (fun k => k == i || D k) ?_ (by simp)
  · simpa [hne] using this
  · intro k hk p hkp
    simp only [Bool.or_eq_true, beq_iff_eq] at hk ⊢
    rcases hk with rfl | hk
    · exact .inr (hp p hkp)
    · exact .inr (hD k hk p hkp)

theorem agree (hnd : nodupD rl 0 rl = true) (htab : ∀ i j, j ∈ tab.getD i [] → Lead pl j i) {i : Nat} {r : ROp} {dn : List Nat} {ρ ρ' : Env}
    (hv : Valid rl pl ρ0 ρE i ρ) (hM : Mix rl ρ0 ρE (fun j => memN j dn) ρ') (hu : okUse tab rl i dn r = true) : ∀ p ∈ r.uses, ρ.get p = ρ'.get p := by
  obtain ⟨D, hD, h0, hp, hMD⟩ := hv
  intro p hpu
  have hu := List.all_eq_true.1 hu p hpu
  by_cases hw : ∃ j, Wr rl p j
  · obtain ⟨j, hj⟩ := hw
    have hx := hj.idx hnd
    rw [(hMD p).1 j hj, (hM p).1 j hj]
    rw [hx] at hu
    simp only [cond_eq_ite] at hu
    by_cases hdn : memN j dn = true
    · rw [if_pos hdn] at hu
      simp only [Bool.and_eq_true, Bool.not_eq_true'] at hu
      have hne : j ≠ i := by rintro rfl; simp at hu
      have hDj := lead_in hD hp hne (htab _ _ (memN_iff.1 hu.2))
      rw [if_pos hDj, if_pos hdn]
    · rw [if_neg hdn] at hu
      have hDj : D j = false := by
        simp only [Bool.or_eq_true] at hu
        rcases hu with hu | hu
        · have := Nat.eq_of_beq_eq_true hu; subst this; exact h0
        · cases hDj : D j with
          | false => rfl
          | true => rw [htab _ _ (memN_iff.1 hu) D hD hDj] at h0; cases h0
      have hdn' : memN j dn = false := by simpa using hdn
      simp [hDj, hdn']
  · have hw' : ∀ j, ¬ Wr rl p j := fun j h => hw ⟨j, h⟩
    rw [(hMD p).2 hw', (hM p).2 hw']

theorem uses_evOp {r : ROp} {ρ ρ' : Env} (h : ∀ p ∈ r.uses, ρ.get p = ρ'.get p) (σ : AH) : evOp tbl call ρ σ r.op = evOp tbl call ρ' σ r.op :=
  evOp_congr fun p hp => h p (by simp [ROp.uses, hp])

theorem uses_wants {r : ROp} {ρ ρ' : Env} (h : ∀ p ∈ r.uses, ρ.get p = ρ'.get p) : wants ρ r.guard = wants ρ' r.guard :=
  wants_congr fun p b hg => h p (by simp [ROp.uses, usesG, hg])

def DstIs (ρE : Env) (r : ROp) (v : AV) : Prop := ∀ p, r.dst = some p → ρE.get p = some v

/-- an operation without effect that is still to come, at memory σ -/
def QF (tbl : Disp) (call : Call) (rl : List ROp) (pl : List (List Nat)) (ρ0 ρE : Env) (i : Nat) (σ : AH) : Prop :=
  ∃ r, rl[i]? = some r ∧ r.op.loud = false ∧ (r.op.madeBy = true → r.dst.isSome = true) ∧ ∀ ρ, Valid rl pl ρ0 ρE i ρ → ∃ b, wants ρ r.guard = some b ∧ (b = false → DstIs ρE r unA) ∧
    (b = true → ∃ v, DstIs ρE r v ∧ ((r.op.madeBy = false ∧ ∀ τ, Sub σ τ → evOp tbl call ρ τ r.op = some (.val v, τ)) ∨
      (r.op.madeBy = true ∧ ∃ (c : Pos) (x : AB) (mk : Pos → AV), v = mk c ∧ σ.get c = some x ∧ (∀ c, (mk c).blk = some c) ∧ (∀ b c, mk c = reBlk (mk b) c) ∧
        ∀ τ, evOp tbl call ρ τ r.op = some (.val (mk τ.nx), τ.new x))))

theorem QF.sub {i : Nat} {σ τ : AH} (h : QF tbl call rl pl ρ0 ρE i σ) (hs : Sub σ τ) : QF tbl call rl pl ρ0 ρE i τ := by
  obtain ⟨r, h1, h2, h2', h3⟩ := h
  refine ⟨r, h1, h2, h2', fun ρ hv => ?_⟩
  obtain ⟨b, hb, hf, ht⟩ := h3 ρ hv
  refine ⟨b, hb, hf, fun e => ?_⟩
  obtain ⟨v, hd, h | ⟨hm, c, x, mk, e1, e2, e3⟩⟩ := ht e
  · exact ⟨v, hd, .inl ⟨h.1, fun υ hu => h.2 υ fun b y e => hu b y (hs b y e)⟩⟩
  · exact ⟨v, hd, .inr ⟨hm, c, x, mk, e1, hs _ _ e2, e3⟩⟩

/-- what neither reads nor makes is the same at any memory -/
theorem QF.pure {i : Nat} {σ τ : AH} (h : QF tbl call rl pl ρ0 ρE i σ) {r : ROp} (hr : rl[i]? = some r) (h1 : r.op.reads = false) (h2 : r.op.madeBy = false) :
    QF tbl call rl pl ρ0 ρE i τ := by
  obtain ⟨r', hr', hl, h2', h3⟩ := h
  rw [hr] at hr'
  cases hr'
  refine ⟨r, hr, hl, h2', fun ρ hv => ?_⟩
  obtain ⟨b, hb, hf, ht⟩ := h3 ρ hv
  refine ⟨b, hb, hf, fun e => ?_⟩
  obtain ⟨v, hd, h | ⟨hm, _⟩⟩ := ht e
  · refine ⟨v, hd, .inl ⟨h2, fun υ _ => ?_⟩⟩
    obtain ⟨v', e1, _, e2⟩ := pure_any hl h2 h1 (h.2 σ fun _ _ e => e)
    cases e1
    exact e2 υ
  · rw [h2] at hm; cases hm

theorem get_new_ne {σ : AH} {x : AB} {b : Pos} (h : b ≠ σ.nx) : (σ.new x).get b = σ.get b := by rw [AH.get_new, if_neg h]

theorem sub_new {σ : AH} (hf : ∀ b : Pos, σ.nx.nat ≤ b.nat → σ.get b = none) (x : AB) : Sub σ (σ.new x) := by
  intro b y e
  rw [get_new_ne]
  · exact e
  · rintro rfl; rw [hf _ (Nat.le_refl _)] at e; cases e

/-- an operation that has been run -/
theorem QF.run (hnd : nodupD rl 0 rl = true) (htab : ∀ i j, j ∈ tab.getD i [] → Lead pl j i) {i : Nat} {r : ROp} {dn : List Nat} {ρ : Env} {σ σ' : AH} {b : Bool} {v : AV}
    (hr : rl[i]? = some r) (hl : r.op.loud = false) (hmd : r.op.madeBy = true → r.dst.isSome = true) (hu : okUse tab rl i dn r = true) (hM : Mix rl ρ0 ρE (fun j => memN j dn) ρ)
    (hw : wants ρ r.guard = some b) (hf : b = false → v = unA ∧ σ' = σ) (ht : b = true → evOp tbl call ρ σ r.op = some (.val v, σ')) (hd : DstIs ρE r v) : QF tbl call rl pl ρ0 ρE i σ' := by
  refine ⟨r, hr, hl, hmd, fun ρ' hv => ?_⟩
  have ha := agree hnd htab hv hM hu
  refine ⟨b, by rw [uses_wants ha]; exact hw, fun e => by rw [← (hf e).1]; exact hd, fun e => ⟨v, hd, ?_⟩⟩
  have he := ht e
  rw [← uses_evOp ha] at he
  cases hm : r.op.madeBy with
  | true =>
    obtain ⟨x, mk, e1, e2, _, e3, e4, e5⟩ := made_any hm he
    cases e1
    refine .inr ⟨rfl, σ.nx, x, mk, rfl, ?_, e4, e5, e3⟩
    rw [e2, AH.get_new, if_pos rfl]
  | false =>
    refine .inl ⟨rfl, fun τ hs => ?_⟩
    cases hrd : r.op.reads with
    | true =>
      obtain ⟨v', e1, e2, e3⟩ := read_ext hrd he
      cases e1
      subst e2
      exact e3 τ hs
    | false =>
      obtain ⟨v', e1, e2, e3⟩ := pure_any hl hm hrd he
      cases e1
      exact e3 τ

end plan
end Go.Proofs.YtgaoddafkjdecaaGreat.EV
