/-
  EV, part S2: abstract memory stands for the model's; how it goes on from step to step. Own work of this claim.
-/
import Derived.Test.YtgaoddafkjdecaaGreatEvS1
set_option linter.unusedVariables false
namespace Go.Proofs.YtgaoddafkjdecaaGreat.EV

def AB.wr : AB → Bool
  | .cells ro _ => !ro
  | .mp _ => true

def REs (μ : Mu) : List (AV × AV) → List MapEntry → Prop
  | [], es => es = []
  | (k, v) :: l, es => ∃ e r, es = e :: r ∧ RV μ k e.key ∧ RV μ v e.val ∧ REs μ l r

theorem REs.mono {μ ν : Mu} (h : μ.le ν) : ∀ {l : List (AV × AV)} {es : List MapEntry}, REs μ l es → REs ν l es
  | [], _, r => r
  | (k, v) :: l, _, r => by
    simp only [REs] at r ⊢
    obtain ⟨e, t, rfl, h1, h2, h3⟩ := r
    exact ⟨e, t, rfl, RV.mono h _ _ h1, RV.mono h _ _ h2, REs.mono h h3⟩

/-- a map's entries have been born one by one -/
def BornOK (es : Array MapEntry) (clock : Nat) : Prop := (∀ x ∈ es.toList, x.born < clock) ∧ (es.toList.map (·.born)).Nodup

theorem bornOK_push {es : Array MapEntry} {clock : Nat} (h : BornOK es clock) {key val : Value} : BornOK (es.push { key, val, born := clock }) (clock + 1) := by
  obtain ⟨h1, h2⟩ := h
  refine ⟨?_, ?_⟩
  · intro x hx
    simp only [Array.toList_push, List.mem_append, List.mem_singleton] at hx
    rcases hx with hx | rfl
    · exact Nat.lt_succ_of_lt (h1 x hx)
    · exact Nat.lt_succ_self _
  · simp only [Array.toList_push, List.map_append, List.map_cons, List.map_nil]
    refine List.nodup_append.2 ⟨h2, by simp, ?_⟩
    intro a ha b hb
    simp only [List.mem_singleton] at hb
    subst hb
    obtain ⟨x, hx, rfl⟩ := List.mem_map.1 ha
    exact Nat.ne_of_lt (h1 x hx)

theorem bornOK_modify {es : Array MapEntry} {clock : Nat} (h : BornOK es clock) (i : Nat) (f : MapEntry → MapEntry) (hb : ∀ e, (f e).born = e.born) : BornOK (es.modify i f) clock := by
  have hborn : (es.modify i f).toList.map (·.born) = es.toList.map (·.born) := by
    apply List.ext_getElem?
    intro j
    simp only [List.getElem?_map, Array.getElem?_toList, Array.getElem?_modify]
    by_cases hij : i = j
    · subst hij
      cases he : es[i]? with
      | none => simp
      | some e => simp [hb e]
    · simp [hij]
  obtain ⟨h1, h2⟩ := h
  refine ⟨?_, hborn ▸ h2⟩
  intro x hx
  have : x.born ∈ (es.modify i f).toList.map (·.born) := List.mem_map.2 ⟨x, hx, rfl⟩
  rw [hborn] at this
  obtain ⟨y, hy, e⟩ := List.mem_map.1 this
  rw [← e]; exact h1 y hy

theorem bornOK_erase {es : Array MapEntry} {clock : Nat} (h : BornOK es clock) (i : Nat) : BornOK (es.eraseIdxIfInBounds i) clock := by
  have hs : (es.eraseIdxIfInBounds i).toList.Sublist es.toList := by
    unfold Array.eraseIdxIfInBounds
    split
    · simp only [Array.toList_eraseIdx]; exact List.eraseIdx_sublist _ _
    · exact List.Sublist.refl _
  exact ⟨fun x hx => h.1 x (hs.subset hx), (hs.map _).nodup h.2⟩

/-- what a block holds -/
def RB (μ : Mu) (w : World) (p : Plc) : AB → Prop
  | .cells ro l => ∃ c e fr, w.heap[p.blk]? = some (.cells c e fr) ∧ p.base + p.cap ≤ c.size ∧ l.length ≤ p.cap ∧
      (ro = false → fr.1 = fr.2 ∨ p.base + p.cap ≤ fr.1) ∧
      ∀ (i : Nat) (a : AV), l[i]? = some a → ∃ v, c[p.base + i]? = some v ∧ RV μ a v
  | .mp es => ∃ ces clk, w.heap[p.blk]? = some (.map ces clk) ∧ BornOK ces clk ∧ REs μ es ces.toList

theorem RB.mono {μ ν : Mu} (h : μ.le ν) {w : World} {p : Plc} : ∀ {x : AB}, RB μ w p x → RB ν w p x
  | .cells _ _, ⟨c, e, fr, h1, h2, h3, h4, h5⟩ => ⟨c, e, fr, h1, h2, h3, h4, fun i a hi => let ⟨v, hv, r⟩ := h5 i a hi; ⟨v, hv, RV.mono h _ _ r⟩⟩
  | .mp _, ⟨ces, clk, h1, hbo, h2⟩ => ⟨ces, clk, h1, hbo, h2.mono h⟩

theorem RB.heap {μ : Mu} {w w' : World} {p : Plc} (h : w'.heap[p.blk]? = w.heap[p.blk]?) : ∀ {x : AB}, RB μ w p x → RB μ w' p x
  | .cells _ _, ⟨c, e, fr, h1, r⟩ => ⟨c, e, fr, h.trans h1, r⟩
  | .mp _, ⟨ces, clk, h1, h2⟩ => ⟨ces, clk, h.trans h1, h2⟩

structure Rel (μ : Mu) (σ : AH) (w : World) : Prop where
  fresh : ∀ b : Pos, σ.nx.nat ≤ b.nat → σ.get b = none
  dom : ∀ b p, μ b = some p → b.nat < σ.nx.nat ∧ p.blk < w.heap.size
  blk : ∀ b x p, σ.get b = some x → μ b = some p → RB μ w p x
  inj : ∀ b x p c y q, σ.get b = some x → x.wr = true → μ b = some p → σ.get c = some y → μ c = some q → b ≠ c → p.blk ≠ q.blk

/-- block i of the model's memory is written through what is known -/
def Own (μ : Mu) (σ : AH) (i : Nat) : Prop := ∃ b x p, σ.get b = some x ∧ x.wr = true ∧ μ b = some p ∧ p.blk = i

structure Fr (μ : Mu) (σ : AH) (w : World) (μ' : Mu) (σ' : AH) (w' : World) : Prop where
  os : w'.os = w.os
  tape : w'.tape = w.tape
  output : w'.output = w.output
  size : w.heap.size ≤ w'.heap.size
  keep : ∀ i, i < w.heap.size → ¬ Own μ σ i → w'.heap[i]? = w.heap[i]?
  own : ∀ i, i < w.heap.size → Own μ' σ' i → Own μ σ i
  nx : σ.nx.nat ≤ σ'.nx.nat
  ro : ∀ b l, σ.get b = some (.cells true l) → σ'.get b = some (.cells true l)
  rob : ∀ b l, σ'.get b = some (.cells true l) → σ.get b = some (.cells true l)

structure Step (μ : Mu) (σ : AH) (w : World) (μ' : Mu) (σ' : AH) (w' : World) : Prop where
  le : μ.le μ'
  rel : Rel μ' σ' w'
  fr : Fr μ σ w μ' σ' w'
  old : ∀ b : Pos, b.nat < σ.nx.nat → μ' b = μ b

theorem Mu.le_refl (μ : Mu) : μ.le μ := fun _ _ h => h
theorem Mu.le_trans {a b c : Mu} (h : a.le b) (k : b.le c) : a.le c := fun x p e => k x p (h x p e)

theorem Fr.refl (μ : Mu) (σ : AH) (w : World) : Fr μ σ w μ σ w :=
  ⟨rfl, rfl, rfl, Nat.le_refl _, fun _ _ _ => rfl, fun _ _ h => h, Nat.le_refl _, fun _ _ h => h, fun _ _ h => h⟩

theorem Fr.trans {μ σ w μ' σ' w' μ'' σ'' w''} (h : Fr μ σ w μ' σ' w') (k : Fr μ' σ' w' μ'' σ'' w'') : Fr μ σ w μ'' σ'' w'' where
  os := k.os.trans h.os
  tape := k.tape.trans h.tape
  output := k.output.trans h.output
  size := Nat.le_trans h.size k.size
  keep i hi ho := (k.keep i (Nat.lt_of_lt_of_le hi h.size) fun o => ho (h.own i hi o)).trans (h.keep i hi ho)
  own i hi o := h.own i hi (k.own i (Nat.lt_of_lt_of_le hi h.size) o)
  nx := Nat.le_trans h.nx k.nx
  ro b l e := k.ro b l (h.ro b l e)
  rob b l e := h.rob b l (k.rob b l e)

theorem Step.refl {μ σ w} (h : Rel μ σ w) : Step μ σ w μ σ w := ⟨Mu.le_refl μ, h, Fr.refl _ _ _, fun _ _ => rfl⟩

theorem Step.trans {μ σ w μ' σ' w' μ'' σ'' w''} (h : Step μ σ w μ' σ' w') (k : Step μ' σ' w' μ'' σ'' w'') : Step μ σ w μ'' σ'' w'' :=
  ⟨Mu.le_trans h.le k.le, k.rel, h.fr.trans k.fr, fun b hb => (k.old b (Nat.lt_of_lt_of_le hb h.fr.nx)).trans (h.old b hb)⟩

/-- a change beside the memory that is related: draws -/
theorem Rel.draw {μ σ w} (h : Rel μ σ w) {w' : World} (hh : w'.heap = w.heap) : Rel μ σ w' where
  fresh := h.fresh
  dom b p e := by rw [hh]; exact h.dom b p e
  blk b x p e f := (h.blk b x p e f).heap (by rw [hh])
  inj := h.inj

theorem Step.draw {μ σ w} (h : Rel μ σ w) (n : Nat) : Step μ σ w μ σ { w with drawn := n } :=
  ⟨Mu.le_refl μ, h.draw rfl, ⟨rfl, rfl, rfl, Nat.le_refl _, fun _ _ _ => rfl, fun _ _ h => h, Nat.le_refl _, fun _ _ h => h, fun _ _ h => h⟩, fun _ _ => rfl⟩

def Mu.up (μ : Mu) (b : Pos) (p : Plc) : Mu := fun c => if c = b then some p else μ c

theorem Rel.mu_nx {μ σ w} (h : Rel μ σ w) : μ σ.nx = none := by
  cases e : μ σ.nx with
  | none => rfl
  | some p => have := (h.dom _ _ e).1; omega

theorem Mu.le_up {μ : Mu} {b : Pos} {p : Plc} (h : μ b = none) : μ.le (μ.up b p) := by
  intro c q e
  unfold Mu.up
  split
  · rename_i hc; subst hc; rw [h] at e; cases e
  · exact e

noncomputable def AH.put (σ : AH) (b : Pos) (x : Option AB) : AH := ⟨σ.nx, σ.tb.set x b⟩
noncomputable def AH.new (σ : AH) (x : AB) : AH := ⟨σ.nx.succ, σ.tb.set (some x) σ.nx⟩

theorem AH.newK_eq {β : Type} (σ : AH) (x : AB) (k : Pos → AH → β) : σ.newK x k = k σ.nx (σ.new x) := by
  unfold AH.newK AH.new; rw [Tr.setK_eq]
theorem AH.setK_eq {β : Type} (σ : AH) (b : Pos) (x : Option AB) (k : AH → β) : σ.setK b x k = k (σ.put b x) := by
  unfold AH.setK AH.put; rw [Tr.setK_eq]
theorem AH.get_put (σ : AH) (b c : Pos) (x : Option AB) : (σ.put b x).get c = if c = b then x else σ.get c := by
  unfold AH.put AH.get; exact Tr.get_set _ _ _ _
theorem AH.get_new (σ : AH) (c : Pos) (x : AB) : (σ.new x).get c = if c = σ.nx then some x else σ.get c := by
  unfold AH.new AH.get; exact Tr.get_set _ _ _ _
@[simp] theorem AH.nx_put (σ : AH) (b : Pos) (x : Option AB) : (σ.put b x).nx = σ.nx := rfl
@[simp] theorem AH.nx_new (σ : AH) (x : AB) : (σ.new x).nx = σ.nx.succ := rfl

theorem heap_push_lt (w : World) (o : Obj) {i : Nat} (h : i < w.heap.size) : (w.heap.push o)[i]? = w.heap[i]? := by
  rw [Array.getElem?_push, if_neg (by omega)]
theorem heap_push_eq (w : World) (o : Obj) : (w.heap.push o)[w.heap.size]? = some o := by simp

/-- a new block -/
theorem step_new' {μ σ w} (h : Rel μ σ w) (x : AB) (p : Plc) (hp : p.blk = w.heap.size) {w' : World} (g1 : w'.os = w.os) (g2 : w'.tape = w.tape)
    (g3 : w'.output = w.output) (g4 : w'.heap.size = w.heap.size + 1) (g5 : ∀ i, i < w.heap.size → w'.heap[i]? = w.heap[i]?)
    (hx : RB (μ.up σ.nx p) w' p x) (hwr : x.wr = true) : Step μ σ w (μ.up σ.nx p) (σ.new x) w' := by
  have hn := h.mu_nx
  have hle := Mu.le_up (p := p) hn
  refine ⟨hle, ⟨?_, ?_, ?_, ?_⟩, ⟨g1, g2, g3, by omega, ?_, ?_, ?_, ?_, ?_⟩, fun b hb => by unfold Mu.up; rw [if_neg (fun e => by subst e; omega)]⟩
  · intro b hb
    rw [AH.nx_new, Pos.nat_succ] at hb
    rw [AH.get_new, if_neg (fun e => by subst e; omega)]
    exact h.fresh b (by omega)
  · intro b q e
    rw [AH.nx_new, Pos.nat_succ, g4]
    unfold Mu.up at e
    split at e
    · rename_i hb; cases e; subst hb; omega
    · have := h.dom b q e; omega
  · intro b y q e f
    rw [AH.get_new] at e
    unfold Mu.up at f
    split at e
    · rename_i hb
      rw [if_pos hb] at f
      cases e; cases f; exact hx
    · rename_i hb
      rw [if_neg hb] at f
      exact ((h.blk b y q e f).mono hle).heap (g5 _ (h.dom b q f).2)
  · intro b y q c z r e1 e2 e3 e4 e5 hne
    rw [AH.get_new] at e1 e4
    unfold Mu.up at e3 e5
    by_cases hb : b = σ.nx
    · have hc : c ≠ σ.nx := fun e => hne (hb.trans e.symm)
      rw [if_pos hb] at e3
      rw [if_neg hc] at e5
      cases e3
      have := (h.dom c r e5).2
      omega
    · rw [if_neg hb] at e3 e1
      by_cases hc : c = σ.nx
      · rw [if_pos hc] at e5
        cases e5
        have := (h.dom b q e3).2
        omega
      · rw [if_neg hc] at e5 e4
        exact h.inj b y q c z r e1 e2 e3 e4 e5 hne
  · intro i hi _
    exact g5 _ hi
  · rintro i hi ⟨b, y, q, e1, e2, e3, e4⟩
    rw [AH.get_new] at e1
    unfold Mu.up at e3
    by_cases hb : b = σ.nx
    · rw [if_pos hb] at e3; cases e3; omega
    · rw [if_neg hb] at e1 e3; exact ⟨b, y, q, e1, e2, e3, e4⟩
  · rw [AH.nx_new, Pos.nat_succ]; omega
  · intro b l e
    rw [AH.get_new, if_neg (fun hb => by subst hb; rw [h.fresh _ (Nat.le_refl _)] at e; cases e)]
    exact e
  · intro b l e
    rw [AH.get_new] at e
    split at e
    · cases e; simp [AB.wr] at hwr
    · exact e

theorem step_new {μ σ w} (h : Rel μ σ w) (x : AB) (o : Obj) (p : Plc) (hp : p.blk = w.heap.size)
    (hx : RB (μ.up σ.nx p) (w.alloc o) p x) (hwr : x.wr = true) : Step μ σ w (μ.up σ.nx p) (σ.new x) (w.alloc o) :=
  step_new' h x p hp rfl rfl rfl (by simp) (fun _ hi => heap_push_lt _ _ hi) hx hwr

/-- a new block, of a name that was there in thought -/
theorem rel_late {μ σ w} (h : Rel μ σ w) {x : AB} {b : Pos} (hb : σ.get b = some x) (hn : μ b = none) (p : Plc) (hp : p.blk = w.heap.size) {w' : World}
    (g1 : w'.os = w.os) (g2 : w'.tape = w.tape) (g3 : w'.output = w.output) (g4 : w'.heap.size = w.heap.size + 1)
    (g5 : ∀ i, i < w.heap.size → w'.heap[i]? = w.heap[i]?) (hx : RB (μ.up b p) w' p x) : Rel (μ.up b p) σ w' ∧ Fr μ σ w (μ.up b p) σ w' := by
  have hle := Mu.le_up (p := p) hn
  have hbn : b.nat < σ.nx.nat := by
    rcases Nat.lt_or_ge b.nat σ.nx.nat with h1 | h1
    · exact h1
    · rw [h.fresh b h1] at hb; cases hb
  refine ⟨⟨h.fresh, ?_, ?_, ?_⟩, ⟨g1, g2, g3, by omega, fun i hi _ => g5 i hi, ?_, Nat.le_refl _, fun _ _ e => e, fun _ _ e => e⟩⟩
  · intro c q e
    unfold Mu.up at e
    split at e
    · rename_i hc; cases e; subst hc; omega
    · have := h.dom c q e; omega
  · intro c y q e f
    unfold Mu.up at f
    split at f
    · rename_i hc; subst hc; rw [hb] at e; cases e; cases f; exact hx
    · exact ((h.blk c y q e f).mono hle).heap (g5 _ (h.dom c q f).2)
  · intro c y q d z r e1 e2 e3 e4 e5 hne
    unfold Mu.up at e3 e5
    by_cases hc : c = b
    · have hd : d ≠ b := fun e => hne (hc.trans e.symm)
      rw [if_pos hc] at e3
      rw [if_neg hd] at e5
      cases e3
      have := (h.dom d r e5).2
      omega
    · rw [if_neg hc] at e3
      by_cases hd : d = b
      · rw [if_pos hd] at e5
        cases e5
        have := (h.dom c q e3).2
        omega
      · rw [if_neg hd] at e5
        exact h.inj c y q d z r e1 e2 e3 e4 e5 hne
  · rintro i hi ⟨c, y, q, e1, e2, e3, e4⟩
    unfold Mu.up at e3
    by_cases hc : c = b
    · rw [if_pos hc] at e3; cases e3; omega
    · rw [if_neg hc] at e3; exact ⟨c, y, q, e1, e2, e3, e4⟩

/-- a block is written -/
theorem step_mod {μ σ w} (h : Rel μ σ w) {b : Pos} {x x' : AB} {p : Plc} (hb : σ.get b = some x) (hw : x.wr = true) (hp : μ b = some p)
    (hx : x'.wr = true) {w' : World} (h1 : w'.os = w.os) (h2 : w'.tape = w.tape) (h3 : w'.output = w.output) (h4 : w'.heap.size = w.heap.size)
    (h5 : ∀ i, i ≠ p.blk → w'.heap[i]? = w.heap[i]?) (hr : RB μ w' p x') : Step μ σ w μ (σ.put b (some x')) w' := by
  have hroF : ∀ l, x ≠ .cells true l := by rintro l rfl; simp [AB.wr] at hw
  refine ⟨Mu.le_refl μ, ⟨?_, ?_, ?_, ?_⟩, ⟨h1, h2, h3, by omega, ?_, ?_, Nat.le_refl _, ?_, ?_⟩, fun _ _ => rfl⟩
  · intro c hc
    rw [AH.get_put]
    split
    · rename_i e; subst e; rw [h.fresh _ hc] at hb; cases hb
    · exact h.fresh c hc
  · intro c q e
    have := h.dom c q e
    rw [h4]; exact this
  · intro c y q e f
    rw [AH.get_put] at e
    split at e
    · rename_i hc; subst hc; cases e; rw [hp] at f; cases f; exact hr
    · rename_i hc
      exact (h.blk c y q e f).heap (h5 _ (h.inj b x p c y q hb hw hp e f (Ne.symm hc)).symm)
  · intro c y q d z r e1 e2 e3 e4 e5 hne
    rw [AH.get_put] at e1 e4
    by_cases hc : c = b
    · subst hc
      have hd : d ≠ c := Ne.symm hne
      rw [if_neg hd] at e4
      exact h.inj c x q d z r hb hw e3 e4 e5 hne
    · rw [if_neg hc] at e1
      by_cases hd : d = b
      · subst hd
        exact h.inj c y q d x r e1 e2 e3 hb e5 hne
      · rw [if_neg hd] at e4
        exact h.inj c y q d z r e1 e2 e3 e4 e5 hne
  · intro i _ ho
    exact h5 i fun e => ho ⟨b, x, p, hb, hw, hp, e.symm⟩
  · rintro i _ ⟨c, y, q, e1, e2, e3, e4⟩
    rw [AH.get_put] at e1
    by_cases hc : c = b
    · subst hc; exact ⟨c, x, q, hb, hw, e3, e4⟩
    · rw [if_neg hc] at e1; exact ⟨c, y, q, e1, e2, e3, e4⟩
  · intro c l e
    rw [AH.get_put, if_neg (fun hc => by subst hc; rw [hb] at e; cases e; exact hroF l rfl)]
    exact e
  · intro c l e
    rw [AH.get_put] at e
    split at e
    · cases e; simp [AB.wr] at hx
    · exact e

/-- a block is touched, and has what it had -/
theorem step_touch {μ σ w} (h : Rel μ σ w) {b : Pos} {x : AB} {p : Plc} (hb : σ.get b = some x) (hw : x.wr = true) (hp : μ b = some p)
    {w' : World} (h1 : w'.os = w.os) (h2 : w'.tape = w.tape) (h3 : w'.output = w.output) (h4 : w'.heap.size = w.heap.size)
    (h5 : ∀ i, i ≠ p.blk → w'.heap[i]? = w.heap[i]?) (hr : RB μ w' p x) : Step μ σ w μ σ w' := by
  refine ⟨Mu.le_refl μ, ⟨h.fresh, ?_, ?_, h.inj⟩, ⟨h1, h2, h3, by omega, ?_, fun _ _ o => o, Nat.le_refl _, fun _ _ e => e, fun _ _ e => e⟩, fun _ _ => rfl⟩
  · intro c q e
    have := h.dom c q e
    rw [h4]; exact this
  · intro c y q e f
    by_cases hc : c = b
    · subst hc; rw [hb] at e; cases e; rw [hp] at f; cases f; exact hr
    · exact (h.blk c y q e f).heap (h5 _ (h.inj b x p c y q hb hw hp e f (Ne.symm hc)).symm)
  · intro i _ ho
    exact h5 i fun e => ho ⟨b, x, p, hb, hw, hp, e.symm⟩

/-- a block goes -/
theorem step_kill {μ σ w} (h : Rel μ σ w) {b : Pos} {x : AB} (hb : σ.get b = some x) (hw : x.wr = true) : Step μ σ w μ (σ.put b none) w := by
  have hroF : ∀ l, x ≠ .cells true l := by rintro l rfl; simp [AB.wr] at hw
  refine ⟨Mu.le_refl μ, ⟨?_, h.dom, ?_, ?_⟩, ⟨rfl, rfl, rfl, Nat.le_refl _, fun _ _ _ => rfl, ?_, Nat.le_refl _, ?_, ?_⟩, fun _ _ => rfl⟩
  · intro c hc
    rw [AH.get_put]
    split
    · rfl
    · exact h.fresh c hc
  · intro c y q e f
    rw [AH.get_put] at e
    split at e
    · cases e
    · exact h.blk c y q e f
  · intro c y q d z r e1 e2 e3 e4 e5 hne
    rw [AH.get_put] at e1 e4
    split at e1
    · cases e1
    · split at e4
      · cases e4
      · exact h.inj c y q d z r e1 e2 e3 e4 e5 hne
  · rintro i _ ⟨c, y, q, e1, e2, e3, e4⟩
    rw [AH.get_put] at e1
    split at e1
    · cases e1
    · exact ⟨c, y, q, e1, e2, e3, e4⟩
  · intro c l e
    rw [AH.get_put, if_neg (fun hc => by subst hc; rw [hb] at e; cases e; exact hroF l rfl)]
    exact e
  · intro c l e
    rw [AH.get_put] at e
    split at e
    · cases e
    · exact e

/-- a block goes on under a new name, in place -/
theorem step_move {μ σ w} (h : Rel μ σ w) {b : Pos} {x x' : AB} {p q : Plc} (hb : σ.get b = some x) (hw : x.wr = true) (hp : μ b = some p)
    (hx : x'.wr = true) (hq : q.blk = p.blk) {w' : World} (h1 : w'.os = w.os) (h2 : w'.tape = w.tape) (h3 : w'.output = w.output)
    (h4 : w'.heap.size = w.heap.size) (h5 : ∀ i, i ≠ p.blk → w'.heap[i]? = w.heap[i]?) (hr : RB (μ.up σ.nx q) w' q x') :
    Step μ σ w (μ.up σ.nx q) ((σ.put b none).new x') w' := by
  have hn := h.mu_nx
  have hle := Mu.le_up (p := q) hn
  have hroF : ∀ l, x ≠ .cells true l := by rintro l rfl; simp [AB.wr] at hw
  have hbn : b ≠ σ.nx := fun e => by subst e; rw [h.fresh _ (Nat.le_refl _)] at hb; cases hb
  have hpl := (h.dom b p hp).2
  have get : ∀ c, ((σ.put b none).new x').get c = if c = σ.nx then some x' else if c = b then none else σ.get c := by
    intro c; rw [AH.get_new, AH.get_put]; rfl
  refine ⟨hle, ⟨?_, ?_, ?_, ?_⟩, ⟨h1, h2, h3, by omega, ?_, ?_, ?_, ?_, ?_⟩, fun b hb => by unfold Mu.up; rw [if_neg (fun e => by subst e; omega)]⟩
  · intro c hc
    rw [AH.nx_new, AH.nx_put, Pos.nat_succ] at hc
    rw [get, if_neg (fun e => by subst e; omega)]
    split
    · rfl
    · exact h.fresh c (by omega)
  · intro c r e
    rw [AH.nx_new, AH.nx_put, Pos.nat_succ, h4]
    unfold Mu.up at e
    split at e
    · rename_i hc; cases e; subst hc; omega
    · have := h.dom c r e; omega
  · intro c y r e f
    rw [get] at e
    unfold Mu.up at f
    split at e
    · rename_i hc
      rw [if_pos hc] at f
      cases e; cases f; exact hr
    · rename_i hc
      rw [if_neg hc] at f
      split at e
      · cases e
      · rename_i hcb
        exact ((h.blk c y r e f).mono hle).heap (h5 _ (h.inj b x p c y r hb hw hp e f (Ne.symm hcb)).symm)
  · intro c y r d z s e1 e2 e3 e4 e5 hne
    rw [get] at e1 e4
    unfold Mu.up at e3 e5
    by_cases hc : c = σ.nx
    · have hd : d ≠ σ.nx := fun e => hne (hc.trans e.symm)
      rw [if_pos hc] at e3
      rw [if_neg hd] at e5 e4
      cases e3
      split at e4
      · cases e4
      · rename_i hdb
        rw [hq]
        exact h.inj b x p d z s hb hw hp e4 e5 (Ne.symm hdb)
    · rw [if_neg hc] at e1 e3
      split at e1
      · cases e1
      · rename_i hcb
        by_cases hd : d = σ.nx
        · rw [if_pos hd] at e5
          cases e5
          rw [hq]
          exact (h.inj b x p c y r hb hw hp e1 e3 (Ne.symm hcb)).symm
        · rw [if_neg hd] at e4 e5
          split at e4
          · cases e4
          · exact h.inj c y r d z s e1 e2 e3 e4 e5 hne
  · intro i _ ho
    exact h5 i fun e => ho ⟨b, x, p, hb, hw, hp, e.symm⟩
  · rintro i hi ⟨c, y, r, e1, e2, e3, e4⟩
    rw [get] at e1
    unfold Mu.up at e3
    by_cases hc : c = σ.nx
    · rw [if_pos hc] at e3
      cases e3
      exact ⟨b, x, p, hb, hw, hp, by rw [← hq]; exact e4⟩
    · rw [if_neg hc] at e1 e3
      split at e1
      · cases e1
      · exact ⟨c, y, r, e1, e2, e3, e4⟩
  · rw [AH.nx_new, AH.nx_put, Pos.nat_succ]; omega
  · intro c l e
    have hc1 : c ≠ σ.nx := fun hc => by subst hc; rw [h.fresh _ (Nat.le_refl _)] at e; cases e
    have hc2 : c ≠ b := fun hc => by subst hc; rw [hb] at e; cases e; exact hroF l rfl
    rw [get, if_neg hc1, if_neg hc2]
    exact e
  · intro c l e
    rw [get] at e
    split at e
    · cases e; simp [AB.wr] at hx
    · split at e
      · cases e
      · exact e

end Go.Proofs.YtgaoddafkjdecaaGreat.EV
