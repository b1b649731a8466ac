/-
  EV, part S6: memory: reading and writing cells, new blocks, aggregates. Own work of this claim.
-/
import Derived.Test.YtgaoddafkjdecaaGreatEvS5
set_option linter.unusedVariables false
set_option linter.unusedSimpArgs false
namespace Go.Proofs.YtgaoddafkjdecaaGreat.EV

section
variable {P : Program} {ms : List String} {w : World} {μ : Mu} {σ σ' : AH} {nt : Nat} {ρ : Env} {a : Act} {o : Oper} {out : Out} {tbl : Disp} {call : Call}

/-- a block of cells, new -/
theorem step_cells (h : Rel μ σ w) {cs : List AV} {c : Array Value} (e : TypeId) (hc : cs.length ≤ c.size)
    (r : ∀ (i : Nat) (x : AV), cs[i]? = some x → ∃ v, c[i]? = some v ∧ RV μ x v) :
    Step μ σ w (μ.up σ.nx ⟨w.heap.size, 0, c.size⟩) (σ.new (.cells false cs)) (w.alloc (.cells c e)) := by
  refine step_new h _ _ ⟨w.heap.size, 0, c.size⟩ rfl ⟨c, e, (0, 0), heap_push_eq _ _, by simp, hc, by simp, ?_⟩ rfl
  intro i x hx
  obtain ⟨v, hv, rv⟩ := r i x hx
  exact ⟨v, by simpa using hv, RV.mono (Mu.le_up h.mu_nx) _ _ rv⟩

theorem step_cells' (h : Rel μ σ w) {cs : List AV} {c : Array Value} (e : TypeId) (r : RVs μ cs c.toList) :
    Step μ σ w (μ.up σ.nx ⟨w.heap.size, 0, c.size⟩) (σ.new (.cells false cs)) (w.alloc (.cells c e)) :=
  step_cells h e (by rw [r.length]; simp) fun i x hx => by obtain ⟨v, hv, rv⟩ := r.get hx; exact ⟨v, by simpa using hv, rv⟩

theorem up_nx (μ : Mu) (b : Pos) (p : Plc) : μ.up b p b = some p := by simp [Mu.up]

theorem load_some {b : Pos} {q n : Nat} {l : List AV} (h : σ.load b q n = some l) : ∃ ro cs, σ.get b = some (.cells ro cs) ∧ q + n ≤ max cs.length q ∧ l = (cs.drop q).take n ∧ l.length = n := by
  unfold AH.load at h
  split at h
  · rename_i ro cs hb
    obtain ⟨h1, rfl⟩ := ltake_some h
    rw [ldrop_eq] at h1 ⊢
    refine ⟨ro, cs, hb, ?_, rfl, by simp at h1 ⊢; omega⟩
    simp at h1; omega
  · cases h

theorem load_get {b : Pos} {q n : Nat} {l : List AV} (h : σ.load b q n = some l) (hR : Rel μ σ w) {p : Plc} (hp : μ b = some p) :
    ∃ vs : List Value, vs.length = n ∧ RVs μ l vs ∧ ∀ (j : Nat) (v : Value), vs[j]? = some v → w.cell? ⟨p.blk, p.base + q + j, none⟩ = some v := by
  obtain ⟨ro, cs, hb, hq, rfl, hn⟩ := load_some h
  obtain ⟨c, e, fr, h1, h2, h3, h4, h5⟩ := hR.blk b _ p hb hp
  have hlen : ((cs.drop q).take n).length = n := hn
  have hin : ∀ j, j < n → q + j < cs.length := by intro j hj; simp at hn; omega
  refine ⟨(List.range n).map fun j => c.getD (p.base + q + j) undef, by simp, ?_, ?_⟩
  · refine RVs.of_get (by simp [hlen]) ?_
    intro i x v hx hv
    have hi : i < n := by have := (List.getElem?_eq_some_iff.1 hx).1; omega
    have hx' : cs[q + i]? = some x := by
      rw [List.getElem?_take_of_lt hi, List.getElem?_drop] at hx
      exact hx
    obtain ⟨u, hu, ru⟩ := h5 _ _ hx'
    have hv' : v = u := by
      rw [List.getElem?_map, List.getElem?_range hi] at hv
      simp at hv
      rw [show p.base + q + i = p.base + (q + i) by omega, hu] at hv
      simpa using hv.symm
    rw [hv']; exact ru
  · intro j v hv
    have hj : j < n := by have := (List.getElem?_eq_some_iff.1 hv).1; simpa using this
    rw [List.getElem?_map, List.getElem?_range hj] at hv
    simp at hv
    have hcl : q + j < cs.length := hin j hj
    have hx' : cs[q + j]? = some cs[q + j] := List.getElem?_eq_getElem hcl
    obtain ⟨u, hu, ru⟩ := h5 _ _ hx'
    rw [show p.base + q + j = p.base + (q + j) by omega, hu] at hv
    simp at hv
    subst hv
    simp only [World.cell?, h1]
    rw [show p.base + q + j = p.base + (q + j) by omega]
    simpa using hu

theorem load_run {b : Pos} {q n : Nat} {l : List AV} (h : σ.load b q n = some l) (hR : Rel μ σ w) {p : Plc} (hp : μ b = some p) :
    ∃ vs : List Value, vs.length = n ∧ RVs μ l vs ∧ (loadCells ⟨p.blk, p.base + q, none⟩ n).run P w = .ok vs.toArray w ∧
      ∀ (j : Nat) (v : Value), vs[j]? = some v → w.cell? ⟨p.blk, p.base + q + j, none⟩ = some v := by
  obtain ⟨vs, hn, r, hc⟩ := load_get h hR hp
  refine ⟨vs, hn, r, ?_, hc⟩
  have := run_loadCells_list (P := P) w ⟨p.blk, p.base + q, none⟩ vs (fun j v hv => by rw [Addr.add_lit]; exact hc j v hv)
  rwa [hn] at this

/-- values laid over a row from place o on -/
def Over (c c' : Array Value) (o : Nat) (vs : List Value) : Prop :=
  c'.size = c.size ∧ ∀ j : Nat, c'[j]? = if o ≤ j ∧ j < o + vs.length then vs[j - o]? else c[j]?

theorem setCell_at {a : Addr} {c : Array Value} {e : TypeId} {fr : Nat × Nat} (hb : w.heap[a.block]? = some (.cells c e fr)) (hs : a.spot = none) (v : Value) :
    w.setCell a v = { w with heap := w.heap.setIfInBounds a.block (.cells (c.setIfInBounds a.off v) e fr) } := by
  unfold World.setCell
  congr 1
  apply Array.ext_getElem?
  intro i
  rw [Array.getElem?_modify, Array.getElem?_setIfInBounds]
  by_cases h : a.block = i
  · subst h
    rw [if_pos rfl, hb]
    have hlt : a.block < w.heap.size := (Array.getElem?_eq_some_iff.1 hb).1
    simp [hs, hlt]
  · simp [h]

theorem run_storeCells (x : Addr) (hs : x.spot = none) : ∀ (vs : List Value) (i : Nat) (w : World) (c : Array Value) (e : TypeId) (fr : Nat × Nat),
    w.heap[x.block]? = some (.cells c e fr) → x.off + i + vs.length ≤ c.size → (∀ j, j < vs.length → ¬ (fr.1 ≤ x.off + i + j ∧ x.off + i + j < fr.2)) →
    (∀ v ∈ vs, vOne v = true) →
    ∃ c', (storeCells x vs i).run P w = .ok () { w with heap := w.heap.setIfInBounds x.block (.cells c' e fr) } ∧ Over c c' (x.off + i) vs
  | [], i, w, c, e, fr, hb, _, _, _ => by
    refine ⟨c, ?_, rfl, ?_⟩
    · simp only [storeCells, Sem.run_pure]
      congr 1
      have hlt : x.block < w.heap.size := (Array.getElem?_eq_some_iff.1 hb).1
      have : w.heap.setIfInBounds x.block (.cells c e fr) = w.heap := by
        apply Array.ext_getElem?
        intro k
        rw [Array.getElem?_setIfInBounds]
        split
        · rename_i hk; subst hk; rw [hb]
        · rfl
      rw [this]
    · intro j
      rw [if_neg (by simp; try omega)]
  | v :: vs, i, w, c, e, fr, hb, hl, hf, ho => by
    simp only [List.length_cons] at hl hf
    have hadd : x.add i = ⟨x.block, x.off + i, none⟩ := by
      obtain ⟨xb, xo, xs⟩ := x
      simp only at hs
      subst hs
      exact Addr.add_lit _ _ _
    have hcell : w.cell? (x.add i) = some (c[x.off + i]'(by omega)) := by
      rw [hadd]
      simp only [World.cell?, hb]
      simp
      try omega
    have hfz : w.frozen? (x.add i) = false := by
      rw [hadd]
      simp only [World.frozen?, hb]
      have := hf 0 (by omega)
      simp only [Nat.add_zero] at this
      rw [Bool.eq_false_iff]
      intro hh
      simp at hh
      exact this hh
    have hone : v.oneCell' = true := by have := ho v (by simp); cases v <;> first | rfl | cases this
    have hset : w.setCell (x.add i) v = { w with heap := w.heap.setIfInBounds x.block (.cells (c.setIfInBounds (x.off + i) v) e fr) } := by
      rw [hadd]; exact setCell_at (a := ⟨x.block, x.off + i, none⟩) hb rfl v
    have hlt : x.block < w.heap.size := (Array.getElem?_eq_some_iff.1 hb).1
    obtain ⟨c', hr, hsz, hov⟩ := run_storeCells x hs vs (i + 1) (w.setCell (x.add i) v) (c.setIfInBounds (x.off + i) v) e fr (by rw [hset]; simp [hlt]) (by simp; omega)
      (fun j hj => by have := hf (j + 1) (by omega); rwa [show x.off + i + (j + 1) = x.off + (i + 1) + j by omega] at this) (fun u hu => ho u (by simp [hu]))
    refine ⟨c', ?_, by simpa using hsz, ?_⟩
    · simp only [storeCells, Sem.run_bind, run_store P w _ v _ hone, hcell, hfz, Bool.false_eq_true, if_false, Result.andThen_ok, hr]
      rw [hset]
      simp
    · intro j
      rw [hov j]
      simp only [List.length_cons]
      by_cases h1 : x.off + (i + 1) ≤ j ∧ j < x.off + (i + 1) + vs.length
      · rw [if_pos h1, if_pos (by omega)]
        rw [show j - (x.off + i) = (j - (x.off + (i + 1))) + 1 by omega]
        simp
      · rw [if_neg h1, Array.getElem?_setIfInBounds]
        by_cases h2 : x.off + i = j
        · subst h2
          rw [if_pos rfl, if_pos (by omega), if_pos (by omega)]
          simp
        · rw [if_neg h2, if_neg (by omega)]

theorem RB_over {p : Plc} {ro : Bool} {l l' : List AV} {q : Nat} {as : List AV} {vs : List Value} {c c' : Array Value} {e : TypeId} {fr : Nat × Nat} {w' : World}
    (h2 : p.base + p.cap ≤ c.size) (h3 : l.length ≤ p.cap) (h4 : ro = false → fr.1 = fr.2 ∨ p.base + p.cap ≤ fr.1)
    (h5 : ∀ (i : Nat) (a : AV), l[i]? = some a → ∃ v, c[p.base + i]? = some v ∧ RV μ a v)
    (hl : lput q as l = some l') (hv : RVs μ as vs) (hov : Over c c' (p.base + q) vs) (hw : w'.heap[p.blk]? = some (.cells c' e fr)) : RB μ w' p (.cells ro l') := by
  obtain ⟨hsz, hget⟩ := hov
  have hg := fun j => lput_get hl j
  have hlen := (hg 0).1
  refine ⟨c', e, fr, hw, by omega, by omega, h4, ?_⟩
  intro i x hx
  rw [(hg i).2] at hx
  rw [hget]
  have hal := hv.length
  by_cases hi : q ≤ i ∧ i < q + as.length
  · rw [if_pos hi] at hx
    obtain ⟨v, hv', rv⟩ := hv.get hx
    rw [if_pos (by omega)]
    exact ⟨v, by rw [show p.base + i - (p.base + q) = i - q by omega]; exact hv', rv⟩
  · rw [if_neg hi] at hx
    rw [if_neg (by omega)]
    exact h5 i x hx

/-- a store into cells that are known -/
theorem store_run (hR : Rel μ σ w) {b : Pos} {q : Nat} {as : List AV} {vs : List Value} (hv : RVs μ as vs) (ho : okVals as = true) {p : Plc} (hp : μ b = some p)
    {l l' : List AV} (hb : σ.get b = some (.cells false l)) (hl : lput q as l = some l') :
    ∃ w', (storeCells ⟨p.blk, p.base + q, none⟩ vs).run P w = .ok () w' ∧ Step μ σ w μ (σ.put b (some (.cells false l'))) w' := by
  obtain ⟨c, e, fr, h1, h2, h3, h4, h5⟩ := hR.blk b _ p hb hp
  obtain ⟨hlen, rfl⟩ := lput_some hl
  have hal := hv.length
  obtain ⟨c', hr, hov⟩ := run_storeCells (P := P) ⟨p.blk, p.base + q, none⟩ rfl vs 0 w c e fr h1 (by simp only; omega)
    (fun j hj => by have := h4 rfl; simp only [Nat.add_zero]; omega) (hv.oneCell ho)
  refine ⟨_, hr, ?_⟩
  have hlt : p.blk < w.heap.size := (Array.getElem?_eq_some_iff.1 h1).1
  refine step_mod hR hb rfl hp rfl rfl rfl rfl (by simp) (fun i hi => by simp [Ne.symm hi]) ?_
  exact RB_over (fr := fr) (e := e) h2 h3 h4 h5 hl hv (by simpa using hov) (by simp [hlt])

theorem storeK_inv {b : Pos} {q : Nat} {as : List AV} {β : Type} {k : AH → Option β} {r : β} (h : σ.storeK b q as k = some r) :
    ∃ l l', σ.get b = some (.cells false l) ∧ lput q as l = some l' ∧ k (σ.put b (some (.cells false l'))) = some r := by
  unfold AH.storeK at h
  split at h
  · rename_i l hb
    split at h
    · rename_i l' hl
      rw [AH.setK_eq] at h
      exact ⟨l, l', hb, hl, h⟩
    · cases h
  · cases h

/-! ### Loads and stores -/

theorem q_load1 (hR : Rel μ σ w) (hA : RA μ nt ρ a) {t : TypeId} {x : Operand} {x' : AO} (ho : o.op = .load t x) (hx : cOpd x = some x') (hg : isAggT P t = some false)
    (hev : evOp tbl call ρ σ (.load1 x') = some (out, σ')) : Quiet P o a μ σ w out σ' := by
  have rx := opd_RV hA hx
  simp only [evOp] at hev
  split at hev
  · rename_i b q hb
    obtain ⟨p, hp, ex⟩ := ev_ptr hb rx
    split at hev
    · rename_i v hl
      obtain ⟨vs, hn, r, _, hc⟩ := load_run (P := P) hl hR hp
      simp only [RVs] at r
      obtain ⟨u, t', rfl, ru, rfl⟩ := r
      have h0 := hc 0 u (by simp)
      simp only [Nat.add_zero] at h0
      refine Quiet.same hR (val_inv hev) ru (.of_value ?_)
      simp [execOp, ho, Instr.loadAt, ex, Instr.sureAddr, loadVar, run_isAgg hg, h0]
    · cases hev
  · cases hev

theorem q_loadN (hR : Rel μ σ w) (hA : RA μ nt ρ a) {t : TypeId} {n : Nat} {x : Operand} {x' : AO} (ho : o.op = .load t x) (hx : cOpd x = some x') (hg : isAggT P t = some true)
    (hn : sizeT P t = some n) (hev : evOp tbl call ρ σ (.loadN n x') = some (out, σ')) : Quiet P o a μ σ w out σ' := by
  have rx := opd_RV hA hx
  simp only [evOp] at hev
  split at hev
  · rename_i b q hb
    obtain ⟨p, hp, ex⟩ := ev_ptr hb rx
    split at hev
    · rename_i l hl
      obtain ⟨vs, hvn, r, hrun, _⟩ := load_run (P := P) hl hR hp
      refine Quiet.same (v' := .agg vs.toArray) hR (val_inv hev) ⟨vs.toArray, rfl, by simpa using r⟩ (.of_value ?_)
      simp [execOp, ho, Instr.loadAt, ex, Instr.sureAddr, loadVar, run_isAgg hg, run_sizeOf hn, hrun]
    · cases hev
  · cases hev

theorem q_store (hR : Rel μ σ w) (hA : RA μ nt ρ a) {t : TypeId} {n : Nat} {x y : Operand} {x' y' : AO} (ho : o.op = .store t x y) (hx : cOpd x = some x') (hy : cOpd y = some y')
    (hn : sizeT P t = some n) (hev : evOp tbl call ρ σ (.store n x' y') = some (out, σ')) : Quiet P o a μ σ w out σ' := by
  have rx := opd_RV hA hx
  have ry := opd_RV hA hy
  simp only [evOp] at hev
  split at hev
  · rename_i b q hb
    obtain ⟨p, hp, ex⟩ := ev_ptr hb rx
    have key : (y'.ev ρ).known = true ∧ (y'.ev ρ).cells.length = n ∧ okVals (y'.ev ρ).cells = true ∧ (σ.storeK b q (y'.ev ρ).cells fun σ => val unA σ) = some (out, σ') := by
      split at hev
      · cases hev
      · rename_i v hv
        simp only [cond_eq_ite, Bool.and_eq_true] at hev
        split at hev
        · rename_i h
          refine ⟨?_, Nat.eq_of_beq_eq_true h.1, h.2, hev⟩
          generalize y'.ev ρ = z at hv
          cases z <;> first | rfl | exact absurd rfl hv
        · cases hev
    obtain ⟨hk, hlen, hok, hev⟩ := key
    have rc := ry.cells hk
    obtain ⟨l, l', hbl, hl, hev⟩ := storeK_inv hev
    obtain ⟨w', hrun, hst⟩ := store_run (P := P) hR rc hok hp hbl hl
    obtain ⟨rfl, rfl⟩ := val_inv hev
    refine ⟨unA, μ, w', undef, rfl, hst, RV_unA _, .inr ⟨?_, rfl⟩⟩
    have hsz : (a.eval y).cells.size = n := by have := rc.length; simp at this; omega
    simp [execOp, ho, Instr.storeAt, ex, Instr.sureAddr, storeVar, run_sizeOf hn, hsz, hrun]
  · cases hev

/-! ### New blocks -/

theorem newVar_run (t : TypeId) (v : Value) : (newVar t v).run P w = .ok ⟨w.heap.size, 0, none⟩ (w.alloc (.cells v.cells t)) := rfl

theorem q_alloc (hR : Rel μ σ w) {e : TypeId} {z : List AV} (ho : o.op = .alloc e) (hz : zeroCells P e = some z)
    (hev : evOp tbl call ρ σ (.alloc z) = some (out, σ')) : QuietM P o a μ σ w out σ' := by
  obtain ⟨i, zv, hi, hzv, hlen, r⟩ := zeroCells_spec hz
  simp only [evOp, AH.newK_eq] at hev
  obtain ⟨rfl, rfl⟩ := val_inv hev
  refine ⟨_, fun b => .ptr b 0, rfl, rfl, rfl, fun _ _ => rfl, makes_cells (e := e) (r μ) (.inl ?_) fun ν b hb => ⟨_, hb, rfl⟩⟩
  simp [execOp, ho, Instr.alloc, run_zeroValue hi hzv, newVar_run]

theorem q_box (hR : Rel μ σ w) (hA : RA μ nt ρ a) {e : TypeId} {n : Nat} {x : Operand} {x' : AO} (ho : o.op = .box e x) (hx : cOpd x = some x')
    (hev : evOp tbl call ρ σ (.box n x') = some (out, σ')) : QuietM P o a μ σ w out σ' := by
  have rx := opd_RV hA hx
  simp only [evOp] at hev
  have key : (x'.ev ρ).known = true ∧ (σ.newK (.cells false (x'.ev ρ).cells) fun b σ => val (.ptr b 0) σ) = some (out, σ') := by
    split at hev
    · cases hev
    · rename_i v hv
      simp only [cond_eq_ite] at hev
      split at hev
      · refine ⟨?_, hev⟩
        generalize x'.ev ρ = z at hv
        cases z <;> first | rfl | exact absurd rfl hv
      · cases hev
  obtain ⟨hk, hev⟩ := key
  rw [AH.newK_eq] at hev
  obtain ⟨rfl, rfl⟩ := val_inv hev
  refine ⟨_, fun b => .ptr b 0, rfl, rfl, rfl, fun _ _ => rfl, makes_cells (e := e) (rx.cells hk) (.inl ?_) fun ν b hb => ⟨_, hb, rfl⟩⟩
  simp [execOp, ho, Instr.box, newVar_run]

/-! ### Aggregates -/

theorem foldl_over (off : Nat) : ∀ (vs : List Value) (k : Nat) (c : Array Value), off + k + vs.length ≤ c.size →
    Over c ((vs.zipIdx k).foldl (fun cs (x : Value × Nat) => cs.setIfInBounds (off + x.2) x.1) c) (off + k) vs
  | [], k, c, _ => ⟨rfl, fun j => by simp; intro h1 h2; omega⟩
  | v :: vs, k, c, h => by
    simp only [List.length_cons] at h
    simp only [List.zipIdx_cons, List.foldl_cons]
    obtain ⟨hs, hg⟩ := foldl_over off vs (k + 1) (c.setIfInBounds (off + k) v) (by simp; omega)
    refine ⟨by simpa using hs, fun j => ?_⟩
    rw [hg j]
    simp only [List.length_cons]
    by_cases h1 : off + (k + 1) ≤ j ∧ j < off + (k + 1) + vs.length
    · rw [if_pos h1, if_pos (by omega), show j - (off + k) = (j - (off + (k + 1))) + 1 by omega]
      simp
    · rw [if_neg h1, Array.getElem?_setIfInBounds]
      by_cases h2 : off + k = j
      · subst h2
        rw [if_pos rfl, if_pos (by omega), if_pos (by omega)]
        simp
      · rw [if_neg h2, if_neg (by omega)]

theorem over_RVs {l l' : List AV} {c c' : Array Value} {off : Nat} {as : List AV} {vs : List Value} (r : RVs μ l c.toList) (hl : lput off as l = some l') (hv : RVs μ as vs)
    (hov : Over c c' off vs) : RVs μ l' c'.toList := by
  obtain ⟨hsz, hget⟩ := hov
  have hg := fun j => lput_get hl j
  have hlen := (hg 0).1
  have hrl := r.length
  have hal := hv.length
  refine RVs.of_get (by simp at hrl ⊢; omega) ?_
  intro i x v hx hxv
  rw [(hg i).2] at hx
  rw [Array.getElem?_toList, hget] at hxv
  by_cases hi : off ≤ i ∧ i < off + as.length
  · rw [if_pos hi] at hx
    rw [if_pos (by omega)] at hxv
    obtain ⟨u, hu, ru⟩ := hv.get hx
    rw [hu] at hxv
    cases hxv
    exact ru
  · rw [if_neg hi] at hx
    rw [if_neg (by omega)] at hxv
    obtain ⟨u, hu, ru⟩ := r.get hx
    rw [Array.getElem?_toList] at hu
    rw [hu] at hxv
    cases hxv
    exact ru

/-- parts as the evaluator has them stand for the model's parts -/
def PartsOK (μ : Mu) (place : Nat → Option (Nat × Nat)) : List (Nat × Nat × AV) → List (Nat × Value) → Prop
  | [], ps => ps = []
  | (off, n, x) :: l, ps => ∃ i v r, ps = (i, v) :: r ∧ place i = some (off, n) ∧ RV μ x v ∧ PartsOK μ place l r

theorem fill_spec {place : Nat → Option (Nat × Nat)} : ∀ {ps : List (Nat × Nat × AV)} {qs : List (Nat × Value)} {l : List AV} {c : Array Value} {l' : List AV},
    PartsOK μ place ps qs → RVs μ l c.toList → fillA l ps = some l' → ∃ c', Instr.fill place c qs = some c' ∧ RVs μ l' c'.toList
  | [], qs, l, c, l', h, r, hf => by
    simp only [PartsOK] at h
    subst h
    simp [fillA] at hf
    subst hf
    exact ⟨c, rfl, r⟩
  | (off, n, x) :: ps, qs, l, c, l', h, r, hf => by
    simp only [PartsOK] at h
    obtain ⟨i, v, t, rfl, hpl, rx, hps⟩ := h
    simp only [fillA] at hf
    have key : x.known = true ∧ x.cells.length = n ∧ ∃ m, lput off x.cells l = some m ∧ fillA m ps = some l' := by
      split at hf
      · cases hf
      · rename_i hv
        simp only [cond_eq_ite] at hf
        split at hf
        · rename_i hn
          split at hf
          · rename_i m hm
            refine ⟨?_, Nat.eq_of_beq_eq_true hn, m, hm, hf⟩
            cases x <;> first | rfl | exact absurd rfl hv
          · cases hf
        · cases hf
    obtain ⟨hk, hn, m, hm, hf⟩ := key
    have rc := rx.cells hk
    have hcl := rc.length
    have hlen := (lput_some hm).1
    have hrl := r.length
    simp at hcl hrl
    have hcond : ¬ (v.cells.size ≠ n ∨ off + v.cells.size > c.size) := by omega
    have hov := foldl_over off v.cells.toList 0 c (by simp; omega)
    have r' := over_RVs r hm rc (by simpa using hov)
    obtain ⟨c', hc', hr'⟩ := fill_spec hps r' hf
    refine ⟨c', ?_, hr'⟩
    simp only [Instr.fill, hpl]
    have hcond' : (decide (v.cells.size ≠ n) || decide (off + v.cells.size > c.size)) = false := by simp; omega
    rw [if_neg (by simpa using hcond)]
    rw [← Array.foldl_toList, Array.toList_zipIdx]
    exact hc'

theorem parts_fields (hA : RA μ nt ρ a) {fs : Array Field} {place : Nat → Option (Nat × Nat)}
    (hpl : ∀ i f n, fs[i]? = some f → sizeT P f.type = some n → place i = some (f.offset, n)) :
    ∀ {ps : List (Nat × Operand)} {l : List (Nat × Nat × AO)}, cFields P fs ps = some l → PartsOK μ place (evParts ρ l) (ps.map fun (i, x) => (i, a.eval x))
  | [], l, h => by simp [cFields] at h; subst h; simp [evParts, PartsOK]
  | (i, x) :: ps, l, h => by
    simp only [cFields] at h
    cases hf : fs[i]? with
    | none => rw [hf] at h; cases h
    | some f =>
      rw [hf] at h
      simp only at h
      split at h
      · rename_i n y r hn hx hr
        cases h
        simp only [evParts, PartsOK, List.map_cons]
        exact ⟨i, _, _, rfl, hpl i f n hf hn, opd_RV hA hx, parts_fields hA hpl hr⟩
      · cases h

theorem parts_elems (hA : RA μ nt ρ a) (sz : Nat) : ∀ {ps : List (Nat × Operand)} {l : List (Nat × Nat × AO)}, cElems sz ps = some l →
    PartsOK μ (fun i => some (i * sz, sz)) (evParts ρ l) (ps.map fun (i, x) => (i, a.eval x))
  | [], l, h => by simp [cElems] at h; subst h; simp [evParts, PartsOK]
  | (i, x) :: ps, l, h => by
    simp only [cElems] at h
    split at h
    · rename_i y r hx hr
      cases h
      simp only [evParts, PartsOK, List.map_cons]
      exact ⟨i, _, _, rfl, rfl, opd_RV hA hx, parts_elems hA sz hr⟩
    · cases h

end
end Go.Proofs.YtgaoddafkjdecaaGreat.EV
