/-
  EV, part F2: lists that came in, as memory that is only read; that arguments read behind a call as ahead of it. Own work of this claim.
-/
import Derived.Test.YtgaoddafkjdecaaGreatEvF
import Derived.Test.YtgaoddafkjdecaaGreatEvV2
import Derived.Carry
import Derived.ChangeSlices
set_option linter.unusedVariables false
set_option linter.unusedSimpArgs false
namespace Go.Proofs.YtgaoddafkjdecaaGreat.EV
open Go.RowKit Go.WideShapes Go.ChangeShapes Go.ChangeAt

theorem tp_pos (b : Pos) : b = tp (b.nat - 1) := Pos.nat_inj (by rw [tp_nat]; have := b.nat_pos; omega)

/-- rows that came in, by rising names -/
noncomputable def inTr : Nat → List (Plc × List AV) → Tr AB
  | _, [] => .lf
  | k, r :: rs => (inTr (k + 1) rs).set (some (.cells true r.2)) (tp k)
noncomputable def inAH (rs : List (Plc × List AV)) : AH := ⟨tp rs.length, inTr 0 rs⟩
noncomputable def inMu (rs : List (Plc × List AV)) : Mu := fun b => (rs[b.nat - 1]?).map (·.1)

theorem inTr_get : ∀ (rs : List (Plc × List AV)) (k i : Nat), (inTr k rs).get (tp i) = if k ≤ i then (rs[i - k]?).map fun r => AB.cells true r.2 else none
  | [], k, i => by simp [inTr]
  | r :: rs, k, i => by
    simp only [inTr]
    by_cases h : i = k
    · subst h
      rw [Tr.get_set_same]
      simp
    · rw [Tr.get_set_ne _ _ (fun e => h (tp_inj e)), inTr_get rs (k + 1) i]
      by_cases h2 : k ≤ i
      · rw [if_pos (by omega), if_pos h2, show i - k = (i - (k + 1)) + 1 by omega]
        simp
      · rw [if_neg (by omega), if_neg h2]

theorem inAH_get (rs : List (Plc × List AV)) (b : Pos) : (inAH rs).get b = (rs[b.nat - 1]?).map fun r => AB.cells true r.2 := by
  rw [tp_pos b]
  show (inTr 0 rs).get _ = _
  rw [inTr_get, if_pos (Nat.zero_le _), tp_nat]
  simp

theorem inRel {rs : List (Plc × List AV)} {w : World} (h : ∀ r ∈ rs, ∀ μ, RB μ w r.1 (.cells true r.2)) : Rel (inMu rs) (inAH rs) w := by
  refine ⟨?_, ?_, ?_, ?_⟩
  · intro b hb
    have : rs.length ≤ b.nat - 1 := by
      have : (inAH rs).nx.nat = rs.length + 1 := tp_nat _
      omega
    rw [inAH_get, List.getElem?_eq_none this]
    rfl
  · intro b p e
    unfold inMu at e
    obtain ⟨r, hr, rfl⟩ := Option.map_eq_some_iff.1 e
    have hlt := (List.getElem?_eq_some_iff.1 hr).1
    have : (inAH rs).nx.nat = rs.length + 1 := tp_nat _
    have hb := b.nat_pos
    obtain ⟨c, ee, fr, h1, _⟩ := h r (List.mem_of_getElem? hr) noMu
    exact ⟨by omega, (Array.getElem?_eq_some_iff.1 h1).1⟩
  · intro b x p e f
    rw [inAH_get] at e
    unfold inMu at f
    obtain ⟨r, hr, rfl⟩ := Option.map_eq_some_iff.1 e
    rw [hr] at f
    simp only [Option.map_some, Option.some.injEq] at f
    subst f
    exact h r (List.mem_of_getElem? hr) _
  · intro b x p c y q e1 e2
    rw [inAH_get] at e1
    obtain ⟨r, hr, rfl⟩ := Option.map_eq_some_iff.1 e1
    simp [AB.wr] at e2

theorem inWf (rs : List (Plc × List AV)) : Wf (inAH rs) := by
  intro b hb
  have : rs.length ≤ b.nat - 1 := by
    have : (inAH rs).nx.nat = rs.length + 1 := tp_nat _
    omega
  rw [inAH_get, List.getElem?_eq_none this]
  rfl

theorem inStep {rs : List (Plc × List AV)} {w w' : World} {μ' : Mu} {σ' : AH} (h : Step (inMu rs) (inAH rs) w μ' σ' w') : Below w.heap.size w w' :=
  ⟨h.fr.os, h.fr.tape, h.fr.output, h.fr.size, fun i hi => h.fr.keep i hi (by
    rintro ⟨b, x, p, h1, h2, _, _⟩
    rw [inAH_get] at h1
    obtain ⟨r, hr, rfl⟩ := Option.map_eq_some_iff.1 h1
    simp [AB.wr] at h2)⟩

/-- a slice of numbers that came in: its row, and how it stands -/
theorem in_ints {H : Type} {P : Program} {W : World} {base : Nat} {t e : TypeId} {k : IntKind} {v : Value} {d : DataW H} {ps : List MemPlace} {enc : TypeId × Value → H} (ht : P.underlying t = some (.slice e)) (he : P.underlying e = some (.int k)) (hc : P.cellsOf e = 1)
    (hval : Value.okWide P W .any base t v) (h : DataW.Trod enc P W 0 (fun _ => true) true t v d ps) (i : Nat) :
    (v = .slice none 0 0) ∨ ∃ (r : Plc × List AV) (n : Nat) (c : Cap), (∀ μ, RB μ W r.1 (.cells true r.2)) ∧ r.2.length = n ∧ (∀ a ∈ r.2, ∃ z : Int, (Lit.int k z).wf = true ∧ a = .int k z) ∧
      ∀ μ : Mu, μ (tp i) = some r.1 → RV μ (.slc (tp i) 0 n c) v := by
  obtain ⟨fuel, hf⟩ := h
  have hcs : ∀ a l c, v = .slice a l c → v.cells.toList = [v] := by intro a l c e; subst e; rfl
  obtain ⟨oa, ol, oc, ov⟩ := okWide_slice ht hval
  rcases open_ints ht he hc hf with ⟨hn, _⟩ | ⟨a, len, cap, zs, hv, _, hle, hmax, hzl, _, hcell, hwf⟩
  · left
    rw [hcs _ _ _ ov] at hn
    simpa using hn
  · right
    rw [hcs _ _ _ ov] at hv
    have hv : v = .slice (some a) len cap := by simpa using hv
    have hzl : zs.length = cap := by simpa using hzl
    have hhas : W.has P .any base a e cap := by
      subst hv
      simp only [Value.okWide, ht, Cell.okWide, Cell.ok] at hval
      exact hval.2.2
    obtain ⟨_, hspot, row, cells, hshape, _⟩ := hhas
    obtain ⟨c0, e0, fr0, hb⟩ : ∃ c e fr, W.heap[a.block]? = some (.cells c e fr) := by
      unfold World.shape? at hshape
      split at hshape
      · rename_i c e fr hb; exact ⟨c, e, fr, hb⟩
      · cases hshape
    obtain ⟨blk, off, spot⟩ := a
    simp only at hspot hb
    subst hspot
    have hadd : ∀ j, Addr.add ⟨blk, off, none⟩ j = ⟨blk, off + j, none⟩ := by
      intro j; unfold Addr.add; split
      · rename_i h; subst h; rfl
      · rfl
    have hcc : ∀ j, j < cap → c0[off + j]? = some (.int k (zs.getD j 0)) := by
      intro j hj
      have := hcell j (by omega)
      rw [hadd] at this
      simp [World.cell?, hb] at this
      exact this
    by_cases h0 : cap = 0
    · have hl0 : len = 0 := by omega
      refine ⟨(⟨blk, 0, 0⟩, []), 0, .opn 1, fun μ => ⟨c0, e0, fr0, hb, by simp, by simp, (fun h => by cases h), fun j a hj => by simp at hj⟩, rfl, fun a ha => by simp at ha, fun μ hμ => ?_⟩
      subst hv
      simp only [RV]
      exact ⟨_, hμ, _, cap, by rw [hl0], by omega, by simp [h0], .inr h0⟩
    · have hlast := hcc (cap - 1) (by omega)
      have hsz : off + cap ≤ c0.size := by
        have := (Array.getElem?_eq_some_iff.1 hlast).1
        omega
      refine ⟨(⟨blk, off, cap⟩, (List.range len).map fun j => AV.int k (zs.getD j 0)), len, .known cap, fun μ => ⟨c0, e0, fr0, hb, hsz, by simpa using hle, (fun h => by cases h), fun j a hj => ?_⟩, by simp, fun a ha => ?_, fun μ hμ => ?_⟩
      · rw [List.getElem?_map] at hj
        obtain ⟨z, hz, rfl⟩ := Option.map_eq_some_iff.1 hj
        have hzl2 := (List.getElem?_eq_some_iff.1 hz).1
        simp at hzl2
        rw [List.getElem?_range hzl2] at hz
        cases hz
        exact ⟨_, hcc j (by omega), rfl⟩
      · obtain ⟨j, hj, rfl⟩ := List.mem_map.1 ha
        rw [List.mem_range] at hj
        refine ⟨_, hwf _ ?_, rfl⟩
        rw [List.getD_eq_getElem?_getD, List.getElem?_eq_getElem (by omega)]
        exact List.getElem_mem _
      · subst hv
        simp only [RV]
        exact ⟨_, hμ, by simp⟩

/-- what came in reads, behind the call, as it did -/
theorem ins_kept {H : Type} {P : Program} {enc : TypeId × Value → H} {W V : World} (hl : laidOutB P = true) (kept : Below W.heap.size W V) : ∀ (ts : List TypeId) (vs : List Value) (ds : List (DataW H)) (ps : List MemPlace),
    (∀ t ∈ ts, P.readableRec t = true ∧ t < P.types.size) → DataW.TrodAll enc P W 0 (fun _ => true) true ts vs ds ps → (∀ x ∈ ps, x.block < W.heap.size) →
    ∀ sp : Nat → Bool, (∀ x ∈ ps, sp x.block = true) → DataW.TrodAll enc P V 0 sp true ts vs ds ps
  | [], vs, ds, ps, _, h, _, sp, _ => by
    obtain ⟨rfl, rfl, rfl⟩ := trodAll_nil h
    exact trodAll_mk0
  | t :: ts, vs, ds, ps, ht, h, hlt, sp, hsp => by
    obtain ⟨v, vs', d, ds', p, q, rfl, rfl, rfl, hd, hrest⟩ := trodAll_cons h
    have h1 := WideElems.Trod_stays hl (ht t (by simp)).1 (ht t (by simp)).2 hd (W' := V) (sp' := sp) (fun x hx => kept.same (hlt x (List.mem_append_left _ hx))) (fun x hx => hsp x (List.mem_append_left _ hx))
    have h2 := ins_kept hl kept ts vs' ds' q (fun u hu => ht u (by simp [hu])) hrest (fun x hx => hlt x (List.mem_append_right _ hx)) sp (fun x hx => hsp x (List.mem_append_right _ hx))
    exact ⟨p, q, h1, h2, rfl⟩

end Go.Proofs.YtgaoddafkjdecaaGreat.EV
