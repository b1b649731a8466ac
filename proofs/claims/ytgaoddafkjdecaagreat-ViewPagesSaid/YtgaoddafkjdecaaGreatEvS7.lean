/-
  EV, part S7: aggregates, slices, conversions between texts and bytes, make, append, copy. Own work of this claim.
-/
import Derived.Test.YtgaoddafkjdecaaGreatEvS6
set_option linter.unusedVariables false
set_option linter.unusedSimpArgs false
namespace Go.Proofs.YtgaoddafkjdecaaGreat.EV

section
variable {P : Program} {ms : List String} {w : World} {μ : Mu} {σ σ' : AH} {nt : Nat} {ρ : Env} {a : Act} {o : Oper} {out : Out} {tbl : Disp} {call : Call}

theorem mapM_fields {fs : List Field} (h : ∀ f ∈ fs, ∃ n, sizeT P f.type = some n) :
    (fs.mapM (m := Sem) fun f => do pure (f.offset, ← sizeOf f.type)).run P w = .ok (fs.map fun f => (f.offset, (sizeT P f.type).getD 0)) w := by
  induction fs with
  | nil => simp
  | cons f fs ih =>
    obtain ⟨n, hn⟩ := h f (by simp)
    have ih := ih fun g hg => h g (by simp [hg])
    simp only [bind_pure_comp, Sem.run_map] at ih
    simp [run_sizeOf hn, ih, hn]

theorem fields_all {P : Program} {fs : Array Field} (h : fs.toList.all (fun f => (sizeT P f.type).isSome) = true) : ∀ f ∈ fs.toList, ∃ n, sizeT P f.type = some n := by
  intro f hf
  have := List.all_eq_true.1 h f hf
  exact Option.isSome_iff_exists.1 this

theorem q_build_struct (hR : Rel μ σ w) (hA : RA μ nt ρ a) {t : TypeId} {fs : Array Field} {z : List AV} {ps : Array (Nat × Operand)} {l : List (Nat × Nat × AO)}
    (ho : o.op = .build t ps) (ht : P.underlying t = some (.struct fs)) (hz : zeroCells P t = some z) (hall : fs.toList.all (fun f => (sizeT P f.type).isSome) = true)
    (hl : cFields P fs ps.toList = some l) (hev : evOp tbl call ρ σ (.build z l) = some (out, σ')) : Quiet P o a μ σ w out σ' := by
  obtain ⟨i, zv, hi, hzv, hlen, rz⟩ := zeroCells_spec hz
  simp only [evOp] at hev
  split at hev
  · rename_i cs hcs
    have hp := parts_fields (μ := μ) (place := ((fs.map fun f => (f.offset, (sizeT P f.type).getD 0))[·]?)) hA (by
      intro i f n hf hn
      simp [hf, hn]) hl
    obtain ⟨c', hc', rc⟩ := fill_spec hp (rz μ) hcs
    refine Quiet.same (v' := .agg c') hR (val_inv hev) ⟨c', rfl, rc⟩ (.of_value ?_)
    have hm : (fs.mapM (m := Sem) fun f => do pure (f.offset, ← sizeOf f.type)).run P w = .ok (fs.map fun f => (f.offset, (sizeT P f.type).getD 0)) w := by
      have h1 := mapM_fields (P := P) (w := w) (fields_all hall)
      rw [← Array.toList_mapM] at h1
      simp only [Sem.run_map] at h1
      cases hx : (fs.mapM (m := Sem) fun f => do pure (f.offset, ← sizeOf f.type)).run P w with
      | ok r w' =>
        rw [hx] at h1
        simp at h1
        obtain ⟨h2, rfl⟩ := h1
        congr 1
        apply Array.ext'
        rw [h2]; simp
      | halt h' w' => rw [hx] at h1; simp at h1
    have hparts : (Array.map (fun (x : Nat × Operand) => (x.1, a.eval x.2)) ps).toList = List.map (fun (x : Nat × Operand) => (x.1, a.eval x.2)) ps.toList := by simp
    simp only [execOp, ho, Instr.build, Sem.run_bind, run_zeroValue hi hzv, run_underlying ht, Result.andThen_ok]
    rw [hm]
    simp only [Result.andThen_ok, hparts]
    rw [hc']
    rfl
  · cases hev

theorem q_build_array (hR : Rel μ σ w) (hA : RA μ nt ρ a) {t e : TypeId} {n sz : Nat} {z : List AV} {ps : Array (Nat × Operand)} {l : List (Nat × Nat × AO)}
    (ho : o.op = .build t ps) (ht : P.underlying t = some (.array n e)) (hz : zeroCells P t = some z) (hs : sizeT P e = some sz)
    (hl : cElems sz ps.toList = some l) (hev : evOp tbl call ρ σ (.build z l) = some (out, σ')) : Quiet P o a μ σ w out σ' := by
  obtain ⟨i, zv, hi, hzv, hlen, rz⟩ := zeroCells_spec hz
  simp only [evOp] at hev
  split at hev
  · rename_i cs hcs
    obtain ⟨c', hc', rc⟩ := fill_spec (parts_elems (μ := μ) hA sz hl) (rz μ) hcs
    refine Quiet.same (v' := .agg c') hR (val_inv hev) ⟨c', rfl, rc⟩ (.of_value ?_)
    have hparts : (Array.map (fun (x : Nat × Operand) => (x.1, a.eval x.2)) ps).toList = List.map (fun (x : Nat × Operand) => (x.1, a.eval x.2)) ps.toList := by simp
    simp only [execOp, ho, Instr.build, Sem.run_bind, run_zeroValue hi hzv, run_underlying ht, Result.andThen_ok, run_sizeOf hs, hparts]
    rw [hc']
    rfl
  · cases hev

theorem flat_get {α : Type} (l : List α) : ∀ (n i : Nat), i < n * l.length → (List.replicate n l).flatten[i]? = l[i % l.length]?
  | 0, i, h => by simp at h
  | n + 1, i, h => by
    rw [List.replicate_succ, List.flatten_cons]
    by_cases hi : i < l.length
    · rw [List.getElem?_append_left hi, Nat.mod_eq_of_lt hi]
    · have hi := Nat.le_of_not_lt hi
      rw [List.getElem?_append_right hi, flat_get l n (i - l.length) (by rw [Nat.succ_mul] at h; omega), Nat.mod_eq_sub_mod hi]

theorem flat_len {α : Type} (l : List α) (n : Nat) : (List.replicate n l).flatten.length = n * l.length := by
  induction n with
  | zero => simp
  | succ n ih => rw [List.replicate_succ, List.flatten_cons, List.length_append, ih, Nat.succ_mul]; omega

theorem range_flat (z : Array Value) (n k : Nat) (h : k = n * z.size) : ((Array.range k).map (z[· % z.size]!)).toList = (List.replicate n z.toList).flatten := by
  subst h
  apply List.ext_getElem?
  intro i
  by_cases hi : i < n * z.size
  · rw [flat_get _ _ _ (by simpa using hi)]
    have hz : 0 < z.size := by rcases Nat.eq_zero_or_pos z.size with h0 | h0 <;> simp_all
    have hm : i % z.size < z.size := Nat.mod_lt _ hz
    simp [hi, hm, hz]
  · have h1 : n * z.size ≤ i := Nat.le_of_not_lt hi
    rw [List.getElem?_eq_none (by simpa using h1), List.getElem?_eq_none (by rw [flat_len]; simpa using h1)]

theorem q_bslice (hR : Rel μ σ w) (hA : RA μ nt ρ a) {t e : TypeId} {len sz : Nat} {z : List AV} {ps : Array (Nat × Operand)} {l : List (Nat × Nat × AO)}
    (ho : o.op = .buildSlice t len ps) (ht : P.underlying t = some (.slice e)) (hz : zeroCells P e = some z) (hs : sizeT P e = some sz) (hlim : len * sz ≤ 16777216)
    (hl : cElems sz ps.toList = some l) (hev : evOp tbl call ρ σ (.bslice len (List.replicate len z).flatten l) = some (out, σ')) : QuietM P o a μ σ w out σ' := by
  obtain ⟨i, zv, hi, hzv, hlen, rz⟩ := zeroCells_spec hz
  have hisz : i.size = sz := by unfold sizeT at hs; rw [hi] at hs; simpa using hs
  simp only [evOp] at hev
  split at hev
  · rename_i cs hcs
    rw [AH.newK_eq] at hev
    obtain ⟨rfl, rfl⟩ := val_inv hev
    have hzs : zv.cells.size = sz := by have := (rz μ).length; simp at this; omega
    have hrow : RVs μ (List.replicate len z).flatten ((Array.range (len * sz)).map (zv.cells[· % zv.cells.size]!)).toList := by
      rw [range_flat zv.cells len (len * sz) (by rw [hzs])]
      exact (rz μ).flat len
    obtain ⟨c', hc', rc⟩ := fill_spec (parts_elems (μ := μ) hA sz hl) hrow hcs
    refine ⟨_, fun b => .slc b 0 len (.known len), rfl, rfl, rfl, fun _ _ => rfl, makes_cells (e := e) (v' := .slice (some ⟨w.heap.size, 0, none⟩) len len) rc (.inl ?_) fun ν b hb => ⟨_, hb, rfl⟩⟩
    have hparts : (Array.map (fun (x : Nat × Operand) => (x.1, a.eval x.2)) ps).toList = List.map (fun (x : Nat × Operand) => (x.1, a.eval x.2)) ps.toList := by simp
    have hlim' : ¬ (len * sz > 2 ^ 24) := by omega
    simp only [execOp, ho, Instr.buildSlice, Sem.run_bind, run_underlying ht, Result.andThen_ok, run_sizeOf hs, hlim', if_false, hparts]
    by_cases h0 : len * sz = 0
    · have hrange : (Array.range (len * sz)).map (zv.cells[· % zv.cells.size]!) = #[] := by rw [h0]; simp
      rw [hrange] at hc'
      simp only [h0, if_true, Sem.run_pure, Result.andThen_ok, Array.range_zero', Array.map_empty]
      rw [hc']
      rfl
    · simp only [h0, if_false, Sem.run_bind, run_zeroValue hi hzv, Result.andThen_ok, Sem.run_pure, hc', newRow, run_newObj]
      rfl
  · cases hev

/-! ### Texts and bytes -/

theorem ofBytes_RVs (μ : Mu) (l : List UInt8) : RVs μ (ofBytes (l.map (·.toNat))) (l.map fun b => .int .u8 b.toNat) := by
  induction l with
  | nil => simp [ofBytes, RVs]
  | cons b l ih => exact ⟨_, _, rfl, by simp [RV], ih⟩

theorem ofBytes_ok (l : List Nat) : okVals (ofBytes l) = true := by
  induction l with
  | nil => rfl
  | cons b l ih => simp [ofBytes, okVals, AV.one, ih]

theorem ofBytes_len (l : List Nat) : (ofBytes l).length = l.length := by
  induction l with
  | nil => rfl
  | cons b l ih => simp [ofBytes, ih]

theorem bytesOf_spec : ∀ {cs : List AV} {l : List Nat} {vs : List Value}, bytesOf cs = some l → RVs μ cs vs → vs = l.map (fun n => .int .u8 (n : Int)) ∧ ∀ n ∈ l, n < 256
  | [], l, vs, h, r => by simp [bytesOf] at h; subst h; exact ⟨by simpa [RVs] using r, by simp⟩
  | x :: cs, l, vs, h, r => by
    unfold bytesOf at h
    split at h
    · rename_i h1; cases h1
    · rename_i n r' h1
      cases h1
      simp only [cond_eq_ite] at h
      split at h
      · rename_i hn
        have hn : n < 256 := by simpa [Nat.blt_eq] using hn
        split at h
        · rename_i t ht
          cases h
          simp only [RVs] at r
          obtain ⟨v, rr, rfl, rv, rr'⟩ := r
          simp only [RV] at rv
          subst rv
          obtain ⟨h1, h2⟩ := bytesOf_spec ht rr'
          refine ⟨by simp [h1], ?_⟩
          intro k hk
          cases hk with
          | head => exact hn
          | tail _ hk => exact h2 k hk
        · cases h
      · cases h
    · cases h

theorem small_le {n b : Nat} (h : small n b = true) : (n + 1) * (b + 1) ≤ 17179869184 := Nat.le_of_ble_eq_true h

theorem markStringish_run {r : Nat} {q : Nat} {c : Array Value} {e : TypeId} {fr : Nat × Nat} (h : w.heap[r]? = some (.cells c e fr)) :
    ∃ fr', (markStringish ⟨r, q, none⟩).run P w = .ok () { w with heap := w.heap.setIfInBounds r (.cells c e fr') } ∧
      ∀ k, k ≤ c.size → (fr.1 = fr.2 ∨ k ≤ fr.1) → (fr'.1 = fr'.2 ∨ k ≤ fr'.1) := by
  have hs : w.shape? r = some (e, c.size) := by simp [World.shape?, h]
  have hf : w.freeze ⟨r, c.size, none⟩ 1 = { w with heap := w.heap.setIfInBounds r (.cells c e (if fr.1 == fr.2 then (c.size, c.size + 1) else (min fr.1 c.size, max fr.2 (c.size + 1)))) } := by
    unfold World.freeze
    simp only [Nat.one_ne_zero, if_false]
    congr 1
    apply Array.ext_getElem?
    intro k
    rw [Array.getElem?_modify, Array.getElem?_setIfInBounds]
    by_cases hk : r = k
    · subst hk
      rw [if_pos rfl, h]
      have hlt : r < w.heap.size := (Array.getElem?_eq_some_iff.1 h).1
      simp [hlt]
    · simp [hk]
  refine ⟨if fr.1 == fr.2 then (c.size, c.size + 1) else (min fr.1 c.size, max fr.2 (c.size + 1)), ?_, ?_⟩
  · simp only [markStringish, Sem.run_bind, run_shape, hs, Result.andThen_ok, run_freeze, hf]
  · intro k hk hh
    by_cases h1 : fr.1 == fr.2
    · rw [if_pos h1]; simp; omega
    · rw [if_neg h1]
      have h2 : fr.1 ≠ fr.2 := fun e => h1 (by simp [e])
      simp only
      omega

end
end Go.Proofs.YtgaoddafkjdecaaGreat.EV
