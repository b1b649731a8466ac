/-
  EV, part S8: conversions between texts and bytes, make, slicing, append, copy, clear. Own work of this claim.
-/
import Derived.Test.YtgaoddafkjdecaaGreatEvS7
import Derived.Laws.BytesString
import Derived.Laws.BytesArg
set_option linter.unusedVariables false
set_option linter.unusedSimpArgs false
namespace Go.Proofs.YtgaoddafkjdecaaGreat.EV

section
variable {P : Program} {ms : List String} {w : World} {μ : Mu} {σ σ' : AH} {nt : Nat} {ρ : Env} {a : Act} {o : Oper} {out : Out} {tbl : Disp} {call : Call}

/-- a slice that is open: where it lies -/
theorem RV_open {b : Pos} {q n sz : Nat} {v : Value} (h : RV μ (.slc b q n (.opn sz)) v) :
    ∃ p ad cap, μ b = some p ∧ v = .slice (some ad) n cap ∧ n ≤ cap ∧ q + cap * sz = p.cap ∧ (ad = ⟨p.blk, p.base + q, none⟩ ∨ cap = 0) := by
  simp only [RV] at h
  obtain ⟨p, hp, ad, cap, h1, h2, h3, h4⟩ := h
  exact ⟨p, ad, cap, hp, h1, h2, h3, h4⟩

theorem RV_known {b : Pos} {q n c : Nat} {v : Value} (h : RV μ (.slc b q n (.known c)) v) :
    ∃ p, μ b = some p ∧ v = .slice (some ⟨p.blk, p.base + q, none⟩) n c := by
  simpa only [RV] using h

/-- a new open slice: the block has n elements of sz cells and room for cap of them -/
theorem step_open (hR : Rel μ σ w) {cs : List AV} {c : Array Value} (e : TypeId) {sz n cap : Nat} (hc : cs.length ≤ c.size) (hcap : c.size = cap * sz) (hn : n ≤ cap)
    (r : ∀ (i : Nat) (x : AV), cs[i]? = some x → ∃ v, c[i]? = some v ∧ RV μ x v) :
    Step μ σ w (μ.up σ.nx ⟨w.heap.size, 0, c.size⟩) (σ.new (.cells false cs)) (w.alloc (.cells c e)) ∧
      RV (μ.up σ.nx ⟨w.heap.size, 0, c.size⟩) (.slc σ.nx 0 n (.opn sz)) (.slice (some ⟨w.heap.size, 0, none⟩) n cap) := by
  refine ⟨step_cells hR e hc r, ?_⟩
  simp only [RV]
  exact ⟨_, up_nx _ _ _, _, _, rfl, hn, by simp [hcap], .inl rfl⟩

theorem newOpen_inv {sz n : Nat} {cs : List AV} (h : newOpen sz n cs σ = some (out, σ')) : out = .val (.slc σ.nx 0 n (.opn sz)) ∧ σ' = σ.new (.cells false cs) := by
  unfold newOpen at h
  rw [fN_eq, AH.newK_eq] at h
  exact val_inv h

theorem Rel.draw1 (hR : Rel μ σ w) : Step μ σ w μ σ w.drew := Step.draw hR _

theorem q_cvSB (hR : Rel μ σ w) (hA : RA μ nt ρ a) {s d e : TypeId} {x : Operand} {x' : AO} (ho : o.op = .convert s d x) (hx : cOpd x = some x')
    (hs : P.underlying s = some .string) (hd : P.underlying d = some (.slice e)) (he : P.underlying e = some (.int .u8))
    (hev : evOp tbl call ρ σ (.cvSB x') = some (out, σ')) : QuietM P o a μ σ w out σ' := by
  have rx := opd_RV hA hx
  simp only [evOp] at hev
  split at hev
  · rename_i l hl
    rw [hl] at rx
    simp only [RV] at rx
    obtain ⟨s, ex, rfl⟩ := rx
    simp only [cond_eq_ite] at hev
    split at hev
    · obtain ⟨rfl, rfl⟩ := newOpen_inv hev
      generalize hcap : (Question.appendCap s.size 0 e).cut (w.tape w.drawn (.appendCap s.size 0 e)) = cap
      have hge : s.size ≤ cap := by rw [← hcap]; simp [Question.cut]
      have hszl : s.size = s.data.toList.length := by rw [Array.length_toList]; rfl
      let c : Array Value := s.data.map (fun b => Value.int .u8 b.toNat) ++ Array.replicate (cap - s.size) (.int .u8 0)
      have hcs : c.size = cap := by simp [c]; have : s.data.size = s.size := rfl; omega
      have hin : ∀ (ν : Mu) (i : Nat) (x : AV), (ofBytes (s.data.toList.map (·.toNat)))[i]? = some x → ∃ v, c[i]? = some v ∧ RV ν x v := by
        intro ν i x hx
        obtain ⟨v, hv, rv⟩ := (ofBytes_RVs ν s.data.toList).get hx
        refine ⟨v, ?_, rv⟩
        have hi : i < s.data.size := by have := (List.getElem?_eq_some_iff.1 hv).1; simpa using this
        simp only [c]
        rw [Array.getElem?_append_left (by simpa using hi)]
        rw [← Array.getElem?_toList]
        simpa using hv
      have hlc : (ofBytes (s.data.toList.map (·.toNat))).length ≤ c.size := by
        rw [ofBytes_len, hcs]; simp; have : s.data.size = s.size := rfl; omega
      obtain ⟨fr', hm, hk⟩ := markStringish_run (P := P) (w := w.drew.alloc (.cells c e)) (r := w.heap.size) (q := 0) (c := c) (e := e) (fr := (0, 0)) (heap_push_eq _ _)
      refine ⟨_, fun b => .slc b 0 _ (.opn 1), rfl, rfl, rfl, fun _ _ => rfl, { w.drew.alloc (.cells c e) with heap := (w.drew.alloc (.cells c e)).heap.setIfInBounds w.heap.size (.cells c e fr') },
        .slice (some ⟨w.heap.size, 0, none⟩) s.size cap, ⟨w.heap.size, 0, c.size⟩, .inl ?_, rfl, rfl, rfl, rfl, by simp, ?_, ?_, ?_⟩
      · have hforced : (Question.appendCap s.size 0 e).forced = false := rfl
        simp only [execOp, ho, convert, Sem.run_bind, run_underlying hs, run_underlying hd, run_underlying he, Result.andThen_ok, ex, Conv.stringToBytes, run_choose, hforced, hcap,
          Bool.false_eq_true, if_false, newRow, run_newObj, Sem.run_pure, World.drew_eq]
        rw [World.alloc_eq]
        have : (w.drew.heap.size) = w.heap.size := rfl
        rw [this, hm]
        rfl
      · intro i hi
        simp only
        rw [Array.getElem?_setIfInBounds_ne (by omega)]
        exact heap_push_lt _ _ hi
      · intro ν hν
        refine ⟨c, e, fr', by simp, by simp, hlc, fun _ => ?_, ?_⟩
        · have := hk c.size (Nat.le_refl _) (.inl rfl)
          simpa using this
        · intro i x hx
          rw [Nat.zero_add]
          exact hin _ i x hx
      · intro ν b hb
        simp only [RV]
        have hlen : (s.data.toList.map (·.toNat)).length = s.size := by rw [List.length_map, ← hszl]
        exact ⟨_, hb, ⟨w.heap.size, 0, none⟩, cap, by rw [hlen], by rw [hlen]; exact hge, by simp [hcs], .inl (by simp)⟩
    · cases hev
  · cases hev

theorem str_of_nums {l : List Nat} (h : ∀ n ∈ l, n < 256) : (strOfNums (l.map Int.ofNat)).data.toList.map (·.toNat) = l := by
  rw [strOfNums_data]
  simp only [List.map_map]
  have : ∀ n ∈ l, ((fun (x : UInt8) => x.toNat) ∘ (fun (n : Int) => UInt8.ofNat n.toNat) ∘ Int.ofNat) n = n := by
    intro n hn
    have := h n hn
    simp
    omega
  rw [List.map_congr_left this]
  simp

theorem q_cvBS (hR : Rel μ σ w) (hA : RA μ nt ρ a) {s d e : TypeId} {x : Operand} {x' : AO} (ho : o.op = .convert s d x) (hx : cOpd x = some x')
    (hs : P.underlying s = some (.slice e)) (hd : P.underlying d = some .string) (he : P.underlying e = some (.int .u8))
    (hev : evOp tbl call ρ σ (.cvBS x') = some (out, σ')) : Quiet P o a μ σ w out σ' := by
  have rx := opd_RV hA hx
  simp only [evOp] at hev
  split at hev
  · rename_i hl
    rw [hl] at rx
    simp only [RV] at rx
    refine Quiet.same (v' := .string .empty) hR (val_inv hev) ⟨_, rfl, rfl⟩ (.of_value ?_)
    simp [execOp, ho, rx, run_convert_bytes_nil w s e hs he 0 0 d hd]
  · rename_i b q n c hl
    rw [hl] at rx
    split at hev
    · rename_i cs hcs
      split at hev
      · rename_i l hbl
        have hx' : ∃ p ad cap, μ b = some p ∧ a.eval x = .slice (some ad) n cap ∧ (0 < n → ad = ⟨p.blk, p.base + q, none⟩) := by
          cases c with
          | known c => obtain ⟨p, hp, e⟩ := RV_known rx; exact ⟨p, _, _, hp, e, fun _ => rfl⟩
          | opn sz =>
            obtain ⟨p, ad, cap, hp, e, hle, heq, hor⟩ := RV_open rx
            refine ⟨p, ad, cap, hp, e, fun hn => ?_⟩
            rcases hor with h | h
            · exact h
            · omega
        obtain ⟨p, ad, cap, hp, ex, had⟩ := hx'
        obtain ⟨vs, hn, r, hrun, hc⟩ := load_run (P := P) hcs hR hp
        obtain ⟨hvs, hlt⟩ := bytesOf_spec hbl r
        have hll : l.length = n := by rw [← hn, hvs]; simp
        refine Quiet.same (v' := .string (strOfNums (l.map Int.ofNat))) hR (val_inv hev) ⟨_, rfl, str_of_nums hlt⟩ (.of_value ?_)
        have hconv : (convert s d (.slice (some ad) n cap)).run P w = .ok (.string (strOfNums (l.map Int.ofNat))) w := by
          rcases Nat.eq_zero_or_pos n with h0 | h0
          · subst h0
            have hl0 : l = [] := List.length_eq_zero_iff.1 hll
            subst hl0
            obtain ⟨ab, ao, asp⟩ := ad
            rw [run_convert_bytes_string w s d e _ 0 cap hs he hd, run_bytesToString w _ 0 cap [] (by simp [loadCells, loadCellsFrom])]
            rfl
          · have := had h0
            subst this
            refine run_convert_bytes_arg w s e hs he p.blk (p.base + q) n cap (l.map Int.ofNat) (by simpa using hll) ?_ d hd
            intro i hi
            refine hc i _ ?_
            rw [hvs]
            have hil : i < l.length := by omega
            simp [List.getD, hil]
        simp [execOp, ho, ex, hconv]
      · cases hev
    · cases hev
  · cases hev

theorem q_cvBB (hR : Rel μ σ w) (hA : RA μ nt ρ a) {s e : TypeId} {x : Operand} {x' : AO} (ho : o.op = .convert s s x) (hx : cOpd x = some x')
    (hs : P.underlying s = some (.slice e)) (he : P.underlying e = some (.int .u8))
    (hev : evOp tbl call ρ σ (.cvBB x') = some (out, σ')) : Quiet P o a μ σ w out σ' := by
  have rx := opd_RV hA hx
  simp only [evOp] at hev
  split at hev
  · rename_i b q n c hl
    rw [hl] at rx
    split at hev
    · rename_i cs hcs
      have hx' : ∃ p ad cap, μ b = some p ∧ a.eval x = .slice (some ad) n cap ∧ (ad = ⟨p.blk, p.base + q, none⟩) := by
        obtain ⟨p, hp, e⟩ := RV_known rx; exact ⟨p, _, _, hp, e, rfl⟩
      obtain ⟨p, ad, cap, hp, ex, rfl⟩ := hx'
      obtain ⟨cc, e', fr, h1, h2, h3, h4, h5⟩ := hR.blk b _ p hcs hp
      obtain ⟨fr', hm, hk⟩ := markStringish_run (P := P) (q := p.base + q) h1
      have hlt : p.blk < w.heap.size := (Array.getElem?_eq_some_iff.1 h1).1
      obtain ⟨rfl, rfl⟩ := val_inv hev
      have hst := step_touch (w' := { w with heap := w.heap.setIfInBounds p.blk (.cells cc e' fr') }) hR hcs rfl hp rfl rfl rfl (by simp) (fun i hi => by simp [Ne.symm hi])
        ⟨cc, e', fr', by simp [hlt], h2, h3, fun _ => hk _ h2 (h4 rfl), h5⟩
      refine ⟨_, _, _, a.eval x, rfl, hst, rx, .inl ?_⟩
      simp only [execOp, ho, convert, Sem.run_bind, run_underlying hs, run_underlying he, Result.andThen_ok, ex, beq_self_eq_true, hm]
      rfl
    · cases hev
  · cases hev

end
end Go.Proofs.YtgaoddafkjdecaaGreat.EV
