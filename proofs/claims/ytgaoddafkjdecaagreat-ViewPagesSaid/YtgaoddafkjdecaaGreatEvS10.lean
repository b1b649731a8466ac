/-
  EV, part S10: slicing slices and arrays; append, copy, clear. Own work of this claim.
-/
import Derived.Test.YtgaoddafkjdecaaGreatEvS9
set_option linter.unusedVariables false
set_option linter.unusedSimpArgs false
namespace Go.Proofs.YtgaoddafkjdecaaGreat.EV

section
variable {P : Program} {ms : List String} {w : World} {μ : Mu} {σ σ' : AH} {nt : Nat} {ρ : Env} {a : Act} {o : Oper} {out : Out} {tbl : Disp} {call : Call}

theorem q_slice_arr (hR : Rel μ σ w) (hA : RA μ nt ρ a) {t e : TypeId} {n sz : Nat} {x : Operand} {x' : AO} {lo hi mx : Option Operand} {lo' hi' mx' : Option AO} (ho : o.op = .slice t x lo hi mx)
    (hx : cOpd x = some x') (hlo : cOpdO lo = some lo') (hhi : cOpdO hi = some hi') (hmx : cOpdO mx = some mx') (hsome : (mx'.isSome && hi'.isNone) = false)
    (ht : P.underlying t = some (.array n e)) (hs : sizeT P e = some sz) (hev : evOp tbl call ρ σ (.slice (.arr n sz) x' lo' hi' mx') = some (out, σ')) : Quiet P o a μ σ w out σ' := by
  have rx := opd_RV hA hx
  simp only [evOp, evSlice, fN_eq] at hev
  split at hev
  case h_1 | h_2 | h_3 | h_4 => rename_i hk _; cases hk
  case h_6 => cases hev
  rename_i n' sz' b q hk hb
  cases hk
  obtain ⟨p, hp, ex⟩ := ev_ptr hb rx
  split at hev
  · rename_i m hm
    split at hev
    · rename_i h hh
      split at hev
      · rename_i l hl
        simp only [cond_eq_ite, Bool.and_eq_true] at hev
        split at hev
        · rename_i hc
          have c1 := Nat.le_of_ble_eq_true hc.1.1
          have c2 := Nat.le_of_ble_eq_true hc.1.2
          have c3 := Nat.le_of_ble_eq_true hc.2
          have hbr := bounds_run (P := P) (w := w) (isSlice := false) (len := n) (cap := n) hA hlo hhi hmx hsome hm hh hl c1 c2 c3
          have hbeq : (Nat.beq m l = true) ↔ m = l := by simp
          refine Quiet.same (v' := .slice (some ⟨p.blk, p.base + (if Nat.beq m l = true then q else q + l * sz), none⟩) (h - l) (m - l)) hR (val_inv hev) ⟨p, hp, rfl⟩ (.of_value ?_)
          simp only [execOp, ho, Instr.sliceAt, Sem.run_bind, run_underlying ht, Result.andThen_ok, ex, Instr.sureAddr, Sem.run_pure, hbr, run_sizeOf hs, Addr.add_lit]
          by_cases hml : m = l
          · simp [hml]
          · simp [hml, Nat.add_assoc]
        · cases hev
      · cases hev
    · cases hev
  · cases hev

theorem q_slice_slc (hR : Rel μ σ w) (hA : RA μ nt ρ a) {t e : TypeId} {sz : Nat} {x : Operand} {x' : AO} {lo hi mx : Option Operand} {lo' hi' mx' : Option AO} (ho : o.op = .slice t x lo hi mx)
    (hx : cOpd x = some x') (hlo : cOpdO lo = some lo') (hhi : cOpdO hi = some hi') (hmx : cOpdO mx = some mx') (hsome : (mx'.isSome && hi'.isNone) = false)
    (ht : P.underlying t = some (.slice e)) (hs : sizeT P e = some sz) (hev : evOp tbl call ρ σ (.slice (.slc sz) x' lo' hi' mx') = some (out, σ')) : Quiet P o a μ σ w out σ' := by
  have rx := opd_RV hA hx
  simp only [evOp, evSlice, fN_eq] at hev
  have run : ∀ (ad : Option Addr) (len cap l h m : Nat), a.eval x = .slice ad len cap →
      (Instr.sliceBounds true len cap (lo.map a.eval) (hi.map a.eval) (mx.map a.eval)).run P w = .ok (l, h, m) w →
      (execOp a.eval o).run P w = .ok (.value (.slice (if m = l then ad else ad.map (·.add (l * sz))) (h - l) (m - l))) w := by
    intro ad len cap l h m ex hbr
    simp only [execOp, ho, Instr.sliceAt, Instr.slice, Sem.run_bind, run_underlying ht, Result.andThen_ok, ex, hbr, run_sizeOf hs]
    rfl
  split at hev
  case h_1 => rename_i hk _; cases hk
  case h_5 => rename_i hk _; cases hk
  case h_6 => cases hev
  case h_2 =>
    rename_i hk hb
    rw [hb] at rx
    simp only [RV] at rx
    split at hev
    · rename_i m h l hm hh hl
      simp only [cond_eq_ite, Bool.and_eq_true] at hev
      split at hev
      · rename_i hc
        have c1 := Nat.eq_of_beq_eq_true hc.1.1
        have c2 := Nat.eq_of_beq_eq_true hc.1.2
        have c3 := Nat.eq_of_beq_eq_true hc.2
        subst c1; subst c2; subst c3
        have hbr := bounds_run (P := P) (w := w) (isSlice := true) (len := 0) (cap := 0) hA hlo hhi hmx hsome hm hh hl (Nat.le_refl _) (Nat.le_refl _) (Nat.le_refl _)
        exact Quiet.same (v' := .slice none 0 0) hR (val_inv hev) (by simp [RV]) (.of_value (by rw [run _ _ _ _ _ _ rx hbr]; rfl))
      · cases hev
    · cases hev
  case h_3 =>
    rename_i sz' b q len c hk hb
    cases hk
    rw [hb] at rx
    obtain ⟨p, hp, ex⟩ := RV_known rx
    split at hev
    · rename_i m hm
      split at hev
      · rename_i h hh
        split at hev
        · rename_i l hl
          simp only [cond_eq_ite, Bool.and_eq_true] at hev
          split at hev
          · rename_i hc
            have hc : (Nat.ble m c = true ∧ Nat.ble h m = true) ∧ Nat.ble l h = true := by
              refine ⟨⟨?_, hc.1.2⟩, hc.2⟩
              have h1 := hc.1.1
              cases hmo : mx' with
              | none =>
                rw [hmo] at hm
                simp only [evBd, Option.some.injEq] at hm
                subst hm
                simp
              | some y => rw [hmo] at h1; simpa using h1
            have c1 := Nat.le_of_ble_eq_true hc.1.1
            have c2 := Nat.le_of_ble_eq_true hc.1.2
            have c3 := Nat.le_of_ble_eq_true hc.2
            have hbr := bounds_run (P := P) (w := w) (isSlice := true) (len := len) (cap := c) hA hlo hhi hmx hsome hm hh hl c1 c2 c3
            refine Quiet.same (v' := .slice (some ⟨p.blk, p.base + (if Nat.beq m l = true then q else q + l * sz), none⟩) (h - l) (m - l)) hR (val_inv hev) ⟨p, hp, rfl⟩ (.of_value ?_)
            rw [run _ _ _ _ _ _ ex hbr]
            by_cases hml : m = l
            · simp [hml]
            · simp [hml, Nat.add_assoc, Addr.add_lit]
          · cases hev
        · cases hev
      · cases hev
    · cases hev
  case h_4 =>
    rename_i sz1 b q len sz2 hk hb
    cases hk
    rw [hb] at rx
    obtain ⟨p, ad, cap, hp, ex, hle, heq, hor⟩ := RV_open rx
    simp only [cond_eq_ite] at hev
    split at hev
    · rename_i hszb
      have hszb := Nat.eq_of_beq_eq_true hszb
      subst hszb
      split at hev
      · rename_i mxo
        split at hev
        · rename_i m hm
          split at hev
          · rename_i h hh
            split at hev
            · rename_i l hl
              simp only [Bool.and_eq_true, Bool.not_eq_true'] at hev
              split at hev
              · rename_i hc
                have c1 := Nat.le_of_ble_eq_true hc.1.1.1
                have c2 := Nat.le_of_ble_eq_true hc.1.1.2
                have c3 := Nat.le_of_ble_eq_true hc.1.2
                have c4 : m ≠ l := fun e => by have := hc.2; subst e; simp at this
                have hbr := bounds_run (P := P) (w := w) (isSlice := true) (len := len) (cap := cap) hA hlo hhi hmx hsome (m := m) hm hh hl (by omega) c2 c3
                have had : ad = ⟨p.blk, p.base + q, none⟩ := by
                  rcases hor with h | h
                  · exact h
                  · omega
                subst had
                refine Quiet.same (v' := .slice (some ⟨p.blk, p.base + (q + l * sz), none⟩) (h - l) (m - l)) hR (val_inv hev) ⟨p, hp, rfl⟩ (.of_value ?_)
                rw [run _ _ _ _ _ _ ex hbr]
                simp [c4, Nat.add_assoc, Addr.add_lit]
              · cases hev
            · cases hev
          · cases hev
        · cases hev
      · split at hev
        · rename_i h hh
          split at hev
          · rename_i l hl
            simp only [Bool.and_eq_true, Bool.or_eq_true] at hev
            split at hev
            · rename_i hc
              have c3 := Nat.le_of_ble_eq_true hc.1
              have c2 : h ≤ cap := by
                rcases hc.2 with h1 | h1
                · have := Nat.le_of_ble_eq_true h1; omega
                · have h0 : 0 < sz := by have := h1.1; simpa [Nat.blt_eq] using this
                  have h1 := h1.2
                  unfold fitsIn at h1
                  cases hg : σ.get b with
                  | none => rw [hg] at h1; cases h1
                  | some x =>
                    rw [hg] at h1
                    cases x with
                    | mp es => cases h1
                    | cells ro cs =>
                      have h1 := Nat.le_of_ble_eq_true h1
                      obtain ⟨c, e', fr, _, g2, g3, _, _⟩ := hR.blk b _ p hg hp
                      have h3 : h * sz ≤ cap * sz := by omega
                      exact Nat.le_of_mul_le_mul_right h3 h0
              have hbr := bounds_run (P := P) (w := w) (isSlice := true) (len := len) (cap := cap) hA hlo hhi hmx hsome (m := cap) rfl hh hl (Nat.le_refl _) c2 c3
              obtain ⟨e1, e2⟩ := val_inv hev
              refine Quiet.same (v' := .slice (if cap = l then some ad else some (ad.add (l * sz))) (h - l) (cap - l)) hR ⟨e1, e2⟩ ?_ (.of_value ?_)
              · simp only [RV]
                by_cases hcl : cap = l
                · refine ⟨p, hp, ad, cap - l, by rw [if_pos hcl], by omega, ?_, .inr (by omega)⟩
                  subst hcl; simp [heq]
                · have had : ad = ⟨p.blk, p.base + q, none⟩ := by
                    rcases hor with h | h
                    · exact h
                    · omega
                  subst had
                  refine ⟨p, hp, _, cap - l, by rw [if_neg hcl], by omega, ?_, .inl (by rw [Addr.add_lit, Nat.add_assoc])⟩
                  have : l * sz + (cap - l) * sz = cap * sz := by rw [← Nat.add_mul]; congr 1; omega
                  omega
              · rw [run _ _ _ _ _ _ ex hbr]
                simp
            · cases hev
          · cases hev
        · cases hev
    · cases hev

end
end Go.Proofs.YtgaoddafkjdecaaGreat.EV
