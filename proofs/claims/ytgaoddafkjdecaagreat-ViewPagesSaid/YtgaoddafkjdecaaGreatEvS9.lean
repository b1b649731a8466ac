/-
  EV, part S9: make, slicing, append, copy, clear. Own work of this claim.
-/
import Derived.Test.YtgaoddafkjdecaaGreatEvS8
set_option linter.unusedVariables false
set_option linter.unusedSimpArgs false
namespace Go.Proofs.YtgaoddafkjdecaaGreat.EV

section
variable {P : Program} {ms : List String} {w : World} {μ : Mu} {σ σ' : AH} {nt : Nat} {ρ : Env} {a : Act} {o : Oper} {out : Out} {tbl : Disp} {call : Call}

theorem q_mkMap (hR : Rel μ σ w) {t : TypeId} (ho : o.op = .makeMap t none) (hev : evOp tbl call ρ σ .mkMap = some (out, σ')) : QuietM P o a μ σ w out σ' := by
  simp only [evOp, AH.newK_eq] at hev
  obtain ⟨rfl, rfl⟩ := val_inv hev
  refine ⟨_, fun b => .map b, rfl, rfl, rfl, fun _ _ => rfl, w.alloc (.map #[] 0), .map (some w.heap.size), ⟨w.heap.size, 0, 0⟩, .inl ?_, rfl, rfl, rfl, rfl, by simp,
    fun _ hi => heap_push_lt _ _ hi, fun ν _ => ⟨#[], 0, heap_push_eq _ _, ⟨by simp, by simp⟩, rfl⟩, fun ν b hb => ⟨_, hb, rfl⟩⟩
  simp [execOp, ho, Instr.makeMap]

theorem i64_wrap_small {n : Nat} (h : n < 9223372036854775808) : IntKind.i64.wrap (n : Int) = n := by
  simp only [IntKind.wrap, IntKind.bits, IntKind.signed]
  simp
  omega

theorem small_bounds {n b : Nat} (h : small n b = true) : n < 17179869184 ∧ n * b ≤ 17179869184 ∧ b * n ≤ 17179869184 := by
  have := small_le h
  have h1 : n * b ≤ (n + 1) * (b + 1) := Nat.mul_le_mul (by omega) (by omega)
  have h2 : n + 1 ≤ (n + 1) * (b + 1) := Nat.le_mul_of_pos_right _ (by omega)
  refine ⟨by omega, by omega, ?_⟩
  rw [Nat.mul_comm]; omega

theorem q_mkSlice (hR : Rel μ σ w) (hA : RA μ nt ρ a) {t e : TypeId} {sz bytes : Nat} {z : List AV} {l c : Operand} {l' c' : AO} (ho : o.op = .makeSlice t l c)
    (hl : cOpd l = some l') (hc : cOpd c = some c') (ht : P.underlying t = some (.slice e)) (hs : sizeT P e = some sz) (hb : bytesT P e = some bytes) (hz : zeroCells P e = some z)
    (hev : evOp tbl call ρ σ (.mkSlice sz bytes z l' c') = some (out, σ')) : QuietM P o a μ σ w out σ' := by
  obtain ⟨i, zv, hi, hzv, hlen, rz⟩ := zeroCells_spec hz
  obtain ⟨i', hi', hib⟩ := bytesT_info hb
  rw [hi] at hi'
  cases hi'
  simp only [evOp, fN_eq] at hev
  split at hev
  · rename_i ln cn hln hcn
    obtain ⟨k1, el⟩ := evIx_some hln (opd_RV hA hl)
    obtain ⟨k2, ec⟩ := evIx_some hcn (opd_RV hA hc)
    simp only [cond_eq_ite, Bool.and_eq_true] at hev
    split at hev
    · rename_i h
      obtain ⟨⟨h1, h2⟩, h3⟩ := h
      have h1 := Nat.le_of_ble_eq_true h1
      obtain ⟨b1, b2, b3⟩ := small_bounds h2
      have h3 := Nat.eq_of_beq_eq_true h3
      rw [AH.newK_eq] at hev
      obtain ⟨rfl, rfl⟩ := val_inv hev
      have hzs : zv.cells.size = sz := by have := (rz μ).length; simp at this; omega
      have hrow : RVs μ (List.replicate cn z).flatten ((Array.range (cn * sz)).map (zv.cells[· % zv.cells.size]!)).toList := by
        rw [range_flat zv.cells cn (cn * sz) (by rw [hzs])]
        exact (rz μ).flat cn
      refine ⟨_, fun b => .slc b 0 ln (.known cn), rfl, rfl, rfl, fun _ _ => rfl, makes_cells (e := e) (v' := .slice (some ⟨w.heap.size, 0, none⟩) ln cn) hrow (.inl ?_) fun ν b hb => ⟨_, hb, rfl⟩⟩
      have w1 : IntKind.i64.wrap (ln : Int) = ln := i64_wrap_small (by omega)
      have w2 : IntKind.i64.wrap (cn : Int) = cn := i64_wrap_small (by omega)
      have c1 : ¬ ((cn : Int) < 0) := by omega
      have c2 : ¬ ((i.bytes : Int) * (cn : Int) > 2 ^ 48) := by
        rw [hib]
        have : ((bytes : Int) * (cn : Int)) = ((bytes * cn : Nat) : Int) := by simp
        omega
      have c3 : ¬ ((ln : Int) < 0) := by omega
      have c4 : ¬ ((ln : Int) > (cn : Int)) := by omega
      simp only [execOp, ho, Instr.makeSlice, Sem.run_bind, run_underlying ht, Result.andThen_ok, el, ec, asInt, asIntOf, Sem.run_pure, run_typeInfo hi, w1, w2, c1, c2, c3, c4,
        decide_false, Bool.or_false, Bool.false_eq_true, if_false, run_askRoom, run_sizeOf hs, Int.toNat_natCast]
      by_cases h0 : cn * sz = 0
      · have hr : (Array.range (cn * sz)).map (zv.cells[· % zv.cells.size]!) = #[] := by rw [h0]; simp
        rw [hr]
        simp only [h0, if_true, Sem.run_pure, Result.andThen_ok, Array.range_zero', Array.map_empty]
        rfl
      · simp only [h0, if_false, Sem.run_bind, run_zeroValue hi hzv, Result.andThen_ok, Sem.run_pure, newRow, run_newObj]
        rfl
    · cases hev
  · cases hev

/-! ### Slicing -/

theorem cOpdO_some {x : Option Operand} {y : Option AO} (h : cOpdO x = some y) : (x = none ∧ y = none) ∨ ∃ x' y', x = some x' ∧ y = some y' ∧ cOpd x' = some y' := by
  cases x with
  | none => simp [cOpdO] at h; exact .inl ⟨rfl, h.symm⟩
  | some x =>
    simp only [cOpdO] at h
    cases hx : cOpd x with
    | none => rw [hx] at h; cases h
    | some y' => rw [hx] at h; cases h; exact .inr ⟨x, y', rfl, rfl, hx⟩

theorem sliceBound_run {v : Value} {k : IntKind} {i y : Nat} {code : BoundsCode} (hv : v = .int k i) (h : i ≤ y) : (Instr.sliceBound v y code).run P w = .ok i w := by
  subst hv
  have h0 : (0 : Int) ≤ (i : Int) ∧ (i : Int) ≤ (y : Int) := by omega
  simp [Instr.sliceBound, asIntOf, h0]
  try omega

theorem bounds_run (hA : RA μ nt ρ a) {isSlice : Bool} {len cap : Nat} {lo hi mx : Option Operand} {lo' hi' mx' : Option AO} (hlo : cOpdO lo = some lo') (hhi : cOpdO hi = some hi')
    (hmx : cOpdO mx = some mx') (hsome : (mx'.isSome && hi'.isNone) = false) {m h l : Nat} (em : evBd ρ cap mx' = some m) (eh : evBd ρ len hi' = some h) (el : evBd ρ 0 lo' = some l)
    (h1 : m ≤ cap) (h2 : h ≤ m) (h3 : l ≤ h) : (Instr.sliceBounds isSlice len cap (lo.map a.eval) (hi.map a.eval) (mx.map a.eval)).run P w = .ok (l, h, m) w := by
  unfold Instr.sliceBounds
  rcases cOpdO_some hmx with ⟨rfl, rfl⟩ | ⟨x, y, rfl, rfl, hxy⟩
  · simp only [evBd, Option.some.injEq] at em
    subst em
    rcases cOpdO_some hhi with ⟨rfl, rfl⟩ | ⟨x, y, rfl, rfl, hxy⟩
    · simp only [evBd, Option.some.injEq] at eh
      subst eh
      rcases cOpdO_some hlo with ⟨rfl, rfl⟩ | ⟨x2, y2, rfl, rfl, hxy2⟩
      · simp only [evBd, Option.some.injEq] at el
        subst el
        simp
      · obtain ⟨k2, e2⟩ := evIx_some el (opd_RV hA hxy2)
        simp [sliceBound_run e2 h3]
    · obtain ⟨k1, e1⟩ := evIx_some eh (opd_RV hA hxy)
      rcases cOpdO_some hlo with ⟨rfl, rfl⟩ | ⟨x2, y2, rfl, rfl, hxy2⟩
      · simp only [evBd, Option.some.injEq] at el
        subst el
        simp [sliceBound_run e1 h2]
      · obtain ⟨k2, e2⟩ := evIx_some el (opd_RV hA hxy2)
        simp [sliceBound_run e1 h2, sliceBound_run e2 h3]
  · obtain ⟨k0, e0⟩ := evIx_some em (opd_RV hA hxy)
    rcases cOpdO_some hhi with ⟨rfl, rfl⟩ | ⟨x, y, rfl, rfl, hxy⟩
    · simp at hsome
    · obtain ⟨k1, e1⟩ := evIx_some eh (opd_RV hA hxy)
      rcases cOpdO_some hlo with ⟨rfl, rfl⟩ | ⟨x2, y2, rfl, rfl, hxy2⟩
      · simp only [evBd, Option.some.injEq] at el
        subst el
        simp [sliceBound_run e0 h1, sliceBound_run e1 h2]
      · obtain ⟨k2, e2⟩ := evIx_some el (opd_RV hA hxy2)
        simp [sliceBound_run e0 h1, sliceBound_run e1 h2, sliceBound_run e2 h3]

theorem q_slice_str (hR : Rel μ σ w) (hA : RA μ nt ρ a) {t : TypeId} {x : Operand} {x' : AO} {lo hi mx : Option Operand} {lo' hi' mx' : Option AO} (ho : o.op = .slice t x lo hi mx)
    (hx : cOpd x = some x') (hlo : cOpdO lo = some lo') (hhi : cOpdO hi = some hi') (hmx : cOpdO mx = some mx') (ht : P.underlying t = some .string)
    (hev : evOp tbl call ρ σ (.slice .str x' lo' hi' mx') = some (out, σ')) : Quiet P o a μ σ w out σ' := by
  have rx := opd_RV hA hx
  simp only [evOp, evSlice] at hev
  split at hev
  case h_2 | h_3 | h_4 | h_5 => rename_i hk _; cases hk
  case h_6 => cases hev
  rename_i l hk hl
  rw [hl] at rx
  simp only [RV] at rx
  obtain ⟨s, ex, rfl⟩ := rx
  split at hev
  · cases hev
  · have hmx0 : mx = none := by
      rcases cOpdO_some hmx with ⟨rfl, _⟩ | ⟨_, _, _, h, _⟩
      · rfl
      · cases h
    subst hmx0
    split at hev
    · rename_i h hh
      split at hev
      · rename_i lw hlw
        simp only [cond_eq_ite, Bool.and_eq_true] at hev
        split at hev
        · rename_i hc
          have c1 := Nat.le_of_ble_eq_true hc.1
          have c2 := Nat.le_of_ble_eq_true hc.2
          have hsz : s.size = (s.data.toList.map (·.toNat)).length := by rw [List.length_map, Array.length_toList]; rfl
          split at hev
          · rename_i r hr
            obtain ⟨hr1, rfl⟩ := ltake_some hr
            have hb := bounds_run (P := P) (w := w) (isSlice := false) (len := s.size) (cap := s.size) hA hlo hhi (mx := none) (mx' := none) rfl rfl (m := s.size) (h := h) (l := lw) rfl (by rw [hsz]; exact hh) hlw
              (Nat.le_refl _) (by omega) c2
            refine Quiet.same (v' := .string (s.extract lw h)) hR (val_inv hev) ⟨_, rfl, ?_⟩ (.of_value ?_)
            · rw [ldrop_eq, ByteArray.data_extract, Array.toList_extract, List.extract_eq_take_drop, List.map_take, List.map_drop]
            · simp only [Option.map_none] at hb
              simp only [execOp, ho, Instr.sliceAt, Sem.run_bind, run_underlying ht, Result.andThen_ok, Instr.slice, ex, Option.map_none, Option.isSome_none, Bool.false_eq_true, if_false, hb]
              rfl
          · cases hev
        · cases hev
      · cases hev
    · cases hev

end
end Go.Proofs.YtgaoddafkjdecaaGreat.EV
