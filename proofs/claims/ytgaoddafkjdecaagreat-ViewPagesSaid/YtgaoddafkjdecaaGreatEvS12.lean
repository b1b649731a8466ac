/-
  EV, part S12: the built-in functions; maps. Own work of this claim.
-/
import Derived.Test.YtgaoddafkjdecaaGreatEvS11
import Derived.Laws.FloatBits
import Derived.Laws.Externs
set_option linter.unusedVariables false
set_option linter.unusedSimpArgs false
namespace Go.Proofs.YtgaoddafkjdecaaGreat.EV

section
variable {P : Program} {ms : List String} {w : World} {μ : Mu} {σ σ' : AH} {nt : Nat} {ρ : Env} {a : Act} {o : Oper} {out : Out} {tbl : Disp} {call : Call}

theorem exec_builtin {c : _root_.Go.Call} {b : Builtin} (ho : o.op = .call c) (hc : c.callee = .builtin b) :
    execOp a.eval o = builtin b c.argTypes o.type (c.args.map fun | .const _ => true | _ => false) (c.args.map a.eval) := by
  simp only [execOp, ho, resolve, hc]
  rfl

theorem q_append (hR : Rel μ σ w) (hA : RA μ nt ρ a) {c : _root_.Go.Call} {s t e : TypeId} {d : TypeDesc} {sz bytes : Nat} {z : List AV} {x y : Operand} {x' y' : AO} (ho : o.op = .call c)
    (hc : c.callee = .builtin .append) (hargs : c.args = #[x, y]) (hat : c.argTypes = #[s, t]) (hx : cOpd x = some x') (hy : cOpd y = some y')
    (hs : P.underlying s = some (.slice e)) (ht : P.underlying t = some d) (hd : ∀ k, d ≠ .int k) (hsz : sizeT P e = some sz) (hb : bytesT P e = some bytes) (hz : zeroCells P e = some z)
    (hev : evOp tbl call ρ σ (.append sz bytes x' y') = some (out, σ')) : Quiet P o a μ σ w out σ' := by
  have rx := opd_RV hA hx
  have ry := opd_RV hA hy
  obtain ⟨i, zv, hi, hzv, hlen, rz⟩ := zeroCells_spec hz
  obtain ⟨i', hi', hib⟩ := bytesT_info hb
  rw [hi] at hi'
  cases hi'
  have hisz : i.size = sz := by unfold sizeT at hsz; rw [hi] at hsz; simpa using hsz
  have hzs : zv.cells.size = sz := by have := (rz μ).length; simp at this; omega
  simp only [evOp] at hev
  split at hev
  · rename_i n m hn hm
    simp only [cond_eq_ite] at hev
    split at hev
    · rename_i hsm
      split at hev
      · rename_i new hnew
        obtain ⟨an, h1, h2, h3⟩ := first_run (P := P) hR ry hnew hn (Nat.le_refl _)
        obtain ⟨base, sCap, hv, r, μ', w', v', e1, e2, e3, e4⟩ := append_core (P := P) (zeros := false) (u := a.eval y) hR hi hzv hzs rx hm (by rw [hib]; exact hsm) h1 h2 h3 hev
        refine ⟨r, μ', w', v', e1, e2, e3, .inl ?_⟩
        rw [exec_builtin ho hc]
        have hln := lenOf_run (P := P) (w := w) ry hn
        have key : (Builtin.append_ #[s, t] o.type #[a.eval x, a.eval y]).run P w = .ok v' w' := by
          rw [← e4]
          unfold Builtin.append_ appendBody
          rw [hv]
          cases d <;> first
            | exact absurd rfl (hd _)
            | (simp only [List.getElem?_toArray, List.getElem?_cons_zero, List.getElem?_cons_succ, Sem.run_bind, run_underlying hs, run_underlying ht, run_sizeOf hsz, Result.andThen_ok, Sem.run_pure,
                Bool.false_eq_true, if_false, hln, Bool.not_false, if_true]
               rfl)
        rw [hargs, hat]
        simp only [builtin]
        rw [show (#[x, y].map a.eval) = #[a.eval x, a.eval y] from by simp]
        simp only [Sem.run_bind, key, Result.andThen_ok]
        rfl
      · cases hev
    · cases hev
  · cases hev

theorem q_appendZ (hR : Rel μ σ w) (hA : RA μ nt ρ a) {c : _root_.Go.Call} {s t e : TypeId} {k : IntKind} {sz bytes : Nat} {z : List AV} {x y : Operand} {x' y' : AO} (ho : o.op = .call c)
    (hc : c.callee = .builtin .append) (hargs : c.args = #[x, y]) (hat : c.argTypes = #[s, t]) (hx : cOpd x = some x') (hy : cOpd y = some y')
    (hs : P.underlying s = some (.slice e)) (ht : P.underlying t = some (.int k)) (hsz : sizeT P e = some sz) (hb : bytesT P e = some bytes) (hz : zeroCells P e = some z)
    (hev : evOp tbl call ρ σ (.appendZ sz bytes z x' y') = some (out, σ')) : Quiet P o a μ σ w out σ' := by
  have rx := opd_RV hA hx
  have ry := opd_RV hA hy
  obtain ⟨i, zv, hi, hzv, hlen, rz⟩ := zeroCells_spec hz
  obtain ⟨i', hi', hib⟩ := bytesT_info hb
  rw [hi] at hi'
  cases hi'
  have hisz : i.size = sz := by unfold sizeT at hsz; rw [hi] at hsz; simpa using hsz
  have hzs : zv.cells.size = sz := by have := (rz μ).length; simp at this; omega
  simp only [evOp] at hev
  split at hev
  · rename_i n m hn hm
    simp only [cond_eq_ite, Bool.and_eq_true] at hev
    split at hev
    · rename_i hsm
      have hsm := hsm.1
      obtain ⟨b1, b2, b3⟩ := small_bounds hsm
      obtain ⟨ky, ey⟩ := evIx_some hn ry
      have hzc : (Builtin.zeroCells zv.cells n).toList = (List.replicate n zv.cells.toList).flatten := range_flat zv.cells n _ rfl
      have h1 : ∀ w' : World, w'.heap = w.heap → (if n * sz = 0 then (pure #[] : Sem (Array Value)) else do pure (Builtin.zeroCells (← zeroValue e).cells n)).run P w' =
          .ok (Builtin.zeroCells zv.cells n) w' := by
        intro w' _
        by_cases h0 : n * sz = 0
        · have : Builtin.zeroCells zv.cells n = #[] := by
            apply Array.eq_empty_of_size_eq_zero
            simp [Builtin.zeroCells, hzs, h0]
          simp [h0, this]
        · simp [h0, run_zeroValue hi hzv]
      obtain ⟨base, sCap, hv, r, μ', w', v', e1, e2, e3, e4⟩ := append_core (P := P) (zeros := true) (u := a.eval y) hR hi hzv hzs rx hm (by rw [hib]; exact hsm) h1
        (by rw [hzc]; exact (rz μ).flat n) (by simp [Builtin.zeroCells, hzs]) hev
      refine ⟨r, μ', w', v', e1, e2, e3, .inl ?_⟩
      rw [exec_builtin ho hc]
      have hw : IntKind.i64.wrap (n : Int) = n := i64_wrap_small (by omega)
      have hlt : ¬ ((n : Int) < 0) := by omega
      have hbg : ¬ ((n : Int) * (i.bytes : Int) > 2 ^ 48) := by
        rw [hib]
        have h2 : n * bytes ≤ (m + n) * bytes := Nat.mul_le_mul_right _ (by omega)
        have : ((n : Int) * (bytes : Int)) = ((n * bytes : Nat) : Int) := by simp
        omega
      have key : (Builtin.append_ #[s, t] o.type #[a.eval x, a.eval y]).run P w = .ok v' w' := by
        rw [← e4]
        unfold Builtin.append_ appendBody
        rw [hv]
        simp only [List.getElem?_toArray, List.getElem?_cons_zero, List.getElem?_cons_succ, Sem.run_bind, run_underlying hs, run_underlying ht, run_sizeOf hsz, Result.andThen_ok, Sem.run_pure,
          Bool.false_eq_true, if_false, Bool.not_true, if_true, ey, asInt, asIntOf, hw, hlt, run_typeInfo hi, hbg, Int.toNat_natCast]
        rfl
      rw [hargs, hat]
      simp only [builtin]
      rw [show (#[x, y].map a.eval) = #[a.eval x, a.eval y] from by simp]
      simp only [Sem.run_bind, key, Result.andThen_ok]
      rfl
    · cases hev
  · cases hev

theorem q_copy (hR : Rel μ σ w) (hA : RA μ nt ρ a) {c : _root_.Go.Call} {s e : TypeId} {sz : Nat} {x y : Operand} {x' y' : AO} (ho : o.op = .call c)
    (hc : c.callee = .builtin .copy) (hargs : c.args = #[x, y]) (hat : c.argTypes[0]? = some s) (hx : cOpd x = some x') (hy : cOpd y = some y')
    (hs : P.underlying s = some (.slice e)) (hsz : sizeT P e = some sz)
    (hev : evOp tbl call ρ σ (.copy sz x' y') = some (out, σ')) : Quiet P o a μ σ w out σ' := by
  have rx := opd_RV hA hx
  have ry := opd_RV hA hy
  have run : ∀ {base : Option Addr} {dLen dCap m : Nat} {cells : Array Value} {w' : World}, a.eval x = .slice base dLen dCap → lenOf (y'.ev ρ) = some m →
      (Builtin.firstCells sz (Nat.min m dLen) (a.eval y)).run P w = .ok cells w →
      (∀ ad, base = some ad → (storeCells ad cells.toList).run P w = .ok () w') → (base = none → w' = w) →
      (execOp a.eval o).run P w = .ok (.value (.int .i64 (Nat.min m dLen))) w' := by
    intro base dLen dCap m cells w' ex hm hf hst hno
    rw [exec_builtin ho hc, hargs]
    simp only [builtin]
    rw [show (#[x, y].map a.eval) = #[a.eval x, a.eval y] from by simp]
    have key : (Builtin.copy_ c.argTypes o.type #[a.eval x, a.eval y]).run P w = .ok (.int .i64 (Nat.min m dLen)) w' := by
      unfold Builtin.copy_
      rw [ex]
      simp only [hat, List.getElem?_toArray, List.getElem?_cons_zero, List.getElem?_cons_succ, Sem.run_bind, run_underlying hs, run_sizeOf hsz, Result.andThen_ok, lenOf_run (P := P) (w := w) ry hm, hf]
      cases base with
      | none => rw [hno rfl]; rfl
      | some ad => simp only [Sem.run_bind, hst ad rfl, Result.andThen_ok]; rfl
    simp only [Sem.run_bind, key, Result.andThen_ok]
    rfl
  have empty : ∀ {m : Nat}, lenOf (y'.ev ρ) = some m → (Builtin.firstCells sz 0 (a.eval y)).run P w = .ok #[] w := by
    intro m hm
    generalize y'.ev ρ = q at hm ry
    cases q <;> simp only [lenOf, Option.some.injEq, reduceCtorEq] at hm
    case nils => simp only [RV] at ry; rw [ry]; rfl
    case slc b q k cc => obtain ⟨p, ad, cap, _, e, _⟩ := RV_slc ry; rw [e]; simp [Builtin.firstCells, loadCells, loadCellsFrom]
    case str l =>
      simp only [RV] at ry
      obtain ⟨s, e, _⟩ := ry
      rw [e]
      have : (s.extract 0 0).data = #[] := by rw [ByteArray.data_extract]; simp
      simp [Builtin.firstCells, this]
  simp only [evOp, fN_eq] at hev
  split at hev
  · rename_i m hb hm
    rw [hb] at rx
    simp only [RV] at rx
    refine Quiet.same (v' := .int .i64 (Nat.min m 0)) hR (val_inv hev) (by simp [RV]) (.of_value ?_)
    have h0 : Nat.min m 0 = 0 := Nat.min_zero m
    exact run rx hm (by rw [h0]; exact empty hm) (by intro ad h; cases h) (fun _ => rfl)
  · rename_i b q n cc m hb hm
    rw [hb] at rx
    obtain ⟨p, ad, cap, hp, ex, had⟩ := RV_slc rx
    have hmin : (bif Nat.ble n m then n else m) = Nat.min m n := by
      cases hx : Nat.ble n m with
      | true => have := Nat.le_of_ble_eq_true hx; simp [Nat.min_eq_right this]
      | false =>
        have : ¬ n ≤ m := fun h => by have := Nat.ble_eq.symm ▸ h; rw [← Nat.ble_eq] at h; rw [h] at hx; cases hx
        simp [Nat.min_eq_left (Nat.le_of_lt (Nat.lt_of_not_le this))]
    rw [hmin] at hev
    simp only [cond_eq_ite] at hev
    split at hev
    · rename_i h0
      have h0 := Nat.eq_of_beq_eq_true h0
      refine Quiet.same (v' := .int .i64 (Nat.min m n)) hR (val_inv hev) (by simp [RV, h0]) (.of_value ?_)
      exact run ex hm (by rw [h0]; exact empty hm) (by intro ad h; rfl) (by intro h; cases h)
    · rename_i h0
      have h0 : Nat.min m n ≠ 0 := fun e => h0 (by simp [e])
      have hn0 : 0 < n := by rcases Nat.eq_zero_or_pos n with h | h; · subst h; exact absurd (Nat.min_zero m) h0
                             · exact h
      have := had hn0
      subst this
      split at hev
      · rename_i new hnew
        split at hev
        · rename_i hok
          obtain ⟨l, l', hbl, hl, hev⟩ := storeK_inv hev
          obtain ⟨arr, h1, h2, h3⟩ := first_run (P := P) hR ry hnew hm (Nat.min_le_left _ _)
          obtain ⟨w', hrun, hst⟩ := store_run (P := P) hR h2 hok hp hbl hl
          obtain ⟨rfl, rfl⟩ := val_inv hev
          refine ⟨_, μ, w', .int .i64 (Nat.min m n), rfl, hst, by simp [RV], .inl ?_⟩
          exact run ex hm (h1 w rfl) (by intro ad h; cases h; exact hrun) (by intro h; cases h)
        · cases hev
      · cases hev
  · cases hev

theorem q_clear (hR : Rel μ σ w) (hA : RA μ nt ρ a) {c : _root_.Go.Call} {s e : TypeId} {sz : Nat} {z : List AV} {x : Operand} {x' : AO} (ho : o.op = .call c)
    (hc : c.callee = .builtin .clear) (hargs : c.args = #[x]) (hat : c.argTypes[0]? = some s) (hx : cOpd x = some x')
    (hs : P.underlying s = some (.slice e)) (hz : zeroCells P e = some z)
    (hev : evOp tbl call ρ σ (.clearS sz z x') = some (out, σ')) : Quiet P o a μ σ w out σ' := by
  have rx := opd_RV hA hx
  obtain ⟨i, zv, hi, hzv, hlen, rz⟩ := zeroCells_spec hz
  have fin : ∀ {w' : World}, (Builtin.clear_ c.argTypes o.type #[a.eval x]).run P w = .ok undef w' → Does P o a w undef w' := by
    intro w' key
    refine .inl ?_
    rw [exec_builtin ho hc, hargs]
    simp only [builtin]
    rw [show (#[x].map a.eval) = #[a.eval x] from by simp]
    simp only [Sem.run_bind, key, Result.andThen_ok]
    rfl
  simp only [evOp] at hev
  split at hev
  · rename_i hb
    rw [hb] at rx
    simp only [RV] at rx
    refine Quiet.same hR (val_inv hev) (RV_unA _) (fin ?_)
    unfold Builtin.clear_
    simp [hat, run_underlying hs, rx]
    rfl
  · rename_i b q n cc hb
    rw [hb] at rx
    obtain ⟨p, ad, cap, hp, ex, had⟩ := RV_slc rx
    simp only [cond_eq_ite, Bool.and_eq_true] at hev
    split at hev
    · rename_i hcond
      split at hev
      · rename_i h0
        have h0 := Nat.eq_of_beq_eq_true h0
        subst h0
        refine Quiet.same hR (val_inv hev) (RV_unA _) (fin ?_)
        unfold Builtin.clear_
        simp [hat, run_underlying hs, ex]
        rfl
      · rename_i h0
        have h0 : n ≠ 0 := fun e => h0 (by simp [e])
        have := had (by omega)
        subst this
        obtain ⟨l, l', hbl, hl, hev⟩ := storeK_inv hev
        have hzc : (Builtin.zeroCells zv.cells n).toList = (List.replicate n zv.cells.toList).flatten := range_flat zv.cells n _ rfl
        have hok : okVals (List.replicate n z).flatten = true := by
          have : ∀ k, okVals (List.replicate k z).flatten = true := by
            intro k
            induction k with
            | zero => rfl
            | succ k ih =>
              rw [List.replicate_succ, List.flatten_cons]
              have app : ∀ (l m : List AV), okVals l = true → okVals m = true → okVals (l ++ m) = true := by
                intro l m h1 h2
                induction l with
                | nil => exact h2
                | cons y l ih => simp only [okVals, Bool.and_eq_true, List.cons_append] at h1 ⊢; exact ⟨h1.1, ih h1.2⟩
              exact app _ _ hcond.2 ih
          exact this n
        obtain ⟨w', hrun, hst⟩ := store_run (P := P) hR ((rz μ).flat n) hok hp hbl hl
        obtain ⟨rfl, rfl⟩ := val_inv hev
        refine ⟨_, μ, w', undef, rfl, hst, RV_unA _, fin ?_⟩
        unfold Builtin.clear_
        obtain ⟨n, rfl⟩ : ∃ k, n = k + 1 := ⟨n - 1, by omega⟩
        simp only [hat, List.getElem?_toArray, List.getElem?_cons_zero, Sem.run_bind, run_underlying hs, Result.andThen_ok, ex, run_zeroValue hi hzv, hzc, hrun]
        rfl
    · cases hev
  · cases hev

end
end Go.Proofs.YtgaoddafkjdecaaGreat.EV
