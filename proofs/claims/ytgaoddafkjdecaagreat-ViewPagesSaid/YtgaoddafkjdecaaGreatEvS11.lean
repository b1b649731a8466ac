/-
  EV, part S11: append, copy, clear. Own work of this claim.
-/
import Derived.Test.YtgaoddafkjdecaaGreatEvS10
set_option linter.unusedVariables false
set_option linter.unusedSimpArgs false
namespace Go.Proofs.YtgaoddafkjdecaaGreat.EV

section
variable {P : Program} {ms : List String} {w : World} {μ : Mu} {σ σ' : AH} {nt : Nat} {ρ : Env} {a : Act} {o : Oper} {out : Out} {tbl : Disp} {call : Call}

theorem RV_slc {b : Pos} {q n : Nat} {c : Cap} {v : Value} (h : RV μ (.slc b q n c) v) :
    ∃ p ad cap, μ b = some p ∧ v = .slice (some ad) n cap ∧ (0 < n → ad = ⟨p.blk, p.base + q, none⟩) := by
  cases c with
  | known c => obtain ⟨p, hp, e⟩ := RV_known h; exact ⟨p, _, _, hp, e, fun _ => rfl⟩
  | opn sz =>
    obtain ⟨p, ad, cap, hp, e, hle, _, hor⟩ := RV_open h
    refine ⟨p, ad, cap, hp, e, fun hn => ?_⟩
    rcases hor with h | h
    · exact h
    · omega

theorem lenOf_run {x : AV} {v : Value} (r : RV μ x v) {n : Nat} (h : lenOf x = some n) : (Builtin.lenOf v).run P w = .ok n w := by
  cases x <;> simp only [lenOf, Option.some.injEq, reduceCtorEq] at h
  case nils => simp only [RV] at r; subst r; subst h; rfl
  case slc b q k c => obtain ⟨p, ad, cap, _, e, _⟩ := RV_slc r; subst e; subst h; rfl
  case str l =>
    simp only [RV] at r
    obtain ⟨s, rfl, rfl⟩ := r
    subst h
    simp [Builtin.lenOf]

/-- the cells of a slice's first n elements, of a text's first n bytes -/
theorem first_run (hR : Rel μ σ w) {x : AV} {v : Value} (r : RV μ x v) {sz n : Nat} {cs : List AV} (h : srcCells σ sz n x = some cs) {m : Nat} (hm : lenOf x = some m) (hn : n ≤ m) :
    ∃ arr, (∀ w' : World, w'.heap = w.heap → (Builtin.firstCells sz n v).run P w' = .ok arr w') ∧ RVs μ cs arr.toList ∧ arr.size = n * sz := by
  cases x <;> simp only [srcCells, reduceCtorEq] at h
  case nils =>
    simp only [RV] at r
    subst r
    simp only [cond_eq_ite] at h
    split at h
    · rename_i h0
      have h0 := Nat.eq_of_beq_eq_true h0
      subst h0
      cases h
      exact ⟨#[], fun _ _ => rfl, by simp [RVs], by simp⟩
    · cases h
  case slc b q k c =>
    obtain ⟨p, ad, cap, hp, e, had⟩ := RV_slc r
    subst e
    simp only [lenOf, Option.some.injEq] at hm
    subst hm
    rcases Nat.eq_zero_or_pos n with h0 | h0
    · subst h0
      obtain ⟨ro, cs', hb, _, rfl, hl⟩ := load_some h
      have : List.take (0 * sz) (List.drop q cs') = [] := by simp
      rw [this]
      exact ⟨#[], fun w' _ => by simp [Builtin.firstCells, loadCells, loadCellsFrom], by simp [RVs], by simp⟩
    · have := had (by omega)
      subst this
      obtain ⟨vs, hl, rr, _, hcell⟩ := load_run (P := P) h hR hp
      refine ⟨vs.toArray, fun w' hw => ?_, by simpa using rr, by simpa using hl⟩
      have := run_loadCells_list (P := P) w' ⟨p.blk, p.base + q, none⟩ vs (fun j v hj => by
        rw [Addr.add_lit]
        have := hcell j v hj
        simp only [World.cell?, hw] at this ⊢
        exact this)
      rw [hl] at this
      simpa [Builtin.firstCells] using this
  case str l =>
    simp only [RV] at r
    obtain ⟨s, rfl, rfl⟩ := r
    simp only [cond_eq_ite] at h
    split at h
    · rename_i hsz
      have hsz := Nat.eq_of_beq_eq_true hsz
      subst hsz
      split at h
      · rename_i r' hr
        cases h
        obtain ⟨h1, rfl⟩ := ltake_some hr
        refine ⟨((s.extract 0 n).data.map fun b => .int .u8 b.toNat), fun w' _ => by simp [Builtin.firstCells], ?_, ?_⟩
        · have := ofBytes_RVs μ (s.extract 0 n).data.toList
          rw [Array.toList_map, ByteArray.data_extract, Array.toList_extract, List.extract_eq_take_drop]
          rw [ByteArray.data_extract, Array.toList_extract, List.extract_eq_take_drop] at this
          simpa using this
        · have hsz : s.size = (s.data.toList.map (·.toNat)).length := by rw [List.length_map, Array.length_toList]; rfl
          have hl : s.data.size = s.size := rfl
          rw [Array.size_map, ByteArray.data_extract, Array.size_extract]
          omega
      · cases h
    · cases h

theorem nextslicecap_le {need c : Nat} (h : c < need) (h2 : need < 17179869184) : Builtin.nextslicecap need c ≤ 5 * need + 4000 := by
  have g : ∀ (r c : Nat), c < 2 * need → Builtin.growBy need r c ≤ max c (2 * (2 * need) + 400) := by
    intro r
    induction r with
    | zero => intro c hc; simp [Builtin.growBy]; omega
    | succ r ih =>
      intro c hc
      simp only [Builtin.growBy]
      split
      · omega
      · rename_i h3
        by_cases h4 : c + (c + 768) / 4 < 2 * need
        · have := ih _ h4; omega
        · have h5 : ∀ r', Builtin.growBy need r' (c + (c + 768) / 4) = c + (c + 768) / 4 := by
            intro r'
            cases r' with
            | zero => rfl
            | succ r' => simp only [Builtin.growBy]; rw [if_pos (by omega)]
          rw [h5]
          omega
  unfold Builtin.nextslicecap
  split
  · omega
  · split
    · omega
    · have := g 4 c (by omega); omega

theorem cap_cut {need old : Nat} {elem : TypeId} {t : Nat} (h : need < 17179869184) : need ≤ (Question.appendCap need old elem).cut t := by
  simp [Question.cut]

/-- what append does behind its arguments, when it must grow -/
theorem grow_step (hR : Rel μ σ w) {e : TypeId} {i : TypeInfo} {zv : Value} {sz : Nat} (hi : P.info? e = some i) (hz : i.zero = some zv) (hzs : zv.cells.size = sz) {old new : List AV}
    {ao an : Array Value} (ro : RVs μ old ao.toList) (rn : RVs μ new an.toList) {len n cap : Nat} (h1 : ao.size = len * sz) (h2 : an.size = n * sz) (h3 : len + n ≤ cap) :
    Step μ σ w (μ.up σ.nx ⟨w.heap.size, 0, (ao ++ an ++ Builtin.zeroCells zv.cells (cap - (len + n))).size⟩) (σ.new (.cells false (old ++ new)))
      (w.alloc (.cells (ao ++ an ++ Builtin.zeroCells zv.cells (cap - (len + n))) e)) ∧
    RV (μ.up σ.nx ⟨w.heap.size, 0, (ao ++ an ++ Builtin.zeroCells zv.cells (cap - (len + n))).size⟩) (.slc σ.nx 0 (len + n) (.opn sz))
      (.slice (some ⟨w.heap.size, 0, none⟩) (len + n) cap) := by
  have hol := ro.length
  have hnl := rn.length
  simp at hol hnl
  have hzc : (Builtin.zeroCells zv.cells (cap - (len + n))).size = (cap - (len + n)) * sz := by simp [Builtin.zeroCells, hzs]
  have hsz : (ao ++ an ++ Builtin.zeroCells zv.cells (cap - (len + n))).size = cap * sz := by
    rw [Array.size_append, Array.size_append, h1, h2, hzc, ← Nat.add_mul, ← Nat.add_mul]
    congr 1; omega
  refine step_open hR e (by rw [hsz, List.length_append, hol, hnl, h1, h2, ← Nat.add_mul]; exact Nat.mul_le_mul_right _ h3) hsz h3 ?_
  intro j x hx
  obtain ⟨v, hv, rv⟩ := (ro.append rn).get hx
  refine ⟨v, ?_, rv⟩
  rw [← Array.getElem?_toList, Array.toList_append, Array.toList_append]
  rw [List.getElem?_append_left (by have := (List.getElem?_eq_some_iff.1 hv).1; exact this)]
  exact hv

/-- the model's append, its parts done -/
def appendBody (e : TypeId) (size : Nat) (zeros : Bool) (base : Option Addr) (sLen sCap n : Nat) (s x : Value) (appended : Sem (Array Value)) : Sem Value := do
  let need := sLen + n
  if need ≤ sCap then
    let new ← appended
    if let some a := base then storeCells (a.add (sLen * size)) new.toList
    pure (.slice base need sCap)
  else
    if (need : Int) > IntKind.i64.max ∧ (zeros ∨ (← typeInfo e).bytes = 0) then runtimePanic (.error "growslice: len out of range")
    if Builtin.nextslicecap need sCap * (← typeInfo e).bytes > 2 ^ 48 then (if zeros then runtimePanic (.error "growslice: len out of range") else do
      if !(← Builtin.mayShare size sLen n base x) then mark .noRoom
      unsupported (.resourceLimit "append: a slice or a string whose bytes no memory bears"))
    let newCap ← choose (.appendCap need sCap e)
    askRoom (newCap * (← typeInfo e).bytes)
    let old ← Builtin.firstCells size sLen s
    let new ← appended
    let rest := Builtin.zeroCells (← zeroValue e).cells (newCap - need)
    pure (.slice (some (← newRow e (old ++ new ++ rest))) need newCap)

theorem body_room {e : TypeId} {size : Nat} {zeros : Bool} {base : Option Addr} {sLen sCap n : Nat} {s x : Value} {app : Sem (Array Value)} {arr : Array Value} (h : sLen + n ≤ sCap)
    (happ : app.run P w = .ok arr w) {w' : World} (hst : ∀ ad, base = some ad → (storeCells (ad.add (sLen * size)) arr.toList).run P w = .ok () w') (hnone : base = none → w' = w) :
    (appendBody e size zeros base sLen sCap n s x app).run P w = .ok (.slice base (sLen + n) sCap) w' := by
  unfold appendBody
  simp only [h, if_true, Sem.run_bind, happ, Result.andThen_ok]
  cases base with
  | none => rw [hnone rfl]; rfl
  | some ad => simp only [Sem.run_bind, hst ad rfl, Result.andThen_ok]; rfl

theorem body_grow {e : TypeId} {size : Nat} {zeros : Bool} {base : Option Addr} {sLen sCap n : Nat} {s x : Value} {app : Sem (Array Value)} {ao an : Array Value} {i : TypeInfo} {zv : Value}
    (hi : P.info? e = some i) (hz : i.zero = some zv) (h : sCap < sLen + n) (hs : small (sLen + n) i.bytes = true) (hold : (Builtin.firstCells size sLen s).run P w.drew = .ok ao w.drew)
    (happ : app.run P w.drew = .ok an w.drew) : ∃ cap, sLen + n ≤ cap ∧ (appendBody e size zeros base sLen sCap n s x app).run P w =
      .ok (.slice (some ⟨w.heap.size, 0, none⟩) (sLen + n) cap) (w.drew.alloc (.cells (ao ++ an ++ Builtin.zeroCells zv.cells (cap - (sLen + n))) e)) := by
  obtain ⟨b1, b2, b3⟩ := small_bounds hs
  refine ⟨(Question.appendCap (sLen + n) sCap e).cut (w.tape w.drawn (.appendCap (sLen + n) sCap e)), cap_cut b1, ?_⟩
  have hn : ¬ (sLen + n ≤ sCap) := by omega
  have hbig : ¬ (((sLen + n : Nat) : Int) > IntKind.i64.max) := by rw [IntKind.max_i64]; omega
  have hcap : ¬ (Builtin.nextslicecap (sLen + n) sCap * i.bytes > 2 ^ 48) := by
    have h1 := nextslicecap_le h b1
    have h2 := small_le hs
    have h3 : Builtin.nextslicecap (sLen + n) sCap * i.bytes ≤ (5 * (sLen + n) + 4000) * i.bytes := Nat.mul_le_mul_right _ h1
    have h4 : i.bytes ≤ 17179869184 := by
      have : i.bytes + 1 ≤ (sLen + n + 1) * (i.bytes + 1) := Nat.le_mul_of_pos_left _ (by omega)
      omega
    have h5 : (5 * (sLen + n) + 4000) * i.bytes ≤ 5 * ((sLen + n) * i.bytes) + 4000 * i.bytes := by rw [Nat.add_mul, Nat.mul_assoc]; exact Nat.le_refl _
    omega
  have hforced : (Question.appendCap (sLen + n) sCap e).forced = false := rfl
  unfold appendBody
  simp only [hn, if_false, Sem.run_bind, hbig, false_and, run_typeInfo hi, Result.andThen_ok, hcap, Sem.run_pure, run_choose, hforced, Bool.false_eq_true, run_askRoom]
  rw [World.drew_eq, hold]
  simp only [Result.andThen_ok, happ, run_zeroValue hi hz, newRow, Sem.run_bind, run_newObj, Sem.run_pure]
  rfl


/-- what append answers, its parts known -/
theorem append_core (hR : Rel μ σ w) {e : TypeId} {i : TypeInfo} {zv : Value} {sz : Nat} (hi : P.info? e = some i) (hz : i.zero = some zv) (hzs : zv.cells.size = sz) {zeros : Bool}
    {x : AV} {v u : Value} (rx : RV μ x v) {n m : Nat} {new : List AV} (hm : lenOf x = some m) (hs : small (m + n) i.bytes = true) {app : Sem (Array Value)} {an : Array Value}
    (happ : ∀ w' : World, w'.heap = w.heap → app.run P w' = .ok an w') (rn : RVs μ new an.toList) (hn : an.size = n * sz) (hev : appendCells sz x n new σ = some (out, σ')) :
    ∃ base sCap, v = .slice base m sCap ∧ ∃ r μ' w' v', out = .val r ∧ Step μ σ w μ' σ' w' ∧ RV μ' r v' ∧
      (appendBody e sz zeros base m sCap n v u app).run P w = .ok v' w' := by
  have hnl := rn.length
  simp at hnl
  have grow : ∀ {base : Option Addr} {sCap : Nat} {old : List AV} {τ : AH}, v = .slice base m sCap → sCap < m + n → Step μ σ w μ τ w → srcCells σ sz m x = some old →
      newOpen sz (m + n) (old ++ new) τ = some (out, σ') → ∃ r μ' w' v', out = .val r ∧ Step μ σ w μ' σ' w' ∧ RV μ' r v' ∧
      (appendBody e sz zeros base m sCap n v u app).run P w = .ok v' w' := by
    intro base sCap old τ hv hlt hτ hold ho
    obtain ⟨ao, h1, h2, h3⟩ := first_run (P := P) hR rx hold hm (Nat.le_refl _)
    obtain ⟨rfl, rfl⟩ := newOpen_inv ho
    obtain ⟨cap, hc, hrun⟩ := body_grow (e := e) (size := sz) (zeros := zeros) (base := base) (s := v) (x := u) hi hz hlt hs (h1 w.drew rfl) (happ w.drew rfl)
    have hd : Step μ τ w μ τ w.drew := hτ.rel.draw1
    obtain ⟨hst, hrv⟩ := grow_step (P := P) hd.rel hi hz hzs h2 rn h3 hn hc
    exact ⟨_, _, _, _, rfl, hτ.trans (hd.trans hst), hrv, hrun⟩
  cases x <;> simp only [lenOf, Option.some.injEq, reduceCtorEq] at hm
  case str l => simp [appendCells] at hev
  case nils =>
    simp only [RV] at rx
    subst hm
    refine ⟨none, 0, rx, ?_⟩
    simp only [appendCells, cond_eq_ite] at hev
    split at hev
    · rename_i h0
      have h0 := Nat.eq_of_beq_eq_true h0
      subst h0
      obtain ⟨rfl, rfl⟩ := val_inv hev
      refine ⟨_, μ, w, .slice none (0 + 0) 0, rfl, Step.refl hR, by simp [RV], body_room (base := none) (Nat.le_refl _) (happ w rfl) (by intro ad h; cases h) (fun _ => rfl)⟩
    · rename_i h0
      have h0 : n ≠ 0 := fun e => h0 (by simp [e])
      exact grow (old := []) (τ := σ) rx (by omega) (Step.refl hR) (by simp [srcCells]) (by simpa using hev)
  case slc b q len c =>
    subst hm
    cases c with
    | known c =>
      obtain ⟨p, hp, ex⟩ := RV_known rx
      refine ⟨_, _, ex, ?_⟩
      simp only [appendCells, cond_eq_ite, fN_eq] at hev
      split at hev
      · rename_i hle
        have hle := Nat.le_of_ble_eq_true hle
        split at hev
        · rename_i hok
          obtain ⟨l, l', hb, hl, hev⟩ := storeK_inv hev
          obtain ⟨w', hrun, hst⟩ := store_run (P := P) hR rn hok hp hb hl
          obtain ⟨rfl, rfl⟩ := val_inv hev
          refine ⟨_, μ, w', _, rfl, hst, ⟨p, hp, rfl⟩, body_room hle (happ w rfl) ?_ (by intro h; cases h)⟩
          intro ad had
          cases had
          rw [Addr.add_lit, Nat.add_assoc]
          exact hrun
        · cases hev
      · rename_i hle
        have hle : c < len + n := by
          rcases Nat.lt_or_ge c (len + n) with h | h
          · exact h
          · exact absurd (by rw [Nat.ble_eq]; exact h) hle
        split at hev
        · rename_i old hold
          exact grow (old := old) (τ := σ) ex hle (Step.refl hR) (by simpa [srcCells] using hold) hev
        · cases hev
    | opn s' =>
      obtain ⟨p, ad, cap, hp, ex, hcl, heq, hor⟩ := RV_open rx
      refine ⟨_, _, ex, ?_⟩
      simp only [appendCells, cond_eq_ite, fN_eq] at hev
      split at hev
      · rename_i hse
        have hse := Nat.eq_of_beq_eq_true hse
        subst hse
        split at hev
        · rename_i h0
          have h0 := Nat.eq_of_beq_eq_true h0
          subst h0
          obtain ⟨rfl, rfl⟩ := val_inv hev
          have han : an.toList = [] := by apply List.eq_nil_of_length_eq_zero; simp [hn]
          refine ⟨_, μ, w, _, rfl, Step.refl hR, rx, ?_⟩
          rw [ex]
          refine body_room (by omega) (happ w rfl) ?_ (by intro h; cases h)
          intro ad' _
          rw [han]; rfl
        · rename_i h0
          have h0 : n ≠ 0 := fun e => h0 (by simp [e])
          split at hev
          · rename_i cs hb
            obtain ⟨c, e', fr, g1, g2, g3, g4, g5⟩ := hR.blk b _ p hb hp
            simp only [Bool.and_eq_true] at hev
            split at hev
            · rename_i hfit
              have hs0 : 0 < s' := by have := hfit.1; simpa [Nat.blt_eq] using this
              have hfit := Nat.le_of_ble_eq_true hfit.2
              split at hev
              · rename_i hok
                obtain ⟨l, l', hb', hl, hev⟩ := storeK_inv hev
                rw [hb] at hb'
                cases hb'
                obtain ⟨w', hrun, hst⟩ := store_run (P := P) hR rn hok hp hb hl
                obtain ⟨rfl, rfl⟩ := val_inv hev
                by_cases hroom : len + n ≤ cap
                · have had : ad = ⟨p.blk, p.base + q, none⟩ := by
                    rcases hor with h | h
                    · exact h
                    · omega
                  subst had
                  refine ⟨_, μ, w', _, rfl, hst, ⟨p, hp, _, cap, rfl, hroom, heq, .inl rfl⟩, body_room hroom (happ w rfl) ?_ (by intro h; cases h)⟩
                  intro ad' had
                  cases had
                  rw [Addr.add_lit, Nat.add_assoc]
                  exact hrun
                · exfalso
                  have h1 : (len + n) * s' ≤ cap * s' := by omega
                  exact hroom (Nat.le_of_mul_le_mul_right h1 hs0)
              · cases hev
            · split at hev
              · rename_i old hold
                split at hev
                · rename_i hok
                  rw [AH.setK_eq] at hev
                  obtain ⟨hold1, hold2⟩ := ltake_some hold
                  rw [ldrop_eq] at hold1 hold2
                  have hsrc : srcCells σ s' len (.slc b q len (.opn s')) = some old := by simp [srcCells, AH.load, hb, hold]
                  have hkill := step_kill hR hb rfl
                  by_cases hroom : len + n ≤ cap
                  · have had : ad = ⟨p.blk, p.base + q, none⟩ := by
                      rcases hor with h | h
                      · exact h
                      · omega
                    subst had
                    have hmul : (len + n) * s' ≤ cap * s' := Nat.mul_le_mul_right _ hroom
                    have hadd : (len + n) * s' = len * s' + n * s' := Nat.add_mul _ _ _
                    have hvl : an.toList.length = n * s' := by simpa using hn
                    obtain ⟨c', hrun, hov⟩ := run_storeCells (P := P) ⟨p.blk, p.base + q + len * s', none⟩ rfl an.toList 0 w c e' fr g1 (by simp only [hvl]; omega)
                      (fun j hj => by have := g4 rfl; rw [hvl] at hj; simp only [Nat.add_zero]; omega) (rn.oneCell hok)
                    obtain ⟨rfl, rfl⟩ := newOpen_inv hev
                    have hlt : p.blk < w.heap.size := (Array.getElem?_eq_some_iff.1 g1).1
                    let qp : Plc := ⟨p.blk, p.base + q, p.cap - q⟩
                    have hle := Mu.le_up (p := qp) hR.mu_nx
                    have hst := step_move (w' := { w with heap := w.heap.setIfInBounds p.blk (.cells c' e' fr) }) (q := qp) (x' := .cells false (old ++ new)) hR hb rfl hp rfl rfl rfl rfl rfl (by simp)
                      (fun i hi => by simp [Ne.symm hi]) (by
                        have holdl : old.length = len * s' := by rw [hold2]; simp at hold1 ⊢; omega
                        obtain ⟨hsz, hget⟩ := hov
                        refine ⟨c', e', fr, by simp [qp, hlt], by simp only [qp]; omega, by simp only [qp, List.length_append, holdl, hnl, hn]; omega, fun _ => ?_, ?_⟩
                        · have := g4 rfl; simp only [qp]; omega
                        · intro j y hy
                          simp only [qp]
                          rw [hget]
                          simp only [Nat.add_zero]
                          by_cases hj : j < old.length
                          · rw [List.getElem?_append_left hj] at hy
                            rw [if_neg (by omega)]
                            have hy' : cs[q + j]? = some y := by
                              rw [hold2, List.getElem?_take_of_lt (by omega), List.getElem?_drop] at hy
                              exact hy
                            obtain ⟨v, hv, rv⟩ := g5 _ _ hy'
                            exact ⟨v, by rw [show p.base + q + j = p.base + (q + j) by omega]; exact hv, RV.mono hle _ _ rv⟩
                          · rw [List.getElem?_append_right (by omega)] at hy
                            obtain ⟨v, hv, rv⟩ := rn.get hy
                            have hjl := (List.getElem?_eq_some_iff.1 hv).1
                            rw [if_pos (by omega)]
                            exact ⟨v, by rw [show p.base + q + j - (p.base + q + len * s') = j - old.length by omega]; exact hv, RV.mono hle _ _ rv⟩)
                    refine ⟨_, _, _, .slice (some ⟨p.blk, p.base + q, none⟩) (len + n) cap, rfl, hst, ?_, body_room hroom (happ w rfl) ?_ (by intro h; cases h)⟩
                    · simp only [RV]
                      exact ⟨qp, up_nx _ _ _, _, cap, rfl, hroom, by simp only [qp]; omega, .inl (by simp [qp])⟩
                    · intro ad' had
                      cases had
                      rw [Addr.add_lit]
                      exact hrun
                  · exact grow (old := old) (τ := σ.put b none) ex (by omega) hkill hsrc hev
                · cases hev
              · cases hev
          · cases hev
      · cases hev

end
end Go.Proofs.YtgaoddafkjdecaaGreat.EV
