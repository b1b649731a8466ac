/-
  EV, part S21: code, functions. Own work of this claim.
-/
import Derived.Test.YtgaoddafkjdecaaGreatEvS20
import Derived.Test.YtgaoddafkjdecaaGreatEvK
import Derived.Laws.Sem
set_option linter.unusedVariables false
set_option linter.unusedSimpArgs false
namespace Go.Proofs.YtgaoddafkjdecaaGreat.EV

section
variable {P : Program} {ms : List String} {w : World} {μ : Mu} {σ σ' : AH} {nt : Nat} {ρ ρ' : Env} {a : Act} {ops : Array Oper} {o : Oper} {out : Out} {tbl : Disp} {call : Call}

theorem Fin.trans {σ1 : AH} {w1 : World} {μ1 : Mu} {x : AX} {e : Exit} {a' : Act} {w' : World} (h : Step μ σ w μ1 σ1 w1) (k : Fin nt μ1 σ1 w1 x ρ' σ' e a' w') :
    Fin nt μ σ w x ρ' σ' e a' w' := by
  obtain ⟨μ', h1, h2, h3⟩ := k
  exact ⟨μ', h.trans h1, h2, h3⟩

theorem runs_norm {rl : List ROp} {k : Env → AH → Res} {res : AX × Env × AH} : ∀ {l : List Nat} {ρ : Env} {σ : AH}, evRuns tbl call rl k l ρ σ = some res → ∃ ρ' σ', k ρ' σ' = some res
  | [], ρ, σ, h => ⟨ρ, σ, h⟩
  | i :: l, ρ, σ, h => by
    obtain ⟨r, b, v, σ1, _, _, _, _, h1⟩ := evOne_inv (k := evRuns tbl call rl k l) h
    exact runs_norm h1

theorem plan_norm {rl : List ROp} {x : AX} : ∀ {l : List Stage} {ρ : Env} {σ : AH}, evPlan tbl call rl l ρ σ = some (x, ρ', σ') → x = .norm
  | [], ρ, σ, h => by
    simp only [evPlan, Option.some.injEq, Prod.mk.injEq] at h
    exact h.1.symm
  | s :: l, ρ, σ, h => by
    simp only [evPlan] at h
    obtain ⟨h, _⟩ := evChks_inv h
    obtain ⟨ρ1, σ1, h1⟩ := runs_norm h
    split at h1
    · obtain ⟨r, b, v, σ2, _, _, _, _, h2⟩ := evOne_inv h1
      exact plan_norm h2
    · exact plan_norm h1

theorem code_sound (hC : CallOK P call) (hD : DispOK P ms tbl) (hmo : P.follows .mixedOrders = true) {rounds : Nat} : ∀ (c : Code) (ac : ACode), cCode P ms nt c = some ac →
    ∀ (μ : Mu) (σ : AH) (w : World) (ρ : Env) (a : Act) (x : AX) (ρ' : Env) (σ' : AH), evCode tbl call rounds ac ρ σ = some (x, ρ', σ') → Rel μ σ w → RA μ nt ρ a →
    c.wp P (Fin nt μ σ w x ρ' σ') a w
  | .skip, ac, hc, μ, σ, w, ρ, a, x, ρ', σ', hev, hR, hA => by
    simp only [cCode, Option.some.injEq] at hc
    subst hc
    simp only [evCode, Option.some.injEq, Prod.mk.injEq] at hev
    obtain ⟨rfl, rfl, rfl⟩ := hev
    exact wp_skip ⟨μ, Step.refl hR, hA, rfl⟩
  | .region id ops false, ac, hc, μ, σ, w, ρ, a, x, ρ', σ', hev, hR, hA => by
    simp only [cCode] at hc
    split at hc
    · rename_i l hl
      cases hc
      exact region_sound hC hD hl (by simpa [evCode] using hev) hR hA
    · cases hc
  | .region id ops true, ac, hc, μ, σ, w, ρ, a, x, ρ', σ', hev, hR, hA => by
    simp only [cCode] at hc
    split at hc
    · rename_i l hl
      simp only [cond_eq_ite] at hc
      split at hc
      · rename_i hok
        cases hc
        simp only [evCode] at hev
        have hx : x = .norm := plan_norm hev
        subst hx
        exact drawn_sound hC hD hmo hl hok hev hR hA
      · cases hc
    · cases hc
  | .seq c d, ac, hc, μ, σ, w, ρ, a, x, ρ', σ', hev, hR, hA => by
    simp only [cCode] at hc
    split at hc
    · rename_i ac1 ac2 h1 h2
      cases hc
      simp only [evCode] at hev
      refine wp_seq ?_
      split at hev
      · rename_i ρ1 σ1 hev1
        refine wp_mono (code_sound hC hD hmo c ac1 h1 μ σ w ρ a _ _ _ hev1 hR hA) ?_
        rintro e a1 w1 ⟨μ1, hst, hA1, hx⟩
        simp only [RelX] at hx
        subst hx
        exact wp_mono (code_sound hC hD hmo d ac2 h2 μ1 σ1 w1 ρ1 a1 _ _ _ hev hst.rel hA1) fun e a' w' h => h.trans hst
      · rename_i hne
        refine wp_mono (code_sound hC hD hmo c ac1 h1 μ σ w ρ a _ _ _ hev hR hA) ?_
        rintro e a1 w1 ⟨μ1, hst, hA1, hx⟩
        have hxn : x ≠ .norm := by rintro rfl; exact hne _ _ hev
        cases x with
        | norm => exact absurd rfl hxn
        | exit id => simp only [RelX] at hx; subst hx; exact ⟨μ1, hst, hA1, rfl⟩
        | ret => simp only [RelX] at hx; subst hx; exact ⟨μ1, hst, hA1, rfl⟩
        | pan v => simp only [RelX] at hx; obtain ⟨v', rfl, hv⟩ := hx; exact ⟨μ1, hst, hA1, v', rfl, hv⟩
    · cases hc
  | .cond c d e, ac, hc, μ, σ, w, ρ, a, x, ρ', σ', hev, hR, hA => by
    simp only [cCode] at hc
    split at hc
    · rename_i c' d' e' h0 h1 h2
      cases hc
      have rc := opd_RV hA h0
      simp only [evCode] at hev
      split at hev
      · rename_i hb
        rw [hb] at rc
        simp only [RV] at rc
        exact wp_cond_true rc (code_sound hC hD hmo d d' h1 μ σ w ρ a _ _ _ hev hR hA)
      · rename_i hb
        rw [hb] at rc
        simp only [RV] at rc
        exact wp_cond_false rc (code_sound hC hD hmo e e' h2 μ σ w ρ a _ _ _ hev hR hA)
      · cases hev
    · cases hc
  | .block id c, ac, hc, μ, σ, w, ρ, a, x, ρ', σ', hev, hR, hA => by
    simp only [cCode] at hc
    split at hc
    · rename_i c' h1
      cases hc
      simp only [evCode] at hev
      refine wp_block ?_
      split at hev
      · rename_i j ρ1 σ1 hev1
        refine wp_mono (code_sound hC hD hmo c c' h1 μ σ w ρ a _ _ _ hev1 hR hA) ?_
        rintro e a1 w1 ⟨μ1, hst, hA1, hx⟩
        simp only [RelX] at hx
        subst hx
        simp only [Exit.inBlock]
        simp only [cond_eq_ite] at hev
        split at hev
        · rename_i hj
          have hj := Nat.eq_of_beq_eq_true hj
          simp only [Option.some.injEq, Prod.mk.injEq] at hev
          obtain ⟨rfl, rfl, rfl⟩ := hev
          rw [if_pos hj]
          exact ⟨μ1, hst, hA1, rfl⟩
        · rename_i hj
          have hj : j ≠ id := fun h => hj (by subst h; simp)
          simp only [Option.some.injEq, Prod.mk.injEq] at hev
          obtain ⟨rfl, rfl, rfl⟩ := hev
          rw [if_neg hj]
          exact ⟨μ1, hst, hA1, rfl⟩
      · rename_i hne
        refine wp_mono (code_sound hC hD hmo c c' h1 μ σ w ρ a _ _ _ hev hR hA) ?_
        rintro e a1 w1 ⟨μ1, hst, hA1, hx⟩
        cases x with
        | norm => simp only [RelX] at hx; subst hx; exact ⟨μ1, hst, hA1, rfl⟩
        | exit id => exact absurd hev (hne _ _ _)
        | ret => simp only [RelX] at hx; subst hx; exact ⟨μ1, hst, hA1, rfl⟩
        | pan v => simp only [RelX] at hx; obtain ⟨v', rfl, hv⟩ := hx; exact ⟨μ1, hst, hA1, v', rfl, hv⟩
    · cases hc
  | .loop c, ac, hc, μ, σ, w, ρ, a, x, ρ', σ', hev, hR, hA => by
    simp only [cCode] at hc
    split at hc
    · rename_i c' h1
      cases hc
      simp only [evCode] at hev
      have ih := code_sound hC hD hmo (rounds := rounds) c c' h1
      let M : Act → World → Nat → Prop := fun a1 w1 n => ∃ μ1 σ1 ρ1, Step μ σ w μ1 σ1 w1 ∧ RA μ1 nt ρ1 a1 ∧ evLoop (evCode tbl call rounds c') n ρ1 σ1 = some (x, ρ', σ')
      have hloop : ∀ (n : Nat) (a1 : Act) (w1 : World), M a1 w1 n → ∀ (b : Frame) (k : List Item) (cs : List Frame),
          ∃ e a' w', Fin nt μ σ w x ρ' σ' e a' w' ∧ Arrives P (lone (b.at a1 (.code c :: .inLoop c :: k)) cs w1) b k cs e a' w' := by
        intro n
        induction n with
        | zero => rintro a1 w1 ⟨μ1, σ1, ρ1, _, _, h⟩; simp [evLoop] at h
        | succ n ihn =>
          rintro a1 w1 ⟨μ1, σ1, ρ1, hst, hA1, h⟩ b k cs
          have h : (match evCode tbl call rounds c' ρ1 σ1 with
            | some (.norm, ρ, σ) => evLoop (evCode tbl call rounds c') n ρ σ
            | r => r) = some (x, ρ', σ') := h
          split at h
          · rename_i ρ2 σ2 hev2
            obtain ⟨e, a2, w2, ⟨μ2, hst2, hA2, hx⟩, harr⟩ := ih μ1 σ1 w1 ρ1 a1 _ _ _ hev2 hst.rel hA1 b (.inLoop c :: k) cs
            simp only [RelX] at hx
            subst hx
            obtain ⟨e3, a3, w3, hf, harr3⟩ := ihn a2 w2 ⟨μ2, σ2, ρ2, hst.trans hst2, hA2, h⟩ b k cs
            exact ⟨e3, a3, w3, hf, .of_steps (Steps.trans harr (.one step_inLoop)) harr3⟩
          · rename_i hne
            obtain ⟨e, a2, w2, hf, harr⟩ := ih μ1 σ1 w1 ρ1 a1 _ _ _ h hst.rel hA1 b (.inLoop c :: k) cs
            obtain ⟨μ2, hst2, hA2, hx⟩ := id hf
            have he : e ≠ .normal := by
              rintro rfl
              cases x with
              | norm => exact hne _ _ h
              | exit id => simp [RelX] at hx
              | ret => simp [RelX] at hx
              | pan v => simp [RelX] at hx
            exact ⟨e, a2, w2, hf.trans hst, .pass (x := .inLoop c) rfl (fun _ _ => .inl he) harr⟩
      intro b k cs
      obtain ⟨e, a', w', hf, harr⟩ := hloop rounds a w ⟨μ, σ, ρ, Step.refl hR, hA, hev⟩ b k cs
      exact ⟨e, a', w', hf, .of_steps (.one step_loop) harr⟩
    · cases hc
  | .exit id, ac, hc, μ, σ, w, ρ, a, x, ρ', σ', hev, hR, hA => by
    simp only [cCode, Option.some.injEq] at hc
    subst hc
    simp only [evCode, Option.some.injEq, Prod.mk.injEq] at hev
    obtain ⟨rfl, rfl, rfl⟩ := hev
    exact wp_exit ⟨μ, Step.refl hR, hA, rfl⟩
  | .ret, ac, hc, μ, σ, w, ρ, a, x, ρ', σ', hev, hR, hA => by
    simp only [cCode, Option.some.injEq] at hc
    subst hc
    simp only [evCode, Option.some.injEq, Prod.mk.injEq] at hev
    obtain ⟨rfl, rfl, rfl⟩ := hev
    exact wp_ret ⟨μ, Step.refl hR, hA, rfl⟩
  | .rangeFunc _ _ _ _, ac, hc, _, _, _, _, _, _, _, _, _, _, _ | .scope _, ac, hc, _, _, _, _, _, _, _, _, _, _, _ | .label _, ac, hc, _, _, _, _, _, _, _, _, _, _, _
  | .goto _, ac, hc, _, _, _, _, _, _, _, _, _, _, _ | .refuse _, ac, hc, _, _, _, _, _, _, _, _, _, _, _ => by simp [cCode] at hc

/-! ### Functions -/

def resF (tmps : Array Value) : ResultVar → Sem Value
  | .tmp t => pure (tmps.getD t undef)
  | .cell p t => do loadVar t (← asAddr (tmps.getD p undef))

theorem results_eq (fn : Func) (tmps : Array Value) : results fn tmps = (do
    let vs ← fn.results.mapM (resF tmps)
    pure (if h : vs.size = 1 then vs[0] else .tuple vs)) := by
  unfold results
  congr 2

theorem res_sound (hR : Rel μ σ w) (hA : RA μ nt ρ a) : ∀ {rs : List ResultVar} {rl : List RVar} {l : List AV}, cRes P rs = some rl → evRes ρ σ rl = some l →
    ∃ vs : List Value, (rs.mapM (resF a.tmps)).run P w = .ok vs w ∧ RVs μ l vs
  | [], rl, l, hc, hev => by
    simp only [cRes, Option.some.injEq] at hc
    subst hc
    simp only [evRes, Option.some.injEq] at hev
    subst hev
    exact ⟨[], by simp, rfl⟩
  | .tmp t :: rs, rl, l, hc, hev => by
    simp only [cRes] at hc
    split at hc
    · rename_i r hr
      cases hc
      simp only [evRes] at hev
      split at hev
      · rename_i m hm
        cases hev
        obtain ⟨vs, h1, h2⟩ := res_sound hR hA hr hm
        refine ⟨a.tmps.getD t undef :: vs, ?_, _, _, rfl, ?_, h2⟩
        · rw [List.mapM_cons]
          simp only [resF, Sem.run_bind, Sem.run_pure, Result.andThen_ok, h1]
        · rw [AO.ev_tmp]; exact hA.get t
      · cases hev
    · cases hc
  | .cell p t :: rs, rl, l, hc, hev => by
    simp only [cRes] at hc
    split at hc
    · rename_i n g r hn hg hr
      cases hc
      simp only [evRes] at hev
      split at hev
      · rename_i b q m hb hm
        have rp := hA.get p
        rw [← AO.ev_tmp, hb] at rp
        simp only [RV] at rp
        obtain ⟨pl, hpl, ep⟩ := rp
        obtain ⟨vs, h1, h2⟩ := res_sound hR hA hr hm
        split at hev
        · rename_i cs hcs
          obtain ⟨us, hun, ru, hrun, hc⟩ := load_run (P := P) hcs hR hpl
          simp only [cond_eq_ite] at hev
          split at hev
          · rename_i hgt
            subst hgt
            cases hev
            refine ⟨.agg us.toArray :: vs, ?_, _, _, rfl, ⟨us.toArray, rfl, by simpa using ru⟩, h2⟩
            rw [List.mapM_cons]
            simp only [resF, Sem.run_bind, Sem.run_pure, Result.andThen_ok, h1, ep, asAddr, loadVar, run_isAgg hg, if_true, run_sizeOf hn, hrun]
          · rename_i hgf
            have hgf : g = false := by simpa using hgf
            subst hgf
            split at hev
            · rename_i v
              cases hev
              simp only [RVs] at ru
              obtain ⟨u, t', rfl, ru, rfl⟩ := ru
              have h0 := hc 0 u (by simp)
              simp only [Nat.add_zero] at h0
              refine ⟨u :: vs, ?_, _, _, rfl, ru, h2⟩
              rw [List.mapM_cons]
              simp [resF, Sem.run_bind, Sem.run_pure, Result.andThen_ok, h1, ep, asAddr, loadVar, run_isAgg hg, h0]
            · cases hev
        · cases hev
      · cases hev
    · cases hc

theorem results_sound (hR : Rel μ σ w) (hA : RA μ nt ρ a) {fn : Func} {rl : List RVar} {l : List AV} (hc : cRes P fn.results.toList = some rl) (hev : evRes ρ σ rl = some l) :
    ∃ v, (results fn a.tmps).run P w = .ok v w ∧ RV μ (packRes l) v := by
  obtain ⟨vs, h1, h2⟩ := res_sound hR hA hc hev
  refine ⟨if h : vs.toArray.size = 1 then vs.toArray[0] else .tuple vs.toArray, ?_, ?_⟩
  · rw [results_eq, Sem.run_bind, Array.mapM_eq_mapM_toList]
    simp only [map_eq_pure_bind, Sem.run_bind]
    rw [h1]
    simp only [Result.andThen_ok, Sem.run_pure]
  · cases l with
    | nil => simp only [RVs] at h2; subst h2; exact ⟨#[], by simp, rfl⟩
    | cons x l =>
      simp only [RVs] at h2
      obtain ⟨v, r, rfl, hv, hr⟩ := h2
      cases l with
      | nil => simp only [RVs] at hr; subst hr; simpa [packRes] using hv
      | cons y l =>
        obtain ⟨v2, r2, rfl, hv2, hr2⟩ := id hr
        simp only [packRes]
        rw [dif_neg (by simp)]
        exact ⟨_, rfl, by simpa using ⟨v, _, rfl, hv, hr⟩⟩

theorem bind_eq {k : Env → Option (Out × AH)} : ∀ {args : List AV} {n : Nat} {ρ : Env}, ∃ ρ', bindArgs n args ρ k = k ρ' ∧
    ∀ i, ρ'.get (tp i) = if n ≤ i ∧ i < n + args.length then args[i - n]? else ρ.get (tp i)
  | [], n, ρ => ⟨ρ, rfl, fun i => by rw [if_neg]; simp⟩
  | x :: args, n, ρ => by
    obtain ⟨ρ', h1, h2⟩ := bind_eq (k := k) (args := args) (n := n + 1) (ρ := ρ.set (some x) (tp n))
    refine ⟨ρ', ?_, fun i => ?_⟩
    · simp only [bindArgs, Tr.setK_eq]
      exact h1
    · rw [h2 i]
      by_cases hi : i = n
      · subst hi
        rw [if_neg (by omega), if_pos (by simp), Tr.get_set_same]
        simp
      · have hne : tp i ≠ tp n := fun h => hi (tp_inj h)
        rw [Tr.get_set_ne _ _ hne]
        simp only [List.length_cons]
        by_cases hr : n + 1 ≤ i ∧ i < n + 1 + args.length
        · rw [if_pos hr, if_pos (by omega)]
          rw [show i - n = (i - (n + 1)) + 1 by omega]
          simp
        · rw [if_neg hr, if_neg (by omega)]

theorem fn_sound (hC : CallOK P call) (hD : DispOK P ms tbl) (hmo : P.follows .mixedOrders = true) {rounds : Nat} {f : FuncId} {fn : Func} {afn : AFn} (hf : P.funcs[f]? = some fn)
    (hc : cFn P ms fn = some afn) {args : List AV} (hev : evFn tbl call rounds afn args σ = some (out, σ')) : Ent P f ∧
    ∀ (μ : Mu) (w : World) (cargs : Array Value), Rel μ σ w → RVs μ args cargs.toList → Calls P f cargs w fun e w' => ∃ μ', Step μ σ w μ' σ' w' ∧ RelOut μ' out e := by
  unfold cFn at hc
  simp only [cond_eq_ite] at hc
  split at hc
  · cases hc
  · rename_i hname
    split at hc
    · rename_i c hbody
      split at hc
      · rename_i b rs hb hrs
        split at hc
        · rename_i hle
          have hle := Nat.le_of_ble_eq_true hle
          cases hc
          refine ⟨⟨fn, hf, by rw [hbody]; rfl, by simpa using hname⟩, fun μ w cargs hR hargs => ?_⟩
          simp only [evFn, cond_eq_ite] at hev
          split at hev
          · rename_i hlen
            have hlen := Nat.eq_of_beq_eq_true hlen
            have hsz : cargs.size = args.length := by rw [hargs.length]; simp
            obtain ⟨ρ, hbind, hget⟩ := bind_eq (k := fun ρ => match evCode tbl call rounds b ρ σ with
              | some (.norm, ρ, σ) | some (.ret, ρ, σ) => (match evRes ρ σ rs with
                | some l => some (.val (packRes l), σ)
                | none => none)
              | some (.pan v, _, σ) => some (.pan v, σ)
              | _ => none) (args := args) (n := 0) (ρ := .lf)
            have hev : bindArgs 0 args .lf (fun ρ => match evCode tbl call rounds b ρ σ with
              | some (.norm, ρ, σ) | some (.ret, ρ, σ) => (match evRes ρ σ rs with
                | some l => some (.val (packRes l), σ)
                | none => none)
              | some (.pan v, _, σ) => some (.pan v, σ)
              | _ => none) = some (out, σ') := hev
            rw [hbind] at hev
            have hA : RA μ fn.ntmps ρ { tmps := cargs ++ Array.replicate (fn.ntmps - cargs.size) undef, defers := [] } := by
              refine ⟨by simp; omega, rfl, fun i => ?_⟩
              rw [hget i]
              by_cases hi : i < args.length
              · rw [if_pos (by omega)]
                obtain ⟨v, hv, rv⟩ := hargs.get (show args[i]? = some args[i] by simp [hi])
                have : (cargs ++ Array.replicate (fn.ntmps - cargs.size) undef).getD i undef = v := by
                  rw [Array.getD_eq_getD_getElem?, Array.getElem?_append_left (by omega), ← Array.getElem?_toList, hv]
                  rfl
                simp only [this]
                simpa [hi] using rv
              · rw [if_neg (by omega)]
                have : (cargs ++ Array.replicate (fn.ntmps - cargs.size) undef).getD i undef = undef := by
                  rw [Array.getD_eq_getD_getElem?, Array.getElem?_append_right (by omega)]
                  rw [Array.getElem?_replicate]
                  split <;> rfl
                simp only [this]
                have hlf : (Tr.lf : Env).get (tp i) = none := Tr.get_lf _
                rw [hlf]
                exact RV_unA μ
            refine calls_of_wp hf hbody ?_
            split at hev
            · rename_i ρ1 σ1 hcode
              split at hev
              · rename_i l hl
                cases hev
                refine wp_mono (code_sound hC hD hmo c b hb μ σ w ρ _ _ _ _ hcode hR hA) ?_
                rintro e a1 w1 ⟨μ1, hst, hA1, hx⟩
                simp only [RelX] at hx
                subst hx
                obtain ⟨v, h1, h2⟩ := results_sound hst.rel hA1 hrs hl
                exact ⟨hA1.defers, v, h1, μ1, hst, v, rfl, h2⟩
              · cases hev
            · rename_i ρ1 σ1 hcode
              split at hev
              · rename_i l hl
                cases hev
                refine wp_mono (code_sound hC hD hmo c b hb μ σ w ρ _ _ _ _ hcode hR hA) ?_
                rintro e a1 w1 ⟨μ1, hst, hA1, hx⟩
                simp only [RelX] at hx
                subst hx
                obtain ⟨v, h1, h2⟩ := results_sound hst.rel hA1 hrs hl
                exact ⟨hA1.defers, v, h1, μ1, hst, v, rfl, h2⟩
              · cases hev
            · rename_i v ρ1 σ1 hcode
              cases hev
              refine wp_mono (code_sound hC hD hmo c b hb μ σ w ρ _ _ _ _ hcode hR hA) ?_
              rintro e a1 w1 ⟨μ1, hst, hA1, hx⟩
              simp only [RelX] at hx
              obtain ⟨v', rfl, hv⟩ := hx
              exact ⟨hA1.defers, μ1, hst, v', rfl, hv⟩
            · cases hev
          · cases hev
        · cases hc
      · cases hc
    · cases hc

/-- a summary of a function, in place of its code -/
def PrimOK (P : Program) (f : FuncId) (p : Prim) : Prop :=
  ∀ (call : Call), CallOK P call → ∀ (args : List AV) (σ : AH) (out : Out) (σ' : AH), p call args σ = some (out, σ') → Ent P f ∧
    ∀ (μ : Mu) (w : World) (cargs : Array Value), Rel μ σ w → RVs μ args cargs.toList →
      Calls P f cargs w fun e w' => ∃ μ', Step μ σ w μ' σ' w' ∧ RelOut μ' out e

structure BookOK (P : Program) (ms : List String) (B : Book) : Prop where
  mixed : P.follows .mixedOrders = true
  disp : DispOK P ms B.tbl
  prims : ∀ (f : FuncId) (p : Prim), B.prims.get (tp f) = some p → PrimOK P f p
  fns : ∀ (f : FuncId) (g : AFn), B.fns.get (tp f) = some g → ∃ fn, P.funcs[f]? = some fn ∧ cFn P ms fn = some g

theorem book_sound {B : Book} (h : BookOK P ms B) (rounds : Nat) : ∀ n, CallOK P (B.call rounds n)
  | 0 => fun f args σ out σ' e => by simp [Book.call] at e
  | n + 1 => fun f args σ out σ' e => by
    have e : (match B.prims.get (tp f) with
      | some p => p (B.call rounds n) args σ
      | none => match B.fns.get (tp f) with
        | some fn => evFn B.tbl (B.call rounds n) rounds fn args σ
        | none => none) = some (out, σ') := e
    split at e
    · rename_i p hp
      exact h.prims f p hp _ (book_sound h rounds n) args σ out σ' e
    · split at e
      · rename_i g hg
        obtain ⟨fn, hf, hc⟩ := h.fns f g hg
        exact fn_sound (book_sound h rounds n) h.disp h.mixed hf hc e
      · cases e

end
end Go.Proofs.YtgaoddafkjdecaaGreat.EV
