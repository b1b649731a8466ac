/-
  EV, part S14: maps. Own work of this claim.
-/
import Derived.Test.YtgaoddafkjdecaaGreatEvS13
set_option linter.unusedVariables false
set_option linter.unusedSimpArgs false
namespace Go.Proofs.YtgaoddafkjdecaaGreat.EV

section
variable {P : Program} {ms : List String} {w : World} {μ : Mu} {σ σ' : AH} {nt : Nat} {ρ : Env} {a : Act} {o : Oper} {out : Out} {tbl : Disp} {call : Call}

theorem findKey_now {t : TypeId} {d : TypeDesc} {v : Value} {es : List MapEntry} {r : Option (Nat × Value)} (ht : P.underlying t = some d) (h : Instr.findNow d v es 0 = some r) :
    (Instr.findKey t v es).run P w = .ok r w := by
  simp only [Instr.findKey, Sem.run_bind, run_underlying ht, Result.andThen_ok, h]
  rfl

theorem keyDesc {t : TypeId} {str : Bool} {ik : IntKind} (h : keyKind P t = some (str, ik)) :
    ∃ d, P.underlying t = some d ∧ ((str = false ∧ d = .int ik) ∨ (str = true ∧ d = .string)) := by
  rcases keyKind_spec h with ⟨h1, h2⟩ | ⟨h1, h2⟩
  · exact ⟨_, h2, .inl ⟨h1, rfl⟩⟩
  · exact ⟨_, h2, .inr ⟨h1, rfl⟩⟩

theorem q_lookup (hR : Rel μ σ w) (hA : RA μ nt ρ a) {t kt e : TypeId} {inf : TypeInfo} {zv : Value} {z : AV} {str ok : Bool} {ik : IntKind} {x i : Operand} {x' i' : AO} (ho : o.op = .lookup t x i ok)
    (hx : cOpd x = some x') (hi : cOpd i = some i') (ht : P.underlying t = some (.map kt e)) (hk : keyKind P kt = some (str, ik)) (he : P.info? e = some inf) (hzv : inf.zero = some zv)
    (hz : ofVal zv = some z) (hev : evOp tbl call ρ σ (.lookup str ik z x' i' ok) = some (out, σ')) : Quiet P o a μ σ w out σ' := by
  have rx := opd_RV hA hx
  have ri := opd_RV hA hi
  obtain ⟨d, hd, hkd⟩ := keyDesc hk
  have rz : RV μ z zv := ofVal_RV μ zv z hz
  have miss : ∀ {es : Array MapEntry}, ((a.eval x = .map none ∧ es = #[]) ∨ ∃ r clk, a.eval x = .map (some r) ∧ w.heap[r]? = some (.map es clk)) → Instr.findNow d (a.eval i) es.toList 0 = some none →
      (execOp a.eval o).run P w = .ok (.value (if ok then .tuple #[zv, .bool false] else zv)) w := by
    intro es h hf
    have hfk := findKey_now (P := P) (w := w) hd hf
    rcases h with ⟨h, rfl⟩ | ⟨r, clk, h, hh⟩
    · simp only [execOp, ho, Instr.lookup, Sem.run_bind, run_underlying ht, Result.andThen_ok, h, Sem.run_pure, checkKey_run hk, hfk, run_zeroValue he hzv]
      try (cases ok <;> rfl)
    · have hg : (getObj r).run P w = .ok (.map es clk) w := by simp [getObj, Sem.run, hh]
      simp only [execOp, ho, Instr.lookup, Sem.run_bind, run_underlying ht, Result.andThen_ok, h, hg, Sem.run_pure, checkKey_run hk, hfk, run_zeroValue he hzv]
      try (cases ok <;> rfl)
  simp only [evOp] at hev
  split at hev
  · rename_i hb
    rw [hb] at rx
    simp only [RV] at rx
    simp only [cond_eq_ite] at hev
    split at hev
    · refine Quiet.same hR (val_inv hev) ?_ (.of_value (miss (es := #[]) (.inl ⟨rx, rfl⟩) rfl))
      cases ok
      · simpa using rz
      · simp only [if_true]; exact ⟨_, rfl, zv, [.bool false], rfl, rz, _, _, rfl, by simp [RV], by simp [RVs]⟩
    · cases hev
  · rename_i b hb
    rw [hb] at rx
    simp only [RV] at rx
    obtain ⟨p, hp, ex⟩ := rx
    split at hev
    · rename_i es hes
      obtain ⟨ces, clk, h1, hbo, h2⟩ := hR.blk b _ p hes hp
      simp only [cond_eq_ite] at hev
      split at hev
      · split at hev
        · rename_i v hv
          rcases findA_now hkd ri 0 h2 hv with ⟨h, _⟩ | ⟨y, u, j, hy, hu, hf⟩
          · cases h
          · cases hy
            have hfk := findKey_now (P := P) (w := w) hd hf
            have hg : (getObj p.blk).run P w = .ok (.map ces clk) w := by simp [getObj, Sem.run, h1]
            refine Quiet.same (v' := if ok then .tuple #[u, .bool true] else u) hR (val_inv hev) ?_ (.of_value ?_)
            · cases ok
              · simpa using hu
              · simp only [if_true]; exact ⟨_, rfl, u, [.bool true], rfl, hu, _, _, rfl, by simp [RV], by simp [RVs]⟩
            · simp only [execOp, ho, Instr.lookup, Sem.run_bind, run_underlying ht, Result.andThen_ok, ex, hg, Sem.run_pure, checkKey_run hk, hfk]
              try (cases ok <;> rfl)
        · rename_i hv
          rcases findA_now hkd ri 0 h2 hv with ⟨_, hf⟩ | ⟨y, u, j, hy, _⟩
          · refine Quiet.same hR (val_inv hev) ?_ (.of_value (miss (.inr ⟨_, _, ex, h1⟩) hf))
            cases ok
            · simpa using rz
            · simp only [if_true]; exact ⟨_, rfl, zv, [.bool false], rfl, rz, _, _, rfl, by simp [RV], by simp [RVs]⟩
          · cases hy
        · cases hev
      · cases hev
    · cases hev
  · cases hev

theorem updA_now {d : TypeDesc} {str : Bool} {ik : IntKind} (hk : (str = false ∧ d = .int ik) ∨ (str = true ∧ d = .string)) {x y : AV} {v u : Value} (hx : RV μ x v) (hy : RV μ y u) :
    ∀ {l l' : List (AV × AV)} {es : List MapEntry} (i : Nat), REs μ l es → updA str ik x y l = some l' →
      (Instr.findNow d v es i = some none ∧ ∀ born, REs μ l' (es ++ [{ key := v, val := u, born }])) ∨
      ∃ j u0 e0, Instr.findNow d v es i = some (some (i + j, u0)) ∧ es[j]? = some e0 ∧ Instr.sameNow d v e0.key = some true ∧ REs μ l' (es.modify j fun e => { e with key := v, val := u })
  | [], l', es, i, h, hf => by
    simp [REs] at h; subst h; simp [updA] at hf; subst hf
    exact .inl ⟨rfl, fun born => ⟨_, [], rfl, hx, hy, rfl⟩⟩
  | (k, z) :: l, l', es, i, h, hf => by
    simp only [REs] at h
    obtain ⟨e, t, rfl, h1, h2, h3⟩ := h
    simp only [updA] at hf
    split at hf
    · rename_i hke
      cases hf
      have := keyEq_now hk hke hx h1
      exact .inr ⟨0, e.val, e, by simp [Instr.findNow, this], by simp, this, by simp only [List.modify_zero_cons, REs]; exact ⟨_, t, rfl, hx, hy, h3⟩⟩
    · rename_i hke
      have := keyEq_now hk hke hx h1
      split at hf
      · rename_i r hr
        cases hf
        rcases updA_now hk hx hy (i + 1) h3 hr with ⟨h, hb⟩ | ⟨j, u0, e0, h, he, hs, hm⟩
        · exact .inl ⟨by simp [Instr.findNow, this, h], fun born => ⟨e, _, rfl, h1, h2, hb born⟩⟩
        · refine .inr ⟨j + 1, u0, e0, by simp [Instr.findNow, this, h]; omega, by simpa using he, hs, ?_⟩
          rw [List.modify_succ_cons]
          exact ⟨e, _, rfl, h1, h2, hm⟩
      · cases hf
    · cases hf

theorem sameBits_of {d : TypeDesc} {v u : Value} (h : Instr.sameNow d u v = some true) : Instr.sameBits 10000 v u = true := by
  obtain ⟨n, hn⟩ : ∃ n, 10000 = n + 1 := ⟨9999, rfl⟩
  unfold Instr.sameNow at h
  split at h
  · rename_i k a k' b
    split at h
    · rename_i hk
      simp only [Option.some.injEq, beq_iff_eq] at h
      subst h; subst hk
      simp [Instr.sameBits]
    · cases h
  · rename_i a b
    simp only [Option.some.injEq] at h
    simp only [Instr.sameBits]
    cases a; cases b
    rw [ba_beq] at h ⊢
    simp only [beq_iff_eq] at h ⊢
    exact h.symm
  · rename_i a b
    simp only [Option.some.injEq, beq_iff_eq] at h
    subst h
    simp [Instr.sameBits]
  · cases h

theorem q_mapUpd (hR : Rel μ σ w) (hA : RA μ nt ρ a) {t kt e : TypeId} {str : Bool} {ik : IntKind} {m k v : Operand} {m' k' v' : AO} (ho : o.op = .mapUpdate t m k v)
    (hm : cOpd m = some m') (hk' : cOpd k = some k') (hv' : cOpd v = some v') (ht : P.underlying t = some (.map kt e)) (hk : keyKind P kt = some (str, ik))
    (hev : evOp tbl call ρ σ (.mapUpd str ik m' k' v') = some (out, σ')) : Quiet P o a μ σ w out σ' := by
  have rm := opd_RV hA hm
  have rk := opd_RV hA hk'
  have rv := opd_RV hA hv'
  obtain ⟨d, hd, hkd⟩ := keyDesc hk
  simp only [evOp] at hev
  split at hev
  · rename_i b hb
    rw [hb] at rm
    simp only [RV] at rm
    obtain ⟨p, hp, ex⟩ := rm
    split at hev
    · rename_i es hes
      obtain ⟨ces, clk, h1, hbo, h2⟩ := hR.blk b _ p hes hp
      have hlt : p.blk < w.heap.size := (Array.getElem?_eq_some_iff.1 h1).1
      have hg : (getObj p.blk).run P w = .ok (.map ces clk) w := by simp [getObj, Sem.run, h1]
      have hset : ∀ o' : Obj, (setObj p.blk o').run P w = .ok () { w with heap := w.heap.setIfInBounds p.blk o' } := by intro o'; simp [setObj, Sem.run, h1]
      simp only [cond_eq_ite] at hev
      split at hev
      · split at hev
        · rename_i es' hes'
          rw [AH.setK_eq] at hev
          obtain ⟨rfl, rfl⟩ := val_inv hev
          rcases updA_now hkd rk rv 0 h2 hes' with ⟨hf, hr⟩ | ⟨j, u0, e0, hf, he0, hs, hr⟩
          · have hfk := findKey_now (P := P) (w := w) hd hf
            have hst := step_mod (x' := .mp es') (w' := { w with heap := w.heap.setIfInBounds p.blk (.map (ces.push { key := a.eval k, val := a.eval v, born := clk }) (clk + 1)) }) hR hes rfl hp rfl rfl rfl rfl (by simp)
              (fun i hi => by simp [Ne.symm hi]) ⟨ces.push { key := a.eval k, val := a.eval v, born := clk }, clk + 1, by simp [hlt], bornOK_push hbo, by simpa using hr clk⟩
            refine ⟨unA, _, _, undef, rfl, hst, RV_unA _, .inr ⟨?_, rfl⟩⟩
            simp only [execOp, ho, Instr.mapUpdate, Sem.run_bind, run_underlying ht, Result.andThen_ok, ex, hg, checkKey_run hk, hfk, hset]
            rfl
          · simp only [Nat.zero_add] at hf
            have hfk := findKey_now (P := P) (w := w) hd hf
            have hst := step_mod (x' := .mp es') (w' := { w with heap := w.heap.setIfInBounds p.blk (.map (ces.modify j fun e => { e with key := a.eval k, val := a.eval v }) clk) }) hR hes rfl hp rfl rfl rfl rfl (by simp)
              (fun i hi => by simp [Ne.symm hi]) ⟨ces.modify j fun e => { e with key := a.eval k, val := a.eval v }, clk, by simp [hlt], bornOK_modify hbo _ _ (fun _ => rfl), by rw [Array.toList_modify]; exact hr⟩
            refine ⟨unA, _, _, undef, rfl, hst, RV_unA _, .inr ⟨?_, rfl⟩⟩
            have hstay : (Instr.keyThatStays (((ces[j]?).map (·.key)).getD (a.eval k)) (a.eval k)).run P w = .ok (a.eval k) w := by
              have : ces[j]? = some e0 := by simpa using he0
              simp [Instr.keyThatStays, this, sameBits_of hs]
            simp only [execOp, ho, Instr.mapUpdate, Sem.run_bind, run_underlying ht, Result.andThen_ok, ex, hg, checkKey_run hk, hfk, hstay, hset]
            rfl
        · cases hev
      · cases hev
    · cases hev
  · cases hev

theorem delA_now {d : TypeDesc} {str : Bool} {ik : IntKind} (hk : (str = false ∧ d = .int ik) ∨ (str = true ∧ d = .string)) {x : AV} {v : Value} (hx : RV μ x v) :
    ∀ {l l' : List (AV × AV)} {es : List MapEntry} (i : Nat), REs μ l es → delA str ik x l = some l' →
      (Instr.findNow d v es i = some none ∧ REs μ l' es) ∨ ∃ j u0, Instr.findNow d v es i = some (some (i + j, u0)) ∧ REs μ l' (es.eraseIdx j)
  | [], l', es, i, h, hf => by
    simp [REs] at h; subst h; simp [delA] at hf; subst hf
    exact .inl ⟨rfl, rfl⟩
  | (k, z) :: l, l', es, i, h, hf => by
    simp only [REs] at h
    obtain ⟨e, t, rfl, h1, h2, h3⟩ := h
    simp only [delA] at hf
    split at hf
    · rename_i hke
      cases hf
      have := keyEq_now hk hke hx h1
      exact .inr ⟨0, e.val, by simp [Instr.findNow, this], by simpa using h3⟩
    · rename_i hke
      have := keyEq_now hk hke hx h1
      split at hf
      · rename_i r hr
        cases hf
        rcases delA_now hk hx (i + 1) h3 hr with ⟨h, hb⟩ | ⟨j, u0, h, hm⟩
        · exact .inl ⟨by simp [Instr.findNow, this, h], ⟨e, _, rfl, h1, h2, hb⟩⟩
        · refine .inr ⟨j + 1, u0, by simp [Instr.findNow, this, h]; omega, ?_⟩
          rw [List.eraseIdx_cons_succ]
          exact ⟨e, _, rfl, h1, h2, hm⟩
      · cases hf
    · cases hf

theorem q_delete (hR : Rel μ σ w) (hA : RA μ nt ρ a) {c : _root_.Go.Call} {t kt e : TypeId} {str : Bool} {ik : IntKind} {m k : Operand} {m' k' : AO} (ho : o.op = .call c)
    (hc : c.callee = .builtin .delete) (hargs : c.args = #[m, k]) (hat : c.argTypes[0]? = some t)
    (hm : cOpd m = some m') (hk' : cOpd k = some k') (ht : P.underlying t = some (.map kt e)) (hk : keyKind P kt = some (str, ik))
    (hev : evOp tbl call ρ σ (.delete str ik m' k') = some (out, σ')) : Quiet P o a μ σ w out σ' := by
  have rm := opd_RV hA hm
  have rk := opd_RV hA hk'
  obtain ⟨d, hd, hkd⟩ := keyDesc hk
  have fin := fun {v w'} h => builtin2 (P := P) (w := w) (a := a) ho hc hargs (f := Builtin.delete_) (fun _ _ _ _ => rfl) (v := v) (w' := w') h
  simp only [evOp] at hev
  split at hev
  · rename_i hb
    rw [hb] at rm
    simp only [RV] at rm
    refine Quiet.same hR (val_inv hev) (RV_unA _) (fin ?_)
    simp only [Builtin.delete_, hat, List.getElem?_toArray, List.getElem?_cons_zero, List.getElem?_cons_succ, Sem.run_bind, run_underlying ht, Result.andThen_ok, rm, checkKey_run hk]
    rfl
  · rename_i b hb
    rw [hb] at rm
    simp only [RV] at rm
    obtain ⟨p, hp, ex⟩ := rm
    split at hev
    · rename_i es hes
      obtain ⟨ces, clk, h1, hbo, h2⟩ := hR.blk b _ p hes hp
      have hlt : p.blk < w.heap.size := (Array.getElem?_eq_some_iff.1 h1).1
      have hg : (getObj p.blk).run P w = .ok (.map ces clk) w := by simp [getObj, Sem.run, h1]
      have hset : ∀ o' : Obj, (setObj p.blk o').run P w = .ok () { w with heap := w.heap.setIfInBounds p.blk o' } := by intro o'; simp [setObj, Sem.run, h1]
      simp only [cond_eq_ite] at hev
      split at hev
      · split at hev
        · rename_i es' hes'
          rw [AH.setK_eq] at hev
          obtain ⟨rfl, rfl⟩ := val_inv hev
          rcases delA_now hkd rk 0 h2 hes' with ⟨hf, hr⟩ | ⟨j, u0, hf, hr⟩
          · have hfk := findKey_now (P := P) (w := w) hd hf
            have hst := step_mod (x' := .mp es') (w' := { w with heap := w.heap.setIfInBounds p.blk (.map ces clk) }) hR hes rfl hp rfl rfl rfl rfl (by simp)
              (fun i hi => by simp [Ne.symm hi]) ⟨ces, clk, by simp [hlt], hbo, hr⟩
            refine ⟨unA, _, _, undef, rfl, hst, RV_unA _, fin ?_⟩
            simp only [Builtin.delete_, hat, List.getElem?_toArray, List.getElem?_cons_zero, List.getElem?_cons_succ, Sem.run_bind, run_underlying ht, Result.andThen_ok, ex, hg, checkKey_run hk, hfk, hset]
            rfl
          · simp only [Nat.zero_add] at hf
            have hfk := findKey_now (P := P) (w := w) hd hf
            have hst := step_mod (x' := .mp es') (w' := { w with heap := w.heap.setIfInBounds p.blk (.map (ces.eraseIdxIfInBounds j) clk) }) hR hes rfl hp rfl rfl rfl rfl (by simp)
              (fun i hi => by simp [Ne.symm hi]) ⟨ces.eraseIdxIfInBounds j, clk, by simp [hlt], bornOK_erase hbo _, by
                rw [show (ces.eraseIdxIfInBounds j).toList = ces.toList.eraseIdx j from by
                  unfold Array.eraseIdxIfInBounds
                  split
                  · simp
                  · rw [List.eraseIdx_of_length_le (by simpa using Nat.le_of_not_lt ‹_›)]]
                exact hr⟩
            refine ⟨unA, _, _, undef, rfl, hst, RV_unA _, fin ?_⟩
            simp only [Builtin.delete_, hat, List.getElem?_toArray, List.getElem?_cons_zero, List.getElem?_cons_succ, Sem.run_bind, run_underlying ht, Result.andThen_ok, ex, hg, checkKey_run hk, hfk, hset]
            rfl
        · cases hev
      · cases hev
    · cases hev
  · cases hev

end
end Go.Proofs.YtgaoddafkjdecaaGreat.EV
