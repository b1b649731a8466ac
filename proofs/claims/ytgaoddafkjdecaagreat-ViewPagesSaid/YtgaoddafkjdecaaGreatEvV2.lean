/-
  EV, part V2: engrosslaw22.ViewPages, its loops. Own work of this claim.
-/
import Derived.Test.YtgaoddafkjdecaaGreatEvV1
set_option linter.unusedVariables false
set_option linter.unusedSimpArgs false
namespace Go.Proofs.YtgaoddafkjdecaaGreat.EV

def sndA : ACode → ACode
  | .seq _ b => b
  | c => c
def fstA : ACode → ACode
  | .seq a _ => a
  | c => c
/-- the body of the loop in 'begin; loop' -/
def loopA : ACode → ACode
  | .seq _ (.block _ (.loop b)) => b
  | c => c

noncomputable def vpL1 : ACode := loopA (fstA (sndA (sndA (sndA (sndA fn4.body)))))
noncomputable def vpL2 : ACode := loopA (fstA (sndA (sndA (sndA (sndA (sndA (sndA fn4.body)))))))
noncomputable def vpL3 : ACode := loopA (fstA (sndA (sndA (sndA (sndA (sndA (sndA (sndA (sndA fn4.body)))))))))

/-- a list of numbers that came in -/
def InL (σ : AH) (x : AV) (n : Nat) (ok : AV → Prop) : Prop :=
  (x = .nils ∧ n = 0) ∨ ∃ b c l, x = .slc b 0 n c ∧ σ.get b = some (.cells true l) ∧ l.length = n ∧ ∀ a ∈ l, ok a

def isByte (a : AV) : Prop := ∃ x, x < 256 ∧ a = .int .u8 (.ofNat x)
def isInt (a : AV) : Prop := ∃ x, a = .int .i64 x

/-- pages of a book, the first i of them -/
structure BookAt (σ : AH) (bk : Pos) (i : Nat) : Prop where
  ex : ∃ L, σ.get bk = some (.cells false L) ∧ L.length = 97 ∧ L[96]? = some (.int .i64 (.ofNat 0)) ∧
    ∀ j, j < i → ∃ pb x y, L[j]? = some (.slc pb 0 256 (.known 256)) ∧ σ.get pb = some (.cells false (pg x y)) ∧ x < 256 ∧ y < 256

/-- what was read only stays -/
def RoKept (σ σ' : AH) : Prop := ∀ b l, σ.get b = some (.cells true l) → σ'.get b = some (.cells true l)

theorem RoKept.new {σ σ' : AH} (h : RoKept σ σ') (hw : Wf σ') (x : AB) : RoKept σ (σ'.new x) := fun b l e => hw.get_new (h b l e) x
theorem RoKept.put {σ σ' : AH} (h : RoKept σ σ') {b : Pos} {L : List AV} (hb : σ'.get b = some (.cells false L)) (x : Option AB) : RoKept σ (σ'.put b x) := by
  intro c l e
  have := h c l e
  rw [AH.get_put_ne _ _ (fun hc => by subst hc; rw [hb] at this; cases this)]
  exact this
theorem InL.kept {σ σ' : AH} {x : AV} {n : Nat} {ok : AV → Prop} (h : InL σ x n ok) (k : RoKept σ σ') : InL σ' x n ok := by
  rcases h with h | ⟨b, c, l, e, hb, r⟩
  · exact .inl h
  · exact .inr ⟨b, c, l, e, k b l hb, r⟩

section
variable {tbl : Disp} {call : Call} {rounds : Nat}

theorem vp_loop1 (hc20 : ∀ {σ : AH} {b : Pos} {c : Cap} {x y : Nat} {ro : Bool}, Wf σ → σ.get b = some (.cells ro [.int .u8 (.ofNat x), .int .u8 (.ofNat y)]) →
      call q20 [.slc b 0 2 c] σ = some (.val (.slc σ.nx 0 256 (.known 256)), σ.new (.cells false (pg x y)))) {A0 A1 : AV} {nb : Nat} {bk : Pos} :
    ∀ (k : Nat) (ρ : Env) (σ : AH) (i : Nat), ρ.get q0 = some A0 → ρ.get q1 = some A1 → ρ.get q6 = some (.ptr bk 0) → ρ.get q7 = some (.int .i64 (.ofNat i)) → Wf σ → BookAt σ bk i → InL σ A1 nb isByte →
      i ≤ 96 → 97 ≤ i + k → ∃ ρ' σ', evRnd tbl call rounds vpL1 k ρ σ = some (.exit 0, ρ', σ') ∧ ρ'.get q0 = some A0 ∧ ρ'.get q6 = some (.ptr bk 0) ∧ Wf σ' ∧ BookAt σ' bk 96 ∧ RoKept σ σ'
  | 0, ρ, σ, i, g0, g1, g6, g7, hw, hB, hI, hi, hk => by omega
  | k + 1, ρ, σ, i, g0, g1, g6, g7, hw, hB, hI, hi, hk => by
    rw [evRnd_succ]
    by_cases hlt : i < 96
    · have i1 : ilt (Int.ofNat i) (Int.ofNat 96) = true := by rw [ilt_eq]; simp; omega
      have w1 : wrF .u8 (Int.ofNat i) = Int.ofNat (i % 256) := rfl
      have c1 : wrF .i64 (Int.ofNat i + Int.ofNat 1) = .ofNat (i + 1) := by rw [wrF_i64] <;> simp only [Int.ofNat_eq_natCast] <;> omega
      obtain ⟨L, hL, hL97, hL96, hP⟩ := hB.ex
      have hbk := hw.ne hL
      -- the byte
      obtain ⟨x, hx, ρ1, hev, f0, f1, f6, f7, f8⟩ : ∃ x, x < 256 ∧ ∃ ρ1, evCode tbl call rounds
          (.seq (.region [r q27 (.mv t7),r q28 (.mv t1),r q29 (.len 1 t28),r q30 (.bin .lss t27 t29)]) (.cond t30 (.region [r q31 (.mv t1),r q32 (.mv t7),r q33 (.idxA none 1 t31 t32),r q34 (.load1 t33),r q8 (.mv t34)]) (.skip)))
          (((((ρ.set (some (.int .i64 (.ofNat i))) q21).set (some (.bool true)) q22).set (some (.int .i64 (.ofNat i))) q25).set (some (.int .u8 (.ofNat (i % 256)))) q26).set (some (.int .u8 (.ofNat (i % 256)))) q8) σ = some (.norm, ρ1, σ) ∧
          ρ1.get q0 = some A0 ∧ ρ1.get q1 = some A1 ∧ ρ1.get q6 = some (.ptr bk 0) ∧ ρ1.get q7 = some (.int .i64 (.ofNat i)) ∧ ρ1.get q8 = some (.int .u8 (.ofNat x)) := by
        rcases hI with ⟨rfl, rfl⟩ | ⟨bb, cb, l, rfl, hbb, hl, hlb⟩
        · have i2 : ilt (Int.ofNat i) 0 = false := by rw [ilt_eq]; simp
          refine ⟨i % 256, Nat.mod_lt _ (by decide), ?_⟩
          simp (decide := true) only [evCode_seq, evCode_region, evCode_cond, evCode_drawn, evCode_block, evCode_loop, evCode_skip, evCode_ret, evCode_exit, evOps_op, evOps_nil, evOps_guard, thenG_tt, thenG_ff, thenG_tf, thenG_ft, thenG_un, runOp_guard, thenVG_tt, thenVG_ff, thenVG_tf, thenVG_ft, thenVG_un, evOp, evTmp, evConst, AO.evs, Tr.get_set, Tr.get_lf, val, valO, thenC_norm, thenC_ret, thenC_exit, thenC_pan, onBool_true, onBool_false, thenOp_val, thenOp_pan, thenL_norm, thenL_ret, thenL_exit, thenL_pan, inBlk_norm, inBlk_ret, inBlk_pan, inBlk_exit, evPlan_nil, evPlan_cons, evSt_nil, evSt_cons, evSt_eff, runOp_some, effOp_some, thenV_val, thenE_val, nthR_zero, nthR_succ, eput_some, eput_none, if_true, if_false, Option.getD_some, Option.getD_none, cond_true, cond_false, beq_self_eq_true, fN_k, reduceCtorEq, Nat.beq_refl, Bool.and_self, Bool.and_true, Bool.true_and, Bool.false_and, Bool.and_false, Bool.or_true, Bool.true_or, Bool.or_false, Bool.false_or, Bool.not_true, Bool.not_false, Option.isNone_none, Option.isNone_some, g0, g1, g6, g7, evBin, w1, outI, fI_eq, i2]
          exact ⟨_, rfl, by simp (decide := true) only [Tr.get_set, if_false, g0], by simp (decide := true) only [Tr.get_set, if_false, g1], by simp (decide := true) only [Tr.get_set, if_false, g6], by simp (decide := true) only [Tr.get_set, if_false, g7],
            by simp (decide := true) only [Tr.get_set, if_false, if_true]⟩
        · by_cases hin : i < nb
          · have i2 : ilt (Int.ofNat i) (Int.ofNat nb) = true := by rw [ilt_eq]; simp; omega
            obtain ⟨x, hx, hxe⟩ := hlb l[i] (List.getElem_mem (by omega))
            have ld := load_of hbb i (v := .int .u8 (.ofNat x)) (by rw [List.getElem?_eq_getElem (by omega), hxe])
            refine ⟨x, hx, ?_⟩
            simp (decide := true) only [evCode_seq, evCode_region, evCode_cond, evCode_drawn, evCode_block, evCode_loop, evCode_skip, evCode_ret, evCode_exit, evOps_op, evOps_nil, evOps_guard, thenG_tt, thenG_ff, thenG_tf, thenG_ft, thenG_un, runOp_guard, thenVG_tt, thenVG_ff, thenVG_tf, thenVG_ft, thenVG_un, evOp, evTmp, evConst, AO.evs, Tr.get_set, Tr.get_lf, val, valO, thenC_norm, thenC_ret, thenC_exit, thenC_pan, onBool_true, onBool_false, thenOp_val, thenOp_pan, thenL_norm, thenL_ret, thenL_exit, thenL_pan, inBlk_norm, inBlk_ret, inBlk_pan, inBlk_exit, evPlan_nil, evPlan_cons, evSt_nil, evSt_cons, evSt_eff, runOp_some, effOp_some, thenV_val, thenE_val, nthR_zero, nthR_succ, eput_some, eput_none, if_true, if_false, Option.getD_some, Option.getD_none, cond_true, cond_false, beq_self_eq_true, fN_k, reduceCtorEq, Nat.beq_refl, Bool.and_self, Bool.and_true, Bool.true_and, Bool.false_and, Bool.and_false, Bool.or_true, Bool.true_or, Bool.or_false, Bool.false_or, Bool.not_true, Bool.not_false, Option.isNone_none, Option.isNone_some, g0, g1, g6, g7, evBin, w1, outI, fI_eq, i2, evIx, blt_true hin, Nat.mul_one, Nat.zero_add, ld]
            exact ⟨_, rfl, by simp (decide := true) only [Tr.get_set, if_false, g0], by simp (decide := true) only [Tr.get_set, if_false, g1], by simp (decide := true) only [Tr.get_set, if_false, g6], by simp (decide := true) only [Tr.get_set, if_false, g7],
              by simp (decide := true) only [Tr.get_set, if_false, if_true]⟩
          · have i2 : ilt (Int.ofNat i) (Int.ofNat nb) = false := by rw [ilt_eq]; simp; omega
            refine ⟨i % 256, Nat.mod_lt _ (by decide), ?_⟩
            simp (decide := true) only [evCode_seq, evCode_region, evCode_cond, evCode_drawn, evCode_block, evCode_loop, evCode_skip, evCode_ret, evCode_exit, evOps_op, evOps_nil, evOps_guard, thenG_tt, thenG_ff, thenG_tf, thenG_ft, thenG_un, runOp_guard, thenVG_tt, thenVG_ff, thenVG_tf, thenVG_ft, thenVG_un, evOp, evTmp, evConst, AO.evs, Tr.get_set, Tr.get_lf, val, valO, thenC_norm, thenC_ret, thenC_exit, thenC_pan, onBool_true, onBool_false, thenOp_val, thenOp_pan, thenL_norm, thenL_ret, thenL_exit, thenL_pan, inBlk_norm, inBlk_ret, inBlk_pan, inBlk_exit, evPlan_nil, evPlan_cons, evSt_nil, evSt_cons, evSt_eff, runOp_some, effOp_some, thenV_val, thenE_val, nthR_zero, nthR_succ, eput_some, eput_none, if_true, if_false, Option.getD_some, Option.getD_none, cond_true, cond_false, beq_self_eq_true, fN_k, reduceCtorEq, Nat.beq_refl, Bool.and_self, Bool.and_true, Bool.true_and, Bool.false_and, Bool.and_false, Bool.or_true, Bool.true_or, Bool.or_false, Bool.false_or, Bool.not_true, Bool.not_false, Option.isNone_none, Option.isNone_some, g0, g1, g6, g7, evBin, w1, outI, fI_eq, i2]
            exact ⟨_, rfl, by simp (decide := true) only [Tr.get_set, if_false, g0], by simp (decide := true) only [Tr.get_set, if_false, g1], by simp (decide := true) only [Tr.get_set, if_false, g6], by simp (decide := true) only [Tr.get_set, if_false, g7],
              by simp (decide := true) only [Tr.get_set, if_false, if_true]⟩
      -- the page
      have hw1 := hw.new (.cells false [.int .u8 (.ofNat x), .int .u8 (.ofNat (i % 256))])
      have hc := hc20 (c := .known 2) (b := σ.nx) hw1 (get_new_same σ (.cells false [.int .u8 (.ofNat x), .int .u8 (.ofNat (i % 256))]))
      have hw2 := hw1.new (.cells false (pg x (i % 256)))
      have hL2 := hw1.get_new (hw.get_new hL (.cells false [.int .u8 (.ofNat x), .int .u8 (.ofNat (i % 256))])) (.cells false (pg x (i % 256)))
      have st := fun k => store_of (β := Out × AH) hL2 i (by omega) (.slc (σ.new (.cells false [.int .u8 (.ofNat x), .int .u8 (.ofNat (i % 256))])).nx 0 256 (.known 256)) k
      have p0 : lput 0 [AV.int .u8 (.ofNat x)] [.int .u8 (.ofNat 0), .int .u8 (.ofNat 0)] = some [.int .u8 (.ofNat x), .int .u8 (.ofNat 0)] := rfl
      have p1 : lput 1 [AV.int .u8 (.ofNat (i % 256))] [.int .u8 (.ofNat x), .int .u8 (.ofNat 0)] = some [.int .u8 (.ofNat x), .int .u8 (.ofNat (i % 256))] := rfl
      have n1 : Nat.beq [AV.int .u8 (.ofNat x)].length 1 = true := rfl
      have n2 : Nat.beq [AV.int .u8 (.ofNat (i % 256))].length 1 = true := rfl
      have n3 : Nat.beq [AV.slc (σ.new (.cells false [.int .u8 (.ofNat x), .int .u8 (.ofNat (i % 256))])).nx 0 256 (.known 256)].length 1 = true := rfl
      have ok1 : okVals [AV.slc (σ.new (.cells false [.int .u8 (.ofNat x), .int .u8 (.ofNat (i % 256))])).nx 0 256 (.known 256)] = true := rfl
      obtain ⟨ρ2, hev2, e0, e1, e6, e7⟩ : ∃ ρ2, evCode tbl call rounds vpL1 ρ σ = some (.norm, ρ2, ((σ.new (.cells false [.int .u8 (.ofNat x), .int .u8 (.ofNat (i % 256))])).new (.cells false (pg x (i % 256)))).put bk
            (some (.cells false (L.set i (.slc (σ.new (.cells false [.int .u8 (.ofNat x), .int .u8 (.ofNat (i % 256))])).nx 0 256 (.known 256)))))) ∧
          ρ2.get q0 = some A0 ∧ ρ2.get q1 = some A1 ∧ ρ2.get q6 = some (.ptr bk 0) ∧ ρ2.get q7 = some (.int .i64 (.ofNat (i + 1))) := by
        have hv : vpL1 = .seq (.seq (.region [r q21 (.mv t7),r q22 (.bin .lss t21 (ci 96))]) (.cond t22 (.skip) (.exit 0))) (.seq (.block 1 (.seq (.region [r q25 (.mv t7),r q26 (.cvII .u8 t25),r q8 (.mv t26)])
          (.seq (.seq (.region [r q27 (.mv t7),r q28 (.mv t1),r q29 (.len 1 t28),r q30 (.bin .lss t27 t29)]) (.cond t30 (.region [r q31 (.mv t1),r q32 (.mv t7),r q33 (.idxA none 1 t31 t32),r q34 (.load1 t33),r q8 (.mv t34)]) (.skip)))
            (.drawn [r q35 (.mv t6),r q36 (.mv t7),r q37 (.mv t8),r q38 (.mv t7),r q39 (.cvII .u8 t38),r q40 (.bslice 2 [(.int .u8 (.ofNat 0)),(.int .u8 (.ofNat 0))] [(0,1,t37),(1,1,t39)]),r q41 (.callF q20 [t40]),r q42 (.nilck t35),r q43 (.fieldA 0 t42),r q44 (.idxA (some 96) 1 t43 t36),u (.store 1 t44 t41)] [⟨[], [0, 1, 2, 3, 4, 5, 7, 8], some 6⟩,⟨[], [9], some 10⟩,⟨[], [], none⟩]))))
          (.region [r q23 (.mv t7),r q24 (.bin .add t23 (ci 1)),r q7 (.mv t24)])) := rfl
        rw [hv]
        generalize (ACode.seq (.region [r q27 (.mv t7),r q28 (.mv t1),r q29 (.len 1 t28),r q30 (.bin .lss t27 t29)]) (.cond t30 (.region [r q31 (.mv t1),r q32 (.mv t7),r q33 (.idxA none 1 t31 t32),r q34 (.load1 t33),r q8 (.mv t34)]) (.skip))) = C27 at hev ⊢
        simp (decide := true) only [evCode_seq, evCode_region, evCode_cond, evCode_drawn, evCode_block, evCode_loop, evCode_skip, evCode_ret, evCode_exit, evOps_op, evOps_nil, evOps_guard, thenG_tt, thenG_ff, thenG_tf, thenG_ft, thenG_un, runOp_guard, thenVG_tt, thenVG_ff, thenVG_tf, thenVG_ft, thenVG_un, evOp, evTmp, evConst, AO.evs, Tr.get_set, Tr.get_lf, val, valO, thenC_norm, thenC_ret, thenC_exit, thenC_pan, onBool_true, onBool_false, thenOp_val, thenOp_pan, thenL_norm, thenL_ret, thenL_exit, thenL_pan, inBlk_norm, inBlk_ret, inBlk_pan, inBlk_exit, evPlan_nil, evPlan_cons, evSt_nil, evSt_cons, evSt_eff, runOp_some, effOp_some, thenV_val, thenE_val, nthR_zero, nthR_succ, eput_some, eput_none, if_true, if_false, Option.getD_some, Option.getD_none, cond_true, cond_false, beq_self_eq_true, fN_k, reduceCtorEq, Nat.beq_refl, Bool.and_self, Bool.and_true, Bool.true_and, Bool.false_and, Bool.and_false, Bool.or_true, Bool.true_or, Bool.or_false, Bool.false_or, Bool.not_true, Bool.not_false, Option.isNone_none, Option.isNone_some, g0, g1, g6, g7, evBin, i1, w1, outI, fI_eq, hev, f0, f1, f6, f7, f8, evParts, fillA, p0, p1, n1, n2, n3, AH.newK_eq, hc, evIx, blt_true hlt, Nat.mul_one, Nat.zero_add, AV.cells, ok1, st, c1]
        exact ⟨_, rfl, by simp (decide := true) only [Tr.get_set, if_false, f0], by simp (decide := true) only [Tr.get_set, if_false, f1], by simp (decide := true) only [Tr.get_set, if_false, f6],
          by simp (decide := true) only [Tr.get_set, if_false, if_true]⟩
      have hro : RoKept σ (((σ.new (.cells false [.int .u8 (.ofNat x), .int .u8 (.ofNat (i % 256))])).new (.cells false (pg x (i % 256)))).put bk
            (some (.cells false (L.set i (.slc (σ.new (.cells false [.int .u8 (.ofNat x), .int .u8 (.ofNat (i % 256))])).nx 0 256 (.known 256)))))) :=
        ((RoKept.new (fun _ _ e => e) hw _).new hw1 _).put hL2 _
      have hbk1 := hw1.ne (hw.get_new hL (.cells false [.int .u8 (.ofNat x), .int .u8 (.ofNat (i % 256))]))
      obtain ⟨ρ', σ', a1, a2, a3, a4, a5, a6⟩ := vp_loop1 hc20 (A0 := A0) (A1 := A1) (nb := nb) (bk := bk) k ρ2 _ (i + 1) e0 e1 e6 e7 (hw2.put hL2 _) ⟨_, AH.get_put_same _ _ _, by rw [List.length_set]; exact hL97,
          by rw [List.getElem?_set_ne (by omega)]; exact hL96, fun j hj => by
        by_cases hji : j = i
        · subst hji
          refine ⟨_, x, j % 256, List.getElem?_set_self (by omega), ?_, hx, Nat.mod_lt _ (by decide)⟩
          rw [AH.get_put_ne _ _ (Ne.symm hbk1), get_new_same]
        · obtain ⟨pb, x', y', b1, b2, b3, b4⟩ := hP j (by omega)
          refine ⟨pb, x', y', by rw [List.getElem?_set_ne (Ne.symm hji)]; exact b1, ?_, b3, b4⟩
          have hne : pb ≠ bk := fun e => by
            subst e
            rw [hL] at b2
            cases b2
            rw [pg_len] at hL97
            omega
          rw [AH.get_put_ne _ _ hne]
          exact hw1.get_new (hw.get_new b2 _) _⟩ (hI.kept hro) (by omega) (by omega)
      exact ⟨ρ', σ', by rw [hev2, thenL_norm, a1], a2, a3, a4, a5, fun b l e => a6 b l (hro b l e)⟩
    · have i1 : ilt (Int.ofNat i) (Int.ofNat 96) = false := by rw [ilt_eq]; simp; omega
      have hi96 : i = 96 := by omega
      subst hi96
      refine ⟨(ρ.set (some (.int .i64 (.ofNat 96))) q21).set (some (.bool false)) q22, σ, ?_, ?_, ?_, hw, hB, fun _ _ e => e⟩
      · simp (decide := true) only [vpL1, fn4, sndA, fstA, loopA, evCode_seq, evCode_region, evCode_cond, evCode_drawn, evCode_block, evCode_loop, evCode_skip, evCode_ret, evCode_exit, evOps_op, evOps_nil, evOps_guard, thenG_tt, thenG_ff, thenG_tf, thenG_ft, thenG_un, runOp_guard, thenVG_tt, thenVG_ff, thenVG_tf, thenVG_ft, thenVG_un, evOp, evTmp, evConst, AO.evs, Tr.get_set, Tr.get_lf, val, valO, thenC_norm, thenC_ret, thenC_exit, thenC_pan, onBool_true, onBool_false, thenOp_val, thenOp_pan, thenL_norm, thenL_ret, thenL_exit, thenL_pan, inBlk_norm, inBlk_ret, inBlk_pan, inBlk_exit, evPlan_nil, evPlan_cons, evSt_nil, evSt_cons, evSt_eff, runOp_some, effOp_some, thenV_val, thenE_val, nthR_zero, nthR_succ, eput_some, eput_none, if_true, if_false, Option.getD_some, Option.getD_none, cond_true, cond_false, beq_self_eq_true, fN_k, reduceCtorEq, Nat.beq_refl, Bool.and_self, Bool.and_true, Bool.true_and, Bool.false_and, Bool.and_false, Bool.or_true, Bool.true_or, Bool.or_false, Bool.false_or, Bool.not_true, Bool.not_false, Option.isNone_none, Option.isNone_some, g7, evBin, i1]
      · simp (decide := true) only [Tr.get_set, if_false, g0]
      · simp (decide := true) only [Tr.get_set, if_false, g6]

theorem and_small (x : Int) {m : Nat} (hm : m < 1000000) : ∃ r : Nat, r ≤ m ∧ evBits .and .i64 x (Int.ofNat m) = some (.int .i64 (.ofNat r)) := by
  obtain ⟨q, hq⟩ : ∃ q, q = (BitVec.ofInt 64 x &&& BitVec.ofInt 64 (Int.ofNat m)).toNat := ⟨_, rfl⟩
  have hle : q ≤ m := by
    rw [hq, BitVec.toNat_and]
    refine Nat.le_trans Nat.and_le_right ?_
    have : (BitVec.ofInt 64 (Int.ofNat m)).toNat = m := by
      rw [BitVec.toNat_ofInt]; simp only [Int.ofNat_eq_natCast]; omega
    omega
  refine ⟨q, hle, ?_⟩
  show outI .i64 (IntKind.wrap .i64 (((BitVec.ofInt 64 x &&& BitVec.ofInt 64 (Int.ofNat m)).toNat : Nat) : Int)) = _
  rw [← hq]
  have hw : IntKind.wrap .i64 ((q : Nat) : Int) = .ofNat q := by
    rw [← wrF_eq, wrF_i64]
    · rfl
    · omega
    · omega
  rw [hw]
  simp only [outI, fI_eq]

/-- a snapshot's cells -/
structure SnapOK (S : List AV) : Prop where
  len : S.length = 35
  map : ∀ no, no < 32 → ∃ to, S[3 + no]? = some (.int .i64 (.ofNat to)) ∧ (to = 0 ∨ 32 ≤ to ∧ to ≤ 95)

theorem vp_loop2 {A0 : AV} {n : Nat} {bk sb : Pos} :
    ∀ (k : Nat) (ρ : Env) (σ : AH) (i : Nat) (S : List AV), ρ.get q0 = some A0 → ρ.get q6 = some (.ptr bk 0) → ρ.get q9 = some (.ptr sb 0) → ρ.get q10 = some (.int .i64 (.ofNat i)) → InL σ A0 n isInt →
      σ.get sb = some (.cells false S) → SnapOK S → i ≤ 31 → 32 ≤ i + k →
      ∃ ρ' S', evRnd tbl call rounds vpL2 k ρ σ = some (.exit 2, ρ', σ.put sb (some (.cells false S'))) ∧ ρ'.get q6 = some (.ptr bk 0) ∧ ρ'.get q9 = some (.ptr sb 0) ∧ SnapOK S'
  | 0, ρ, σ, i, S, g0, g6, g9, g10, hI, hS, hok, hi, hk => by omega
  | k + 1, ρ, σ, i, S, g0, g6, g9, g10, hI, hS, hok, hi, hk => by
    rw [evRnd_succ]
    have hv : vpL2 = .seq (.seq (.region [r q45 (.mv t10),r q46 (.mv t0),r q47 (.len 1 t46),r q48 (.bin .lss t45 t47),r q49 (.mv t48),⟨some q50, .mv t10, some (q49, true)⟩,⟨some q51, .bin .lss t50 (ci 31), some (q49, true)⟩,r q52 (.pick t49 t51 (.const (.bool false)))]) (.cond t52 (.skip) (.exit 2)))
      (.seq (.block 3 (.seq (.region [r q55 (.mv t0),r q56 (.mv t10),r q57 (.idxA none 1 t55 t56),r q58 (.load1 t57),r q59 (.bin .and t58 (ci 1)),r q60 (.bin .eql t59 (ci 1))])
        (.cond t60 (.region [r q61 (.mv t10),r q62 (.bin .add (ci 1) t61),r q63 (.mv t0),r q64 (.mv t10),r q65 (.idxA none 1 t63 t64),r q66 (.load1 t65),r q67 (.bin .and t66 (ci 63)),r q68 (.bin .add (ci 32) t67),r q69 (.fieldA 3 t9),r q70 (.idxA (some 32) 1 t69 t62),u (.store 1 t70 t68)]) (.skip))))
      (.region [r q53 (.mv t10),r q54 (.bin .add t53 (ci 1)),r q10 (.mv t54)])) := rfl
    rcases hI with ⟨rfl, rfl⟩ | ⟨b, c, l, rfl, hb, hl, hlb⟩
    · have i1 : ilt (Int.ofNat i) 0 = false := by rw [ilt_eq]; simp
      obtain ⟨ρ1, h1, h6, h9⟩ : ∃ ρ1, evCode tbl call rounds vpL2 ρ σ = some (.exit 2, ρ1, σ) ∧ ρ1.get q6 = some (.ptr bk 0) ∧ ρ1.get q9 = some (.ptr sb 0) := by
        rw [hv]
        simp (decide := true) only [evCode_seq, evCode_region, evCode_cond, evCode_drawn, evCode_block, evCode_loop, evCode_skip, evCode_ret, evCode_exit, evOps_op, evOps_nil, evOps_guard, thenG_tt, thenG_ff, thenG_tf, thenG_ft, thenG_un, runOp_guard, thenVG_tt, thenVG_ff, thenVG_tf, thenVG_ft, thenVG_un, evOp, evTmp, evConst, AO.evs, Tr.get_set, Tr.get_lf, val, valO, thenC_norm, thenC_ret, thenC_exit, thenC_pan, onBool_true, onBool_false, thenOp_val, thenOp_pan, thenL_norm, thenL_ret, thenL_exit, thenL_pan, inBlk_norm, inBlk_ret, inBlk_pan, inBlk_exit, evPlan_nil, evPlan_cons, evSt_nil, evSt_cons, evSt_eff, runOp_some, effOp_some, thenV_val, thenE_val, nthR_zero, nthR_succ, eput_some, eput_none, if_true, if_false, Option.getD_some, Option.getD_none, cond_true, cond_false, beq_self_eq_true, fN_k, reduceCtorEq, Nat.beq_refl, Bool.and_self, Bool.and_true, Bool.true_and, Bool.false_and, Bool.and_false, Bool.or_true, Bool.true_or, Bool.or_false, Bool.false_or, Bool.not_true, Bool.not_false, Option.isNone_none, Option.isNone_some, g0, g6, g9, g10, evBin, i1]
        exact ⟨_, rfl, by simp (decide := true) only [Tr.get_set, if_false, g6], by simp (decide := true) only [Tr.get_set, if_false, g9]⟩
      exact ⟨ρ1, S, by rw [h1, thenL_exit, AH.put_self hS], h6, h9, hok⟩
    · by_cases hlt : i < n ∧ i < 31
      · have i1 : ilt (Int.ofNat i) (Int.ofNat n) = true := by rw [ilt_eq]; simp; omega
        have i2 : ilt (Int.ofNat i) (Int.ofNat 31) = true := by rw [ilt_eq]; simp; omega
        obtain ⟨x, hx⟩ := hlb l[i] (List.getElem_mem (by omega))
        have ld := load_of hb i (v := .int .i64 x) (by rw [List.getElem?_eq_getElem (by omega), hx])
        obtain ⟨r1, hr1, ha1⟩ := and_small x (m := 1) (by decide)
        obtain ⟨r2, hr2, ha2⟩ := and_small x (m := 63) (by decide)
        have c1 : wrF .i64 (Int.ofNat i + Int.ofNat 1) = .ofNat (i + 1) := by rw [wrF_i64] <;> simp only [Int.ofNat_eq_natCast] <;> omega
        have c2 : wrF .i64 (Int.ofNat 1 + Int.ofNat i) = .ofNat (i + 1) := by rw [wrF_i64] <;> simp only [Int.ofNat_eq_natCast] <;> omega
        have c3 : wrF .i64 (Int.ofNat 32 + Int.ofNat r2) = .ofNat (32 + r2) := by rw [wrF_i64] <;> simp only [Int.ofNat_eq_natCast] <;> omega
        have st := fun k => store_of (β := Out × AH) hS (3 + (i + 1)) (by rw [hok.len]; omega) (.int .i64 (.ofNat (32 + r2))) k
        have n1 : Nat.beq [AV.int .i64 (.ofNat (32 + r2))].length 1 = true := rfl
        have ok1 : okVals [AV.int .i64 (.ofNat (32 + r2))] = true := rfl
        obtain ⟨ρ1, S1, h1, h0, h6, h9, h10, hS1⟩ : ∃ ρ1 S1, evCode tbl call rounds vpL2 ρ σ = some (.norm, ρ1, σ.put sb (some (.cells false S1))) ∧ ρ1.get q0 = some (.slc b 0 n c) ∧ ρ1.get q6 = some (.ptr bk 0) ∧ ρ1.get q9 = some (.ptr sb 0) ∧
            ρ1.get q10 = some (.int .i64 (.ofNat (i + 1))) ∧ SnapOK S1 := by
          rw [hv]
          by_cases hr : r1 = 1
          · have i3 : ieq (Int.ofNat r1) (Int.ofNat 1) = true := by rw [ieq_eq]; simp [hr]
            simp (decide := true) only [evCode_seq, evCode_region, evCode_cond, evCode_drawn, evCode_block, evCode_loop, evCode_skip, evCode_ret, evCode_exit, evOps_op, evOps_nil, evOps_guard, thenG_tt, thenG_ff, thenG_tf, thenG_ft, thenG_un, runOp_guard, thenVG_tt, thenVG_ff, thenVG_tf, thenVG_ft, thenVG_un, evOp, evTmp, evConst, AO.evs, Tr.get_set, Tr.get_lf, val, valO, thenC_norm, thenC_ret, thenC_exit, thenC_pan, onBool_true, onBool_false, thenOp_val, thenOp_pan, thenL_norm, thenL_ret, thenL_exit, thenL_pan, inBlk_norm, inBlk_ret, inBlk_pan, inBlk_exit, evPlan_nil, evPlan_cons, evSt_nil, evSt_cons, evSt_eff, runOp_some, effOp_some, thenV_val, thenE_val, nthR_zero, nthR_succ, eput_some, eput_none, if_true, if_false, Option.getD_some, Option.getD_none, cond_true, cond_false, beq_self_eq_true, fN_k, reduceCtorEq, Nat.beq_refl, Bool.and_self, Bool.and_true, Bool.true_and, Bool.false_and, Bool.and_false, Bool.or_true, Bool.true_or, Bool.or_false, Bool.false_or, Bool.not_true, Bool.not_false, Option.isNone_none, Option.isNone_some, g0, g6, g9, g10, evBin, i1, i2, i3, evIx, blt_true hlt.1, Nat.mul_one, Nat.zero_add, ld, ha1, ha2, c1, c2, c3, outI, fI_eq, blt_true (show i + 1 < 32 by omega), AV.cells, n1, ok1, st]
            refine ⟨_, _, rfl, by simp (decide := true) only [Tr.get_set, if_false, g0], by simp (decide := true) only [Tr.get_set, if_false, g6], by simp (decide := true) only [Tr.get_set, if_false, g9], by simp (decide := true) only [Tr.get_set, if_false, if_true], ?_⟩
            refine ⟨by rw [List.length_set]; exact hok.len, fun no hno => ?_⟩
            by_cases hn : no = i + 1
            · subst hn
              exact ⟨32 + r2, List.getElem?_set_self (by rw [hok.len]; omega), .inr ⟨by omega, by omega⟩⟩
            · rw [List.getElem?_set_ne (by omega)]
              exact hok.map no hno
          · have i3 : ieq (Int.ofNat r1) (Int.ofNat 1) = false := by rw [ieq_eq]; simp; omega
            simp (decide := true) only [evCode_seq, evCode_region, evCode_cond, evCode_drawn, evCode_block, evCode_loop, evCode_skip, evCode_ret, evCode_exit, evOps_op, evOps_nil, evOps_guard, thenG_tt, thenG_ff, thenG_tf, thenG_ft, thenG_un, runOp_guard, thenVG_tt, thenVG_ff, thenVG_tf, thenVG_ft, thenVG_un, evOp, evTmp, evConst, AO.evs, Tr.get_set, Tr.get_lf, val, valO, thenC_norm, thenC_ret, thenC_exit, thenC_pan, onBool_true, onBool_false, thenOp_val, thenOp_pan, thenL_norm, thenL_ret, thenL_exit, thenL_pan, inBlk_norm, inBlk_ret, inBlk_pan, inBlk_exit, evPlan_nil, evPlan_cons, evSt_nil, evSt_cons, evSt_eff, runOp_some, effOp_some, thenV_val, thenE_val, nthR_zero, nthR_succ, eput_some, eput_none, if_true, if_false, Option.getD_some, Option.getD_none, cond_true, cond_false, beq_self_eq_true, fN_k, reduceCtorEq, Nat.beq_refl, Bool.and_self, Bool.and_true, Bool.true_and, Bool.false_and, Bool.and_false, Bool.or_true, Bool.true_or, Bool.or_false, Bool.false_or, Bool.not_true, Bool.not_false, Option.isNone_none, Option.isNone_some, g0, g6, g9, g10, evBin, i1, i2, i3, evIx, blt_true hlt.1, Nat.mul_one, Nat.zero_add, ld, ha1, ha2, c1, outI, fI_eq]
            exact ⟨_, S, by rw [AH.put_self hS], by simp (decide := true) only [Tr.get_set, if_false, g0], by simp (decide := true) only [Tr.get_set, if_false, g6], by simp (decide := true) only [Tr.get_set, if_false, g9], by simp (decide := true) only [Tr.get_set, if_false, if_true], hok⟩
        have hbs : b ≠ sb := fun e => by subst e; rw [hb] at hS; cases hS
        obtain ⟨ρ', S', a1, a2, a3, a4⟩ := vp_loop2 (A0 := .slc b 0 n c) (n := n) (bk := bk) (sb := sb) k ρ1 (σ.put sb (some (.cells false S1))) (i + 1) S1 h0 h6 h9 h10
          (.inr ⟨b, c, l, rfl, by rw [AH.get_put_ne _ _ hbs]; exact hb, hl, hlb⟩) (AH.get_put_same _ _ _) hS1 (by omega) (by omega)
        exact ⟨ρ', S', by rw [h1, thenL_norm, a1, AH.put_put], a2, a3, a4⟩
      · obtain ⟨ρ1, h1, h6, h9⟩ : ∃ ρ1, evCode tbl call rounds vpL2 ρ σ = some (.exit 2, ρ1, σ) ∧ ρ1.get q6 = some (.ptr bk 0) ∧ ρ1.get q9 = some (.ptr sb 0) := by
          rw [hv]
          by_cases hn : i < n
          · have i1 : ilt (Int.ofNat i) (Int.ofNat n) = true := by rw [ilt_eq]; simp; omega
            have i2 : ilt (Int.ofNat i) (Int.ofNat 31) = false := by rw [ilt_eq]; simp; omega
            simp (decide := true) only [evCode_seq, evCode_region, evCode_cond, evCode_drawn, evCode_block, evCode_loop, evCode_skip, evCode_ret, evCode_exit, evOps_op, evOps_nil, evOps_guard, thenG_tt, thenG_ff, thenG_tf, thenG_ft, thenG_un, runOp_guard, thenVG_tt, thenVG_ff, thenVG_tf, thenVG_ft, thenVG_un, evOp, evTmp, evConst, AO.evs, Tr.get_set, Tr.get_lf, val, valO, thenC_norm, thenC_ret, thenC_exit, thenC_pan, onBool_true, onBool_false, thenOp_val, thenOp_pan, thenL_norm, thenL_ret, thenL_exit, thenL_pan, inBlk_norm, inBlk_ret, inBlk_pan, inBlk_exit, evPlan_nil, evPlan_cons, evSt_nil, evSt_cons, evSt_eff, runOp_some, effOp_some, thenV_val, thenE_val, nthR_zero, nthR_succ, eput_some, eput_none, if_true, if_false, Option.getD_some, Option.getD_none, cond_true, cond_false, beq_self_eq_true, fN_k, reduceCtorEq, Nat.beq_refl, Bool.and_self, Bool.and_true, Bool.true_and, Bool.false_and, Bool.and_false, Bool.or_true, Bool.true_or, Bool.or_false, Bool.false_or, Bool.not_true, Bool.not_false, Option.isNone_none, Option.isNone_some, g0, g6, g9, g10, evBin, i1, i2]
            exact ⟨_, rfl, by simp (decide := true) only [Tr.get_set, if_false, g6], by simp (decide := true) only [Tr.get_set, if_false, g9]⟩
          · have i1 : ilt (Int.ofNat i) (Int.ofNat n) = false := by rw [ilt_eq]; simp; omega
            simp (decide := true) only [evCode_seq, evCode_region, evCode_cond, evCode_drawn, evCode_block, evCode_loop, evCode_skip, evCode_ret, evCode_exit, evOps_op, evOps_nil, evOps_guard, thenG_tt, thenG_ff, thenG_tf, thenG_ft, thenG_un, runOp_guard, thenVG_tt, thenVG_ff, thenVG_tf, thenVG_ft, thenVG_un, evOp, evTmp, evConst, AO.evs, Tr.get_set, Tr.get_lf, val, valO, thenC_norm, thenC_ret, thenC_exit, thenC_pan, onBool_true, onBool_false, thenOp_val, thenOp_pan, thenL_norm, thenL_ret, thenL_exit, thenL_pan, inBlk_norm, inBlk_ret, inBlk_pan, inBlk_exit, evPlan_nil, evPlan_cons, evSt_nil, evSt_cons, evSt_eff, runOp_some, effOp_some, thenV_val, thenE_val, nthR_zero, nthR_succ, eput_some, eput_none, if_true, if_false, Option.getD_some, Option.getD_none, cond_true, cond_false, beq_self_eq_true, fN_k, reduceCtorEq, Nat.beq_refl, Bool.and_self, Bool.and_true, Bool.true_and, Bool.false_and, Bool.and_false, Bool.or_true, Bool.true_or, Bool.or_false, Bool.false_or, Bool.not_true, Bool.not_false, Option.isNone_none, Option.isNone_some, g0, g6, g9, g10, evBin, i1]
            exact ⟨_, rfl, by simp (decide := true) only [Tr.get_set, if_false, g6], by simp (decide := true) only [Tr.get_set, if_false, g9]⟩
        exact ⟨ρ1, S, by rw [h1, thenL_exit, AH.put_self hS], h6, h9, hok⟩

theorem BookAt.new {σ : AH} {bk : Pos} {i : Nat} (h : BookAt σ bk i) (hw : Wf σ) (x : AB) : BookAt (σ.new x) bk i := by
  obtain ⟨L, h1, h2, h3, h4⟩ := h.ex
  exact ⟨L, hw.get_new h1 _, h2, h3, fun j hj => let ⟨pb, x', y', b1, b2, b3, b4⟩ := h4 j hj; ⟨pb, x', y', b1, hw.get_new b2 _, b3, b4⟩⟩

theorem load_all {σ : AH} {b : Pos} {ro : Bool} {L : List AV} {n : Nat} (hg : σ.get b = some (.cells ro L)) (hn : L.length = n) : σ.load b 0 n = some L := by
  simp only [AH.load, hg, ltake_eq, ldrop_eq, List.drop_zero]
  rw [if_pos (by omega), ← hn, List.take_length]

theorem vp_loop3 (hcr : ∀ {σ : AH} {vb bk : Pos} {Lv : List AV} {no : Int}, σ.get vb = some (.cells false Lv) → Lv[0]? = some (.ifc 26 (.ptr bk 0)) → (no < 1 ∨ 32 ≤ no) →
      call q22 [.ptr vb 0, .int .i64 no] σ = some (.val (.tup [.nils, .int .i64 (.ofNat 3)]), σ))
    (hcp : ∀ {σ : AH} {vb bk pb : Pos} {Lv Lb : List AV} {no to x y : Nat}, Wf σ → σ.get vb = some (.cells false Lv) → Lv[0]? = some (.ifc 26 (.ptr bk 0)) → 1 ≤ no → no < 32 → Lv[4 + no]? = some (.int .i64 (.ofNat to)) →
      σ.get bk = some (.cells false Lb) → Lb[96]? = some (.int .i64 (.ofNat 0)) → (if to = 0 then no else to) < 96 → Lb[if to = 0 then no else to]? = some (.slc pb 0 256 (.known 256)) → σ.get pb = some (.cells false (pg x y)) →
      call q22 [.ptr vb 0, .int .i64 (.ofNat no)] σ = some (.val (.tup [.slc σ.nx 0 256 (.opn 1), .int .i64 (.ofNat 0)]), σ.new (.cells false (pg x y)))) {bk sb vb : Pos} {S : List AV} (hok : SnapOK S) :
    ∀ (k : Nat) (ρ : Env) (σ : AH) (no : Int), ρ.get q6 = some (.ptr bk 0) → ρ.get q9 = some (.ptr sb 0) → ρ.get q11 = some (.ptr vb 0) → ρ.get q12 = some (.int .i64 no) → Wf σ → BookAt σ bk 96 →
      σ.get sb = some (.cells false S) → σ.get vb = some (.cells false (.ifc 26 (.ptr bk 0) :: S)) → -1 ≤ no → no ≤ 41 → 42 ≤ no + k →
      ∃ ρ' σ', evRnd tbl call rounds vpL3 k ρ σ = some (.exit 4, ρ', σ')
  | 0, ρ, σ, no, g6, g9, g11, g12, hw, hB, hS, hV, h1, h2, hk => by omega
  | k + 1, ρ, σ, no, g6, g9, g11, g12, hw, hB, hS, hV, h1, h2, hk => by
    rw [evRnd_succ]
    by_cases hlt : no ≤ 40
    · have i1 : ilt (Int.ofNat 40) no = false := by rw [ilt_eq]; simp; omega
      have c1 : wrF .i64 (no + Int.ofNat 1) = no + 1 := by rw [wrF_i64] <;> simp only [Int.ofNat_eq_natCast] <;> omega
      have i3 : ieq (Int.ofNat 3) (Int.ofNat 3) = true := rfl
      have i4 : ieq 0 (Int.ofNat 0) = true := rfl
      have i5 : ieq (Int.ofNat 0) (Int.ofNat 0) = true := rfl
      have step : ∃ ρ1 σ1, evCode tbl call rounds vpL3 ρ σ = some (.norm, ρ1, σ1) ∧ ρ1.get q6 = some (.ptr bk 0) ∧ ρ1.get q9 = some (.ptr sb 0) ∧ ρ1.get q11 = some (.ptr vb 0) ∧ ρ1.get q12 = some (.int .i64 (no + 1)) ∧
          (σ1 = σ ∨ ∃ x, σ1 = σ.new x) := by
        by_cases hr : no < 1 ∨ 32 ≤ no
        · have hc := hcr hV rfl hr
          rcases hr with hr | hr
          · have i2 : ilt no (Int.ofNat 1) = true := by rw [ilt_eq]; simp; omega
            simp (decide := true) only [vpL3, fn4, sndA, fstA, loopA, evCode_seq, evCode_region, evCode_cond, evCode_drawn, evCode_block, evCode_loop, evCode_skip, evCode_ret, evCode_exit, evOps_op, evOps_nil, evOps_guard, thenG_tt, thenG_ff, thenG_tf, thenG_ft, thenG_un, runOp_guard, thenVG_tt, thenVG_ff, thenVG_tf, thenVG_ft, thenVG_un, evOp, evTmp, evConst, AO.evs, Tr.get_set, Tr.get_lf, val, valO, thenC_norm, thenC_ret, thenC_exit, thenC_pan, onBool_true, onBool_false, thenOp_val, thenOp_pan, thenL_norm, thenL_ret, thenL_exit, thenL_pan, inBlk_norm, inBlk_ret, inBlk_pan, inBlk_exit, evPlan_nil, evPlan_cons, evSt_nil, evSt_cons, evSt_eff, runOp_some, effOp_some, thenV_val, thenE_val, nthR_zero, nthR_succ, eput_some, eput_none, if_true, if_false, Option.getD_some, Option.getD_none, cond_true, cond_false, beq_self_eq_true, fN_k, reduceCtorEq, Nat.beq_refl, Bool.and_self, Bool.and_true, Bool.true_and, Bool.false_and, Bool.and_false, Bool.or_true, Bool.true_or, Bool.or_false, Bool.false_or, Bool.not_true, Bool.not_false, Option.isNone_none, Option.isNone_some, g6, g9, g11, g12, evBin, i1, i2, i3, i4, hc, ldrop_eq, List.drop_zero, List.drop_succ_cons, c1, outI, fI_eq]
            exact ⟨_, _, rfl, by simp (decide := true) only [Tr.get_set, if_false, g6], by simp (decide := true) only [Tr.get_set, if_false, g9], by simp (decide := true) only [Tr.get_set, if_false, g11], by simp (decide := true) only [Tr.get_set, if_false, if_true], .inl rfl⟩
          · have i2 : ilt no (Int.ofNat 1) = false := by rw [ilt_eq]; simp; omega
            have i6 : ilt (Int.ofNat 31) no = true := by rw [ilt_eq]; simp; omega
            simp (decide := true) only [vpL3, fn4, sndA, fstA, loopA, evCode_seq, evCode_region, evCode_cond, evCode_drawn, evCode_block, evCode_loop, evCode_skip, evCode_ret, evCode_exit, evOps_op, evOps_nil, evOps_guard, thenG_tt, thenG_ff, thenG_tf, thenG_ft, thenG_un, runOp_guard, thenVG_tt, thenVG_ff, thenVG_tf, thenVG_ft, thenVG_un, evOp, evTmp, evConst, AO.evs, Tr.get_set, Tr.get_lf, val, valO, thenC_norm, thenC_ret, thenC_exit, thenC_pan, onBool_true, onBool_false, thenOp_val, thenOp_pan, thenL_norm, thenL_ret, thenL_exit, thenL_pan, inBlk_norm, inBlk_ret, inBlk_pan, inBlk_exit, evPlan_nil, evPlan_cons, evSt_nil, evSt_cons, evSt_eff, runOp_some, effOp_some, thenV_val, thenE_val, nthR_zero, nthR_succ, eput_some, eput_none, if_true, if_false, Option.getD_some, Option.getD_none, cond_true, cond_false, beq_self_eq_true, fN_k, reduceCtorEq, Nat.beq_refl, Bool.and_self, Bool.and_true, Bool.true_and, Bool.false_and, Bool.and_false, Bool.or_true, Bool.true_or, Bool.or_false, Bool.false_or, Bool.not_true, Bool.not_false, Option.isNone_none, Option.isNone_some, g6, g9, g11, g12, evBin, i1, i2, i3, i4, i6, hc, ldrop_eq, List.drop_zero, List.drop_succ_cons, c1, outI, fI_eq]
            exact ⟨_, _, rfl, by simp (decide := true) only [Tr.get_set, if_false, g6], by simp (decide := true) only [Tr.get_set, if_false, g9], by simp (decide := true) only [Tr.get_set, if_false, g11], by simp (decide := true) only [Tr.get_set, if_false, if_true], .inl rfl⟩
        · obtain ⟨n, rfl⟩ : ∃ n : Nat, no = .ofNat n := ⟨no.toNat, by simp only [Int.ofNat_eq_natCast]; omega⟩
          have hn1 : 1 ≤ n := by simp only [Int.ofNat_eq_natCast] at hr; omega
          have hn2 : n < 32 := by simp only [Int.ofNat_eq_natCast] at hr; omega
          have i2 : ilt (Int.ofNat n) (Int.ofNat 1) = false := by rw [ilt_eq]; simp; omega
          have i6 : ilt (Int.ofNat 31) (Int.ofNat n) = false := by rw [ilt_eq]; simp; omega
          obtain ⟨Lb, hb1, hb2, hb3, hb4⟩ := hB.ex
          obtain ⟨to, hto, htr⟩ := hok.map n hn2
          have hwant : (if to = 0 then n else to) < 96 := by split <;> omega
          obtain ⟨pb, x, y, p1, p2, p3, p4⟩ := hb4 _ hwant
          have hc := hcp (no := n) (to := to) hw hV rfl hn1 hn2 (by rw [show 4 + n = (3 + n) + 1 by omega, List.getElem?_cons_succ]; exact hto) hb1 hb3 hwant p1 p2
          have lS := load_of ((hw.new (.cells false (pg x y))).get_new (x := .cells false S) (hw.get_new hS _) (.cells false []))
          have lS' := load_of (hw.get_new hS (.cells false (pg x y))) (3 + n) hto
          have ln := load_all (get_new_same σ (.cells false (pg x y))) (pg_len x y)
          have lp := load_all (hw.get_new p2 (.cells false (pg x y))) (pg_len x y)
          have lb := load_of (hw.get_new hb1 (.cells false (pg x y))) _ p1
          have by1 := pg_bytes p3 p4
          by_cases ht : to = 0
          · rw [if_pos ht] at hwant lb
            have i7 : ieq (Int.ofNat to) (Int.ofNat 0) = true := by rw [ieq_eq]; simp [ht]
            simp (decide := true) only [vpL3, fn4, sndA, fstA, loopA, evCode_seq, evCode_region, evCode_cond, evCode_drawn, evCode_block, evCode_loop, evCode_skip, evCode_ret, evCode_exit, evOps_op, evOps_nil, evOps_guard, thenG_tt, thenG_ff, thenG_tf, thenG_ft, thenG_un, runOp_guard, thenVG_tt, thenVG_ff, thenVG_tf, thenVG_ft, thenVG_un, evOp, evTmp, evConst, AO.evs, Tr.get_set, Tr.get_lf, val, valO, thenC_norm, thenC_ret, thenC_exit, thenC_pan, onBool_true, onBool_false, thenOp_val, thenOp_pan, thenL_norm, thenL_ret, thenL_exit, thenL_pan, inBlk_norm, inBlk_ret, inBlk_pan, inBlk_exit, evPlan_nil, evPlan_cons, evSt_nil, evSt_cons, evSt_eff, runOp_some, effOp_some, thenV_val, thenE_val, nthR_zero, nthR_succ, eput_some, eput_none, if_true, if_false, Option.getD_some, Option.getD_none, cond_true, cond_false, beq_self_eq_true, fN_k, reduceCtorEq, Nat.beq_refl, Bool.and_self, Bool.and_true, Bool.true_and, Bool.false_and, Bool.and_false, Bool.or_true, Bool.true_or, Bool.or_false, Bool.false_or, Bool.not_true, Bool.not_false, Option.isNone_none, Option.isNone_some, g6, g9, g11, g12, evBin, evUn, i1, i2, i5, i6, i7, hc, ldrop_eq, List.drop_zero, List.drop_succ_cons, c1, outI, fI_eq, evIx, blt_true hn2, Nat.mul_one, Nat.zero_add, Nat.add_zero, lS', ln, lp, lb, by1, blt_true hwant, leqN_refl]
            exact ⟨_, _, rfl, by simp (decide := true) only [Tr.get_set, if_false, g6], by simp (decide := true) only [Tr.get_set, if_false, g9], by simp (decide := true) only [Tr.get_set, if_false, g11], by simp (decide := true) only [Tr.get_set, if_false, if_true], .inr ⟨_, rfl⟩⟩
          · rw [if_neg ht] at hwant lb
            have i7 : ieq (Int.ofNat to) (Int.ofNat 0) = false := by rw [ieq_eq]; simp [ht]
            simp (decide := true) only [vpL3, fn4, sndA, fstA, loopA, evCode_seq, evCode_region, evCode_cond, evCode_drawn, evCode_block, evCode_loop, evCode_skip, evCode_ret, evCode_exit, evOps_op, evOps_nil, evOps_guard, thenG_tt, thenG_ff, thenG_tf, thenG_ft, thenG_un, runOp_guard, thenVG_tt, thenVG_ff, thenVG_tf, thenVG_ft, thenVG_un, evOp, evTmp, evConst, AO.evs, Tr.get_set, Tr.get_lf, val, valO, thenC_norm, thenC_ret, thenC_exit, thenC_pan, onBool_true, onBool_false, thenOp_val, thenOp_pan, thenL_norm, thenL_ret, thenL_exit, thenL_pan, inBlk_norm, inBlk_ret, inBlk_pan, inBlk_exit, evPlan_nil, evPlan_cons, evSt_nil, evSt_cons, evSt_eff, runOp_some, effOp_some, thenV_val, thenE_val, nthR_zero, nthR_succ, eput_some, eput_none, if_true, if_false, Option.getD_some, Option.getD_none, cond_true, cond_false, beq_self_eq_true, fN_k, reduceCtorEq, Nat.beq_refl, Bool.and_self, Bool.and_true, Bool.true_and, Bool.false_and, Bool.and_false, Bool.or_true, Bool.true_or, Bool.or_false, Bool.false_or, Bool.not_true, Bool.not_false, Option.isNone_none, Option.isNone_some, g6, g9, g11, g12, evBin, evUn, i1, i2, i5, i6, i7, hc, ldrop_eq, List.drop_zero, List.drop_succ_cons, c1, outI, fI_eq, evIx, blt_true hn2, Nat.mul_one, Nat.zero_add, Nat.add_zero, lS', ln, lp, lb, by1, blt_true hwant, leqN_refl]
            exact ⟨_, _, rfl, by simp (decide := true) only [Tr.get_set, if_false, g6], by simp (decide := true) only [Tr.get_set, if_false, g9], by simp (decide := true) only [Tr.get_set, if_false, g11], by simp (decide := true) only [Tr.get_set, if_false, if_true], .inr ⟨_, rfl⟩⟩
      obtain ⟨ρ1, σ1, e1, f6, f9, f11, f12, hσ⟩ := step
      have keep : Wf σ1 ∧ BookAt σ1 bk 96 ∧ σ1.get sb = some (.cells false S) ∧ σ1.get vb = some (.cells false (.ifc 26 (.ptr bk 0) :: S)) := by
        rcases hσ with rfl | ⟨x, rfl⟩
        · exact ⟨hw, hB, hS, hV⟩
        · exact ⟨hw.new x, hB.new hw x, hw.get_new hS x, hw.get_new hV x⟩
      obtain ⟨ρ', σ', a1⟩ := vp_loop3 hcr hcp (bk := bk) (sb := sb) (vb := vb) hok k ρ1 σ1 (no + 1) f6 f9 f11 f12 keep.1 keep.2.1 keep.2.2.1 keep.2.2.2 (by omega) (by omega) (by omega)
      exact ⟨ρ', σ', by rw [e1, thenL_norm, a1]⟩
    · have i1 : ilt (Int.ofNat 40) no = true := by rw [ilt_eq]; simp; omega
      refine ⟨(ρ.set (some (.int .i64 no)) q75).set (some (.bool false)) q76, σ, ?_⟩
      simp (decide := true) only [vpL3, fn4, sndA, fstA, loopA, evCode_seq, evCode_region, evCode_cond, evCode_drawn, evCode_block, evCode_loop, evCode_skip, evCode_ret, evCode_exit, evOps_op, evOps_nil, evOps_guard, thenG_tt, thenG_ff, thenG_tf, thenG_ft, thenG_un, runOp_guard, thenVG_tt, thenVG_ff, thenVG_tf, thenVG_ft, thenVG_un, evOp, evTmp, evConst, AO.evs, Tr.get_set, Tr.get_lf, val, valO, thenC_norm, thenC_ret, thenC_exit, thenC_pan, onBool_true, onBool_false, thenOp_val, thenOp_pan, thenL_norm, thenL_ret, thenL_exit, thenL_pan, inBlk_norm, inBlk_ret, inBlk_pan, inBlk_exit, evPlan_nil, evPlan_cons, evSt_nil, evSt_cons, evSt_eff, runOp_some, effOp_some, thenV_val, thenE_val, nthR_zero, nthR_succ, eput_some, eput_none, if_true, if_false, Option.getD_some, Option.getD_none, cond_true, cond_false, beq_self_eq_true, fN_k, reduceCtorEq, Nat.beq_refl, Bool.and_self, Bool.and_true, Bool.true_and, Bool.false_and, Bool.and_false, Bool.or_true, Bool.true_or, Bool.or_false, Bool.false_or, Bool.not_true, Bool.not_false, Option.isNone_none, Option.isNone_some, g12, evBin, i1]
end

end Go.Proofs.YtgaoddafkjdecaaGreat.EV
