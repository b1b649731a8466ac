/-
  EV, part V3: engrosslaw22.ViewPages answers true. Own work of this claim.
-/
import Derived.Test.YtgaoddafkjdecaaGreatEvV2
import Derived.Test.YtgaoddafkjdecaaGreatEvR4
set_option linter.unusedVariables false
set_option linter.unusedSimpArgs false
namespace Go.Proofs.YtgaoddafkjdecaaGreat.EV

theorem seq_step {tbl : Disp} {call : Call} {rounds : Nat} {a b : ACode} {ρ ρ1 : Env} {σ σ1 : AH} (h : evCode tbl call rounds a ρ σ = some (.norm, ρ1, σ1)) :
    evCode tbl call rounds (.seq a b) ρ σ = evCode tbl call rounds b ρ1 σ1 := by
  rw [evCode_seq, h, thenC_norm]

noncomputable def vpR : Nat := 200
noncomputable def vpC (n : Nat) : Call := book3.call vpR n

theorem vpC_ok (n : Nat) : CallOK Go.Proofs.Tryz.prog (vpC n) := by
  unfold vpC
  exact book_sound book3_ok vpR n

theorem vp19 : book3.prims.get q19 = some trueP := by kernel_rfl
theorem vp20p : book3.prims.get q20 = none := by kernel_rfl
theorem vp21p : book3.prims.get q21 = none := by kernel_rfl
theorem vp22p : book3.prims.get q22 = none := by kernel_rfl
theorem vp216p : book3.prims.get q216 = none := by kernel_rfl
theorem vp4p : book3.prims.get q4 = none := by kernel_rfl
theorem vp20 : book3.fns.get q20 = some fn20 := by kernel_rfl
theorem vp21 : book3.fns.get q21 = some fn21 := by kernel_rfl
theorem vp22 : book3.fns.get q22 = some fn22 := by kernel_rfl
theorem vp216 : book3.fns.get q216 = some fn216 := by kernel_rfl
theorem vp4 : book3.fns.get q4 = some fn4 := by kernel_rfl
theorem vp26 : book3.tbl 26 0 = some q216 := rfl

theorem okVals_bytes : ∀ n, okVals (List.replicate n (AV.int .u8 (.ofNat 0))) = true
  | 0 => rfl
  | n + 1 => by rw [List.replicate_succ]; exact okVals_bytes n
theorem pg_ok' (x y n : Nat) : okVals (AV.int .u8 (.ofNat x) :: .int .u8 (.ofNat y) :: List.replicate n (.int .u8 (.ofNat 0))) = true := okVals_bytes n
theorem pg_ok (x y : Nat) : okVals (pg x y) = true := pg_ok' x y 254

theorem viewPages_ev {σ : AH} {A0 A1 : AV} {n nb : Nat} (hw : Wf σ) (h0 : InL σ A0 n isInt) (h1 : InL σ A1 nb isByte) : ∃ σ', vpC 4 (tp 4) [A0, A1] σ = some (.val (.bool true), σ') := by
  rw [show tp 4 = q4 from rfl]
  have hc20 : ∀ {σ : AH} {b : Pos} {c : Cap} {x y : Nat} {ro : Bool}, Wf σ → σ.get b = some (.cells ro [.int .u8 (.ofNat x), .int .u8 (.ofNat y)]) →
      vpC 3 q20 [.slc b 0 2 c] σ = some (.val (.slc σ.nx 0 256 (.known 256)), σ.new (.cells false (pg x y))) := by
    intro σ b c x y ro hw hb
    unfold vpC
    rw [evBook_fn vp20p vp20]
    exact of_sound hw hb
  have hc216 : ∀ {σ : AH} {bk pb : Pos} {Lb : List AV} {no x y : Nat}, Wf σ → σ.get bk = some (.cells false Lb) → Lb[96]? = some (.int .i64 (.ofNat 0)) → no < 96 →
      Lb[no]? = some (.slc pb 0 256 (.known 256)) → σ.get pb = some (.cells false (pg x y)) →
      vpC 2 q216 [.ptr bk 0, .int .i64 (.ofNat no)] σ = some (.val (.tup [.slc σ.nx 0 256 (.opn 1), .int .i64 (.ofNat 0)]), σ.new (.cells false (pg x y))) := by
    intro σ bk pb Lb no x y hw hb h96 hno hp hpb
    unfold vpC
    rw [evBook_fn vp216p vp216]
    exact book_page hw hb h96 hno hp hpb (pg_len x y) (pg_ok x y)
  have hcr : ∀ {σ : AH} {vb bk : Pos} {Lv : List AV} {no : Int}, σ.get vb = some (.cells false Lv) → Lv[0]? = some (.ifc 26 (.ptr bk 0)) → (no < 1 ∨ 32 ≤ no) →
      vpC 3 q22 [.ptr vb 0, .int .i64 no] σ = some (.val (.tup [.nils, .int .i64 (.ofNat 3)]), σ) := by
    intro σ vb bk Lv no hv h0 hno
    unfold vpC
    rw [evBook_fn vp22p vp22]
    exact view_range hv h0 hno
  have hcp : ∀ {σ : AH} {vb bk pb : Pos} {Lv Lb : List AV} {no to x y : Nat}, Wf σ → σ.get vb = some (.cells false Lv) → Lv[0]? = some (.ifc 26 (.ptr bk 0)) → 1 ≤ no → no < 32 → Lv[4 + no]? = some (.int .i64 (.ofNat to)) →
      σ.get bk = some (.cells false Lb) → Lb[96]? = some (.int .i64 (.ofNat 0)) → (if to = 0 then no else to) < 96 → Lb[if to = 0 then no else to]? = some (.slc pb 0 256 (.known 256)) → σ.get pb = some (.cells false (pg x y)) →
      vpC 3 q22 [.ptr vb 0, .int .i64 (.ofNat no)] σ = some (.val (.tup [.slc σ.nx 0 256 (.opn 1), .int .i64 (.ofNat 0)]), σ.new (.cells false (pg x y))) := by
    intro σ vb bk pb Lv Lb no to x y hw hv h0 hn1 hn2 hm hb h96 hlt hp hpb
    have := hc216 hw hb h96 hlt hp hpb
    unfold vpC at this ⊢
    rw [evBook_fn vp22p vp22]
    exact view_page hv h0 hn1 hn2 hm vp26 this
  have hc21 : ∀ {σ : AH} {bk : Pos} {S : List AV}, S.length = 35 → vpC 3 q21 [.ifc 26 (.ptr bk 0), .agg S] σ = some (.val (.ptr σ.nx.succ 0), (σ.new (.cells false S)).new (.cells false (.ifc 26 (.ptr bk 0) :: S))) := by
    intro σ bk S hS
    unfold vpC
    rw [evBook_fn vp21p vp21]
    exact view_new hS
  have hc19 : ∀ σ, vpC 3 q19 [] σ = some (.val (.bool true), σ) := by
    intro σ
    unfold vpC
    rw [evBook_prim vp19]
    rfl
  have hstart : vpC 4 q4 [A0, A1] σ = evFn book3.tbl (vpC 3) vpR fn4 [A0, A1] σ := by
    unfold vpC
    rw [evBook_fn vp4p vp4]
  rw [hstart, evFn_eq _ _ rfl]
  have hbody : fn4.body = .seq (.region [r q4 (.mv (.const (.bool false)))]) (.seq (.region [r q16 (.callF q19 []),r q5 (.mv t16)])
    (.seq (.seq (.region [r q17 (.mv t5),r q18 (.un .not t17)]) (.cond t18 (.seq (.region [r q4 (.mv (.const (.bool false)))]) (.ret)) (.skip)))
    (.seq (.region [r q19 (.build (List.replicate 96 .nils ++ [(.int .i64 (.ofNat 0))]) []),r q20 (.box 97 t19),r q6 (.mv t20)])
    (.seq (.seq (.region [r q7 (.mv (ci 0))]) (.block 0 (.loop vpL1)))
    (.seq (.region [r q9 (.alloc ([(.str [])] ++ [(.int .i64 (.ofNat 0))] ++ [(.bool false)] ++ List.replicate 32 (.int .i64 (.ofNat 0))))])
    (.seq (.seq (.region [r q10 (.mv (ci 0))]) (.block 2 (.loop vpL2)))
    (.seq (.region [r q71 (.mv t6),r q72 (.mkI 26 t71),r q73 (.loadN 35 t9),r q74 (.callF q21 [t72,t73]),r q11 (.mv t74)])
    (.seq (.seq (.region [r q12 (.mv (.const (.int .i64 (.negSucc 0))))]) (.block 4 (.loop vpL3)))
    (.seq (.region [r q4 (.mv (.const (.bool true)))]) (.ret)))))))))) := rfl
  rw [hbody]
  -- up to the book
  obtain ⟨ρ1, e1, a0, a1⟩ : ∃ ρ1, evCode book3.tbl (vpC 3) vpR (.region [r q4 (.mv (.const (.bool false)))]) (envOf 0 .lf [A0, A1]) σ = some (.norm, ρ1, σ) ∧ ρ1.get q0 = some A0 ∧ ρ1.get q1 = some A1 := by
    simp (decide := true) only [evCode_seq, evCode_region, evCode_cond, evCode_drawn, evCode_block, evCode_loop, evCode_skip, evCode_ret, evCode_exit, evOps_op, evOps_nil, evOps_guard, thenG_tt, thenG_ff, thenG_tf, thenG_ft, thenG_un, runOp_guard, thenVG_tt, thenVG_ff, thenVG_tf, thenVG_ft, thenVG_un, evOp, evTmp, evConst, AO.evs, Tr.get_set, Tr.get_lf, val, valO, thenC_norm, thenC_ret, thenC_exit, thenC_pan, onBool_true, onBool_false, thenOp_val, thenOp_pan, thenL_norm, thenL_ret, thenL_exit, thenL_pan, inBlk_norm, inBlk_ret, inBlk_pan, inBlk_exit, evPlan_nil, evPlan_cons, evSt_nil, evSt_cons, evSt_eff, runOp_some, effOp_some, thenV_val, thenE_val, nthR_zero, nthR_succ, eput_some, eput_none, if_true, if_false, Option.getD_some, Option.getD_none, cond_true, cond_false, beq_self_eq_true, fN_k, reduceCtorEq, Nat.beq_refl, Bool.and_self, Bool.and_true, Bool.true_and, Bool.false_and, Bool.and_false, Bool.or_true, Bool.true_or, Bool.or_false, Bool.false_or, Bool.not_true, Bool.not_false, Option.isNone_none, Option.isNone_some, envOf]
    exact ⟨_, rfl, by simp (decide := true) only [Tr.get_set, if_true, if_false], by simp (decide := true) only [Tr.get_set, if_true, if_false]⟩
  rw [seq_step e1]
  obtain ⟨ρ2, e2, b0, b1, b5⟩ : ∃ ρ2, evCode book3.tbl (vpC 3) vpR (.region [r q16 (.callF q19 []),r q5 (.mv t16)]) ρ1 σ = some (.norm, ρ2, σ) ∧ ρ2.get q0 = some A0 ∧ ρ2.get q1 = some A1 ∧ ρ2.get q5 = some (.bool true) := by
    simp (decide := true) only [evCode_seq, evCode_region, evCode_cond, evCode_drawn, evCode_block, evCode_loop, evCode_skip, evCode_ret, evCode_exit, evOps_op, evOps_nil, evOps_guard, thenG_tt, thenG_ff, thenG_tf, thenG_ft, thenG_un, runOp_guard, thenVG_tt, thenVG_ff, thenVG_tf, thenVG_ft, thenVG_un, evOp, evTmp, evConst, AO.evs, Tr.get_set, Tr.get_lf, val, valO, thenC_norm, thenC_ret, thenC_exit, thenC_pan, onBool_true, onBool_false, thenOp_val, thenOp_pan, thenL_norm, thenL_ret, thenL_exit, thenL_pan, inBlk_norm, inBlk_ret, inBlk_pan, inBlk_exit, evPlan_nil, evPlan_cons, evSt_nil, evSt_cons, evSt_eff, runOp_some, effOp_some, thenV_val, thenE_val, nthR_zero, nthR_succ, eput_some, eput_none, if_true, if_false, Option.getD_some, Option.getD_none, cond_true, cond_false, beq_self_eq_true, fN_k, reduceCtorEq, Nat.beq_refl, Bool.and_self, Bool.and_true, Bool.true_and, Bool.false_and, Bool.and_false, Bool.or_true, Bool.true_or, Bool.or_false, Bool.false_or, Bool.not_true, Bool.not_false, Option.isNone_none, Option.isNone_some, hc19]
    exact ⟨_, rfl, by simp (decide := true) only [Tr.get_set, if_false, a0], by simp (decide := true) only [Tr.get_set, if_false, a1], by simp (decide := true) only [Tr.get_set, if_true, if_false]⟩
  rw [seq_step e2]
  obtain ⟨ρ3, e3, c0, c1⟩ : ∃ ρ3, evCode book3.tbl (vpC 3) vpR (.seq (.region [r q17 (.mv t5),r q18 (.un .not t17)]) (.cond t18 (.seq (.region [r q4 (.mv (.const (.bool false)))]) (.ret)) (.skip))) ρ2 σ = some (.norm, ρ3, σ) ∧
      ρ3.get q0 = some A0 ∧ ρ3.get q1 = some A1 := by
    simp (decide := true) only [evCode_seq, evCode_region, evCode_cond, evCode_drawn, evCode_block, evCode_loop, evCode_skip, evCode_ret, evCode_exit, evOps_op, evOps_nil, evOps_guard, thenG_tt, thenG_ff, thenG_tf, thenG_ft, thenG_un, runOp_guard, thenVG_tt, thenVG_ff, thenVG_tf, thenVG_ft, thenVG_un, evOp, evTmp, evConst, AO.evs, Tr.get_set, Tr.get_lf, val, valO, thenC_norm, thenC_ret, thenC_exit, thenC_pan, onBool_true, onBool_false, thenOp_val, thenOp_pan, thenL_norm, thenL_ret, thenL_exit, thenL_pan, inBlk_norm, inBlk_ret, inBlk_pan, inBlk_exit, evPlan_nil, evPlan_cons, evSt_nil, evSt_cons, evSt_eff, runOp_some, effOp_some, thenV_val, thenE_val, nthR_zero, nthR_succ, eput_some, eput_none, if_true, if_false, Option.getD_some, Option.getD_none, cond_true, cond_false, beq_self_eq_true, fN_k, reduceCtorEq, Nat.beq_refl, Bool.and_self, Bool.and_true, Bool.true_and, Bool.false_and, Bool.and_false, Bool.or_true, Bool.true_or, Bool.or_false, Bool.false_or, Bool.not_true, Bool.not_false, Option.isNone_none, Option.isNone_some, evUn, b5]
    exact ⟨_, rfl, by simp (decide := true) only [Tr.get_set, if_false, b0], by simp (decide := true) only [Tr.get_set, if_false, b1]⟩
  rw [seq_step e3]
  -- the book
  generalize hz : (List.replicate 96 AV.nils ++ [(.int .i64 (.ofNat 0))] : List AV) = z
  have hzl : z.length = 97 := by rw [← hz, List.length_append, List.length_replicate]; rfl
  have hz96 : z[96]? = some (.int .i64 (.ofNat 0)) := by
    rw [← hz, List.getElem?_append_right (by rw [List.length_replicate]; exact Nat.le_refl _), List.length_replicate]
    rfl
  have hzb : Nat.beq z.length 97 = true := by rw [hzl]; rfl
  obtain ⟨ρ4, e4, d0, d1, d6⟩ : ∃ ρ4, evCode book3.tbl (vpC 3) vpR (.region [r q19 (.build z []),r q20 (.box 97 t19),r q6 (.mv t20)]) ρ3 σ = some (.norm, ρ4, σ.new (.cells false z)) ∧
      ρ4.get q0 = some A0 ∧ ρ4.get q1 = some A1 ∧ ρ4.get q6 = some (.ptr σ.nx 0) := by
    simp (decide := true) only [evCode_seq, evCode_region, evCode_cond, evCode_drawn, evCode_block, evCode_loop, evCode_skip, evCode_ret, evCode_exit, evOps_op, evOps_nil, evOps_guard, thenG_tt, thenG_ff, thenG_tf, thenG_ft, thenG_un, runOp_guard, thenVG_tt, thenVG_ff, thenVG_tf, thenVG_ft, thenVG_un, evOp, evTmp, evConst, AO.evs, Tr.get_set, Tr.get_lf, val, valO, thenC_norm, thenC_ret, thenC_exit, thenC_pan, onBool_true, onBool_false, thenOp_val, thenOp_pan, thenL_norm, thenL_ret, thenL_exit, thenL_pan, inBlk_norm, inBlk_ret, inBlk_pan, inBlk_exit, evPlan_nil, evPlan_cons, evSt_nil, evSt_cons, evSt_eff, runOp_some, effOp_some, thenV_val, thenE_val, nthR_zero, nthR_succ, eput_some, eput_none, if_true, if_false, Option.getD_some, Option.getD_none, cond_true, cond_false, beq_self_eq_true, fN_k, reduceCtorEq, Nat.beq_refl, Bool.and_self, Bool.and_true, Bool.true_and, Bool.false_and, Bool.and_false, Bool.or_true, Bool.true_or, Bool.or_false, Bool.false_or, Bool.not_true, Bool.not_false, Option.isNone_none, Option.isNone_some, evParts, fillA, AV.cells, hzb, AH.newK_eq]
    exact ⟨_, rfl, by simp (decide := true) only [Tr.get_set, if_false, c0], by simp (decide := true) only [Tr.get_set, if_false, c1], by simp (decide := true) only [Tr.get_set, if_true, if_false]⟩
  rw [seq_step e4]
  have hw1 := hw.new (.cells false z)
  have ro1 : RoKept σ (σ.new (.cells false z)) := RoKept.new (fun _ _ e => e) hw _
  -- the pages
  obtain ⟨ρ5, e5, f0, f1, f6, f7⟩ : ∃ ρ5, evCode book3.tbl (vpC 3) vpR (.region [r q7 (.mv (ci 0))]) ρ4 (σ.new (.cells false z)) = some (.norm, ρ5, σ.new (.cells false z)) ∧
      ρ5.get q0 = some A0 ∧ ρ5.get q1 = some A1 ∧ ρ5.get q6 = some (.ptr σ.nx 0) ∧ ρ5.get q7 = some (.int .i64 (.ofNat 0)) := by
    simp (decide := true) only [evCode_seq, evCode_region, evCode_cond, evCode_drawn, evCode_block, evCode_loop, evCode_skip, evCode_ret, evCode_exit, evOps_op, evOps_nil, evOps_guard, thenG_tt, thenG_ff, thenG_tf, thenG_ft, thenG_un, runOp_guard, thenVG_tt, thenVG_ff, thenVG_tf, thenVG_ft, thenVG_un, evOp, evTmp, evConst, AO.evs, Tr.get_set, Tr.get_lf, val, valO, thenC_norm, thenC_ret, thenC_exit, thenC_pan, onBool_true, onBool_false, thenOp_val, thenOp_pan, thenL_norm, thenL_ret, thenL_exit, thenL_pan, inBlk_norm, inBlk_ret, inBlk_pan, inBlk_exit, evPlan_nil, evPlan_cons, evSt_nil, evSt_cons, evSt_eff, runOp_some, effOp_some, thenV_val, thenE_val, nthR_zero, nthR_succ, eput_some, eput_none, if_true, if_false, Option.getD_some, Option.getD_none, cond_true, cond_false, beq_self_eq_true, fN_k, reduceCtorEq, Nat.beq_refl, Bool.and_self, Bool.and_true, Bool.true_and, Bool.false_and, Bool.and_false, Bool.or_true, Bool.true_or, Bool.or_false, Bool.false_or, Bool.not_true, Bool.not_false, Option.isNone_none, Option.isNone_some]
    exact ⟨_, rfl, by simp (decide := true) only [Tr.get_set, if_false, d0], by simp (decide := true) only [Tr.get_set, if_false, d1], by simp (decide := true) only [Tr.get_set, if_false, d6], by simp (decide := true) only [Tr.get_set, if_true]⟩
  obtain ⟨ρ6, σ6, e6, g0, g6, hw6, hB6, ro6⟩ := vp_loop1 (tbl := book3.tbl) (rounds := vpR) hc20 (A0 := A0) (A1 := A1) (nb := nb) (bk := σ.nx) vpR ρ5 (σ.new (.cells false z)) 0 f0 f1 f6 f7 hw1
    ⟨z, get_new_same _ _, hzl, hz96, fun j hj => by omega⟩ (h1.kept ro1) (by omega) (by decide)
  have e56 : evCode book3.tbl (vpC 3) vpR (.seq (.region [r q7 (.mv (ci 0))]) (.block 0 (.loop vpL1))) ρ4 (σ.new (.cells false z)) = some (.norm, ρ6, σ6) := by
    rw [seq_step e5, evCode_block, evCode_loop, e6, inBlk_exit]
  rw [seq_step e56]
  have hI6 := (h0.kept ro1).kept ro6
  -- the snapshot
  generalize hs : ([(.str [])] ++ [(.int .i64 (.ofNat 0))] ++ [(.bool false)] ++ List.replicate 32 (.int .i64 (.ofNat 0)) : List AV) = S0
  have hS0 : SnapOK S0 := by
    refine ⟨by rw [← hs, List.length_append, List.length_replicate]; rfl, fun no hno => ⟨0, ?_, .inl rfl⟩⟩
    rw [← hs, List.getElem?_append_right (by simp)]
    simp only [List.length_append, List.length_singleton, Nat.reduceAdd, Nat.add_sub_cancel_left]
    rw [List.getElem?_replicate, if_pos hno]
  obtain ⟨ρ7, e7, i0, i6, i9⟩ : ∃ ρ7, evCode book3.tbl (vpC 3) vpR (.region [r q9 (.alloc S0)]) ρ6 σ6 = some (.norm, ρ7, σ6.new (.cells false S0)) ∧ ρ7.get q0 = some A0 ∧ ρ7.get q6 = some (.ptr σ.nx 0) ∧ ρ7.get q9 = some (.ptr σ6.nx 0) := by
    simp (decide := true) only [evCode_seq, evCode_region, evCode_cond, evCode_drawn, evCode_block, evCode_loop, evCode_skip, evCode_ret, evCode_exit, evOps_op, evOps_nil, evOps_guard, thenG_tt, thenG_ff, thenG_tf, thenG_ft, thenG_un, runOp_guard, thenVG_tt, thenVG_ff, thenVG_tf, thenVG_ft, thenVG_un, evOp, evTmp, evConst, AO.evs, Tr.get_set, Tr.get_lf, val, valO, thenC_norm, thenC_ret, thenC_exit, thenC_pan, onBool_true, onBool_false, thenOp_val, thenOp_pan, thenL_norm, thenL_ret, thenL_exit, thenL_pan, inBlk_norm, inBlk_ret, inBlk_pan, inBlk_exit, evPlan_nil, evPlan_cons, evSt_nil, evSt_cons, evSt_eff, runOp_some, effOp_some, thenV_val, thenE_val, nthR_zero, nthR_succ, eput_some, eput_none, if_true, if_false, Option.getD_some, Option.getD_none, cond_true, cond_false, beq_self_eq_true, fN_k, reduceCtorEq, Nat.beq_refl, Bool.and_self, Bool.and_true, Bool.true_and, Bool.false_and, Bool.and_false, Bool.or_true, Bool.true_or, Bool.or_false, Bool.false_or, Bool.not_true, Bool.not_false, Option.isNone_none, Option.isNone_some, AH.newK_eq]
    exact ⟨_, rfl, by simp (decide := true) only [Tr.get_set, if_false, g0], by simp (decide := true) only [Tr.get_set, if_false, g6], by simp (decide := true) only [Tr.get_set, if_true]⟩
  rw [seq_step e7]
  have hw7 := hw6.new (.cells false S0)
  have hB7 := hB6.new hw6 (.cells false S0)
  obtain ⟨ρ8, e8, j0, j6, j9, j10⟩ : ∃ ρ8, evCode book3.tbl (vpC 3) vpR (.region [r q10 (.mv (ci 0))]) ρ7 (σ6.new (.cells false S0)) = some (.norm, ρ8, σ6.new (.cells false S0)) ∧
      ρ8.get q0 = some A0 ∧ ρ8.get q6 = some (.ptr σ.nx 0) ∧ ρ8.get q9 = some (.ptr σ6.nx 0) ∧ ρ8.get q10 = some (.int .i64 (.ofNat 0)) := by
    simp (decide := true) only [evCode_seq, evCode_region, evCode_cond, evCode_drawn, evCode_block, evCode_loop, evCode_skip, evCode_ret, evCode_exit, evOps_op, evOps_nil, evOps_guard, thenG_tt, thenG_ff, thenG_tf, thenG_ft, thenG_un, runOp_guard, thenVG_tt, thenVG_ff, thenVG_tf, thenVG_ft, thenVG_un, evOp, evTmp, evConst, AO.evs, Tr.get_set, Tr.get_lf, val, valO, thenC_norm, thenC_ret, thenC_exit, thenC_pan, onBool_true, onBool_false, thenOp_val, thenOp_pan, thenL_norm, thenL_ret, thenL_exit, thenL_pan, inBlk_norm, inBlk_ret, inBlk_pan, inBlk_exit, evPlan_nil, evPlan_cons, evSt_nil, evSt_cons, evSt_eff, runOp_some, effOp_some, thenV_val, thenE_val, nthR_zero, nthR_succ, eput_some, eput_none, if_true, if_false, Option.getD_some, Option.getD_none, cond_true, cond_false, beq_self_eq_true, fN_k, reduceCtorEq, Nat.beq_refl, Bool.and_self, Bool.and_true, Bool.true_and, Bool.false_and, Bool.and_false, Bool.or_true, Bool.true_or, Bool.or_false, Bool.false_or, Bool.not_true, Bool.not_false, Option.isNone_none, Option.isNone_some]
    exact ⟨_, rfl, by simp (decide := true) only [Tr.get_set, if_false, i0], by simp (decide := true) only [Tr.get_set, if_false, i6], by simp (decide := true) only [Tr.get_set, if_false, i9], by simp (decide := true) only [Tr.get_set, if_true]⟩
  obtain ⟨ρ9, S, e9, k6, k9, hS⟩ := vp_loop2 (tbl := book3.tbl) (call := vpC 3) (rounds := vpR) (A0 := A0) (n := n) (bk := σ.nx) (sb := σ6.nx) vpR ρ8 (σ6.new (.cells false S0)) 0 S0 j0 j6 j9 j10
    (hI6.kept (RoKept.new (fun _ _ e => e) hw6 _)) (get_new_same _ _) hS0 (by omega) (by decide)
  have e89 : evCode book3.tbl (vpC 3) vpR (.seq (.region [r q10 (.mv (ci 0))]) (.block 2 (.loop vpL2))) ρ7 (σ6.new (.cells false S0)) = some (.norm, ρ9, σ6.new (.cells false S)) := by
    rw [seq_step e8, evCode_block, evCode_loop, e9, inBlk_exit, AH.new_put]
  rw [seq_step e89]
  have hw9 := hw6.new (.cells false S)
  have hB9 := hB6.new hw6 (.cells false S)
  -- the view
  have lS : (σ6.new (.cells false S)).load σ6.nx 0 35 = some S := load_all (get_new_same _ _) hS.len
  have hc := hc21 (σ := σ6.new (.cells false S)) (bk := σ.nx) hS.len
  obtain ⟨ρ10, e10, l6, l9, l11⟩ : ∃ ρ10, evCode book3.tbl (vpC 3) vpR (.region [r q71 (.mv t6),r q72 (.mkI 26 t71),r q73 (.loadN 35 t9),r q74 (.callF q21 [t72,t73]),r q11 (.mv t74)]) ρ9 (σ6.new (.cells false S)) =
      some (.norm, ρ10, ((σ6.new (.cells false S)).new (.cells false S)).new (.cells false (.ifc 26 (.ptr σ.nx 0) :: S))) ∧ ρ10.get q6 = some (.ptr σ.nx 0) ∧ ρ10.get q9 = some (.ptr σ6.nx 0) ∧ ρ10.get q11 = some (.ptr (σ6.new (.cells false S)).nx.succ 0) := by
    simp (decide := true) only [evCode_seq, evCode_region, evCode_cond, evCode_drawn, evCode_block, evCode_loop, evCode_skip, evCode_ret, evCode_exit, evOps_op, evOps_nil, evOps_guard, thenG_tt, thenG_ff, thenG_tf, thenG_ft, thenG_un, runOp_guard, thenVG_tt, thenVG_ff, thenVG_tf, thenVG_ft, thenVG_un, evOp, evTmp, evConst, AO.evs, Tr.get_set, Tr.get_lf, val, valO, thenC_norm, thenC_ret, thenC_exit, thenC_pan, onBool_true, onBool_false, thenOp_val, thenOp_pan, thenL_norm, thenL_ret, thenL_exit, thenL_pan, inBlk_norm, inBlk_ret, inBlk_pan, inBlk_exit, evPlan_nil, evPlan_cons, evSt_nil, evSt_cons, evSt_eff, runOp_some, effOp_some, thenV_val, thenE_val, nthR_zero, nthR_succ, eput_some, eput_none, if_true, if_false, Option.getD_some, Option.getD_none, cond_true, cond_false, beq_self_eq_true, fN_k, reduceCtorEq, Nat.beq_refl, Bool.and_self, Bool.and_true, Bool.true_and, Bool.false_and, Bool.and_false, Bool.or_true, Bool.true_or, Bool.or_false, Bool.false_or, Bool.not_true, Bool.not_false, Option.isNone_none, Option.isNone_some, k6, k9, lS, hc]
    exact ⟨_, rfl, by simp (decide := true) only [Tr.get_set, if_false, k6], by simp (decide := true) only [Tr.get_set, if_false, k9], by simp (decide := true) only [Tr.get_set, if_true]⟩
  rw [seq_step e10]
  have hw10 := (hw9.new (.cells false S)).new (.cells false (.ifc 26 (.ptr σ.nx 0) :: S))
  have hB10 := (hB9.new hw9 (.cells false S)).new (hw9.new _) (.cells false (.ifc 26 (.ptr σ.nx 0) :: S))
  have hS10 := (hw9.new (.cells false S)).get_new (hw9.get_new (get_new_same σ6 (.cells false S)) (.cells false S)) (.cells false (.ifc 26 (.ptr σ.nx 0) :: S))
  have hV10 := get_new_same ((σ6.new (.cells false S)).new (.cells false S)) (.cells false (.ifc 26 (.ptr σ.nx 0) :: S))
  obtain ⟨ρ11, e11, m6, m9, m11, m12⟩ : ∃ ρ11, evCode book3.tbl (vpC 3) vpR (.region [r q12 (.mv (.const (.int .i64 (.negSucc 0))))]) ρ10 (((σ6.new (.cells false S)).new (.cells false S)).new (.cells false (.ifc 26 (.ptr σ.nx 0) :: S))) =
      some (.norm, ρ11, ((σ6.new (.cells false S)).new (.cells false S)).new (.cells false (.ifc 26 (.ptr σ.nx 0) :: S))) ∧ ρ11.get q6 = some (.ptr σ.nx 0) ∧ ρ11.get q9 = some (.ptr σ6.nx 0) ∧ ρ11.get q11 = some (.ptr (σ6.new (.cells false S)).nx.succ 0) ∧
      ρ11.get q12 = some (.int .i64 (-1)) := by
    simp (decide := true) only [evCode_seq, evCode_region, evCode_cond, evCode_drawn, evCode_block, evCode_loop, evCode_skip, evCode_ret, evCode_exit, evOps_op, evOps_nil, evOps_guard, thenG_tt, thenG_ff, thenG_tf, thenG_ft, thenG_un, runOp_guard, thenVG_tt, thenVG_ff, thenVG_tf, thenVG_ft, thenVG_un, evOp, evTmp, evConst, AO.evs, Tr.get_set, Tr.get_lf, val, valO, thenC_norm, thenC_ret, thenC_exit, thenC_pan, onBool_true, onBool_false, thenOp_val, thenOp_pan, thenL_norm, thenL_ret, thenL_exit, thenL_pan, inBlk_norm, inBlk_ret, inBlk_pan, inBlk_exit, evPlan_nil, evPlan_cons, evSt_nil, evSt_cons, evSt_eff, runOp_some, effOp_some, thenV_val, thenE_val, nthR_zero, nthR_succ, eput_some, eput_none, if_true, if_false, Option.getD_some, Option.getD_none, cond_true, cond_false, beq_self_eq_true, fN_k, reduceCtorEq, Nat.beq_refl, Bool.and_self, Bool.and_true, Bool.true_and, Bool.false_and, Bool.and_false, Bool.or_true, Bool.true_or, Bool.or_false, Bool.false_or, Bool.not_true, Bool.not_false, Option.isNone_none, Option.isNone_some]
    exact ⟨_, rfl, by simp (decide := true) only [Tr.get_set, if_false, l6], by simp (decide := true) only [Tr.get_set, if_false, l9], by simp (decide := true) only [Tr.get_set, if_false, l11], by simp (decide := true) only [Tr.get_set, if_true]; rfl⟩
  obtain ⟨ρ12, σ12, e12⟩ := vp_loop3 (tbl := book3.tbl) (rounds := vpR) hcr hcp (bk := σ.nx) (sb := σ6.nx) (vb := (σ6.new (.cells false S)).nx.succ) hS vpR ρ11 _ (-1) m6 m9 m11 m12 hw10 hB10 hS10 hV10 (by omega) (by omega) (by decide)
  have e112 : evCode book3.tbl (vpC 3) vpR (.seq (.region [r q12 (.mv (.const (.int .i64 (.negSucc 0))))]) (.block 4 (.loop vpL3))) ρ10 (((σ6.new (.cells false S)).new (.cells false S)).new (.cells false (.ifc 26 (.ptr σ.nx 0) :: S))) = some (.norm, ρ12, σ12) := by
    rw [seq_step e11, evCode_block, evCode_loop, e12, inBlk_exit]
  rw [seq_step e112]
  refine ⟨σ12, ?_⟩
  have hres : fn4.results = [.tmp q4] := rfl
  rw [hres]
  simp (decide := true) only [evCode_seq, evCode_region, evCode_cond, evCode_drawn, evCode_block, evCode_loop, evCode_skip, evCode_ret, evCode_exit, evOps_op, evOps_nil, evOps_guard, thenG_tt, thenG_ff, thenG_tf, thenG_ft, thenG_un, runOp_guard, thenVG_tt, thenVG_ff, thenVG_tf, thenVG_ft, thenVG_un, evOp, evTmp, evConst, AO.evs, Tr.get_set, Tr.get_lf, val, valO, thenC_norm, thenC_ret, thenC_exit, thenC_pan, onBool_true, onBool_false, thenOp_val, thenOp_pan, thenL_norm, thenL_ret, thenL_exit, thenL_pan, inBlk_norm, inBlk_ret, inBlk_pan, inBlk_exit, evPlan_nil, evPlan_cons, evSt_nil, evSt_cons, evSt_eff, runOp_some, effOp_some, thenV_val, thenE_val, nthR_zero, nthR_succ, eput_some, eput_none, if_true, if_false, Option.getD_some, Option.getD_none, cond_true, cond_false, beq_self_eq_true, fN_k, reduceCtorEq, Nat.beq_refl, Bool.and_self, Bool.and_true, Bool.true_and, Bool.false_and, Bool.and_false, Bool.or_true, Bool.true_or, Bool.or_false, Bool.false_or, Bool.not_true, Bool.not_false, Option.isNone_none, Option.isNone_some, fnEnd, evRes, packRes]

end Go.Proofs.YtgaoddafkjdecaaGreat.EV
