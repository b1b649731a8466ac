/-
  EV, part X4: what the parts of slices.Insert (at cells) do, by the evaluator. Own work of this claim.
-/
import Derived.Test.YtgaoddafkjdecaaGreatEvX3
set_option linter.unusedVariables false
set_option linter.unusedSimpArgs false
namespace Go.Proofs.YtgaoddafkjdecaaGreat.EV

noncomputable def thenS (tbl : Disp) (call : Call) (rounds : Nat) (l : List ACode) : Res → Res
  | some (.norm, ρ, σ) => evSeq tbl call rounds l ρ σ
  | r => r
section
variable {tbl : Disp} {call : Call} {ρ : Env} {σ : AH} {rounds : Nat}
theorem thenS_norm (l : List ACode) (ρ : Env) (σ : AH) : thenS tbl call rounds l (some (.norm, ρ, σ)) = evSeq tbl call rounds l ρ σ := rfl
theorem thenS_ret (l : List ACode) (ρ : Env) (σ : AH) : thenS tbl call rounds l (some (.ret, ρ, σ)) = some (.ret, ρ, σ) := rfl
theorem evSeq_nil : evSeq tbl call rounds [] ρ σ = some (.norm, ρ, σ) := rfl
theorem evSeq_cons (c : ACode) (l : List ACode) : evSeq tbl call rounds (c :: l) ρ σ = thenS tbl call rounds l (evCode tbl call rounds c ρ σ) := by
  simp only [evSeq]
  split
  · rename_i h; rw [h]; rfl
  · rename_i h
    cases hr : evCode tbl call rounds c ρ σ with
    | none => rfl
    | some x =>
      obtain ⟨x, ρ1, σ1⟩ := x
      cases x with
      | norm => exact absurd hr (h _ _)
      | _ => rfl
end

theorem rotR_sound {tbl : Disp} {call : Call} {rounds : Nat} {b : Pos} {o n m k : Nat} {σ σ' : AH} (hm : m ≤ n) (hn : n ≤ 1000000000000)
    (hc : call q181 [.slc b o n (.known k), .int .i64 (.ofNat (n - m))] σ = some (.val unA, σ')) :
    evFn tbl call rounds fn156 [.slc b o n (.known k), .int .i64 (.ofNat m)] σ = some (.val unA, σ') := by
  rw [evFn_eq _ _ rfl]
  have c1 : wrF .i64 (Int.ofNat n - Int.ofNat m) = .ofNat (n - m) := by rw [wrF_i64] <;> simp only [Int.ofNat_eq_natCast] <;> omega
  simp (decide := true) only [fn156, evCode_seq, evCode_region, evCode_cond, evCode_drawn, evCode_block, evCode_loop, evCode_skip, evCode_ret, evCode_exit, evOps_op, evOps_nil, evOps_guard, thenG_tt, thenG_ff, thenG_tf, thenG_ft, thenG_un, runOp_guard, thenVG_tt, thenVG_ff, thenVG_tf, thenVG_ft, thenVG_un, evOp, evTmp, evConst, AO.evs, Tr.get_set, Tr.get_lf, val, valO, thenC_norm, thenC_ret, thenC_exit, thenC_pan, onBool_true, onBool_false, thenOp_val, thenOp_pan, thenL_norm, thenL_ret, thenL_exit, thenL_pan, inBlk_norm, inBlk_ret, inBlk_pan, inBlk_exit, evPlan_nil, evPlan_cons, evSt_nil, evSt_cons, evSt_eff, runOp_some, effOp_some, thenV_val, thenE_val, nthR_zero, nthR_succ, eput_some, eput_none, if_true, if_false, Option.getD_some, Option.getD_none, cond_true, cond_false, beq_self_eq_true, fN_k, reduceCtorEq, Nat.beq_refl, Bool.and_self, Bool.and_true, Bool.true_and, Bool.false_and, Bool.and_false, Bool.or_true, Bool.true_or, Bool.or_false, Bool.false_or, Bool.not_true, Bool.not_false, Option.isNone_none, Option.isNone_some, envOf, evBin, outI, fI_eq, c1, hc, fnEnd, evRes, packRes]
  rfl

/-- slices.Insert's compiled parts: up to the test of overlap -/
def inL : List ACode := [
  .region [r q6 (.mv (.const .nils))],
  .region [r q10 (.mv t0),r q11 (.mv t1),r q12 (.slice (.slc 8) t10 (some t11) none none)],
  .region [r q13 (.mv t2),r q14 (.len 1 t13),r q7 (.mv t14)],
  .seq (.region [r q15 (.mv t7),r q16 (.bin .eql t15 (ci 0))]) (.cond t16 (.seq (.region [r q17 (.mv t0),r q6 (.mv t17)]) (.ret)) (.skip)),
  .region [r q18 (.mv t0),r q19 (.len 1 t18),r q8 (.mv t19)],
  .seq (.region [r q20 (.mv t1),r q21 (.mv t8),r q22 (.bin .eql t20 t21)]) (.cond t22 (.seq (.region [r q23 (.mv t0),r q24 (.mv t2),r q25 (.append 8 88 t23 t24),r q6 (.mv t25)]) (.ret)) (.skip)),
  .seq (.region [r q26 (.mv t8),r q27 (.mv t7),r q28 (.bin .add t26 t27),r q29 (.mv t0),r q30 (.cap t29),r q31 (.bin .gtr t28 t30)])
    (.cond t31 (.seq (.region [r q32 (.mv t0),r q33 (.mv t1),r q34 (.slice (.slc 8) t32 none (some t33) none),r q35 (.mv t8),r q36 (.mv t7),r q37 (.bin .add t35 t36),r q38 (.mv t1),r q39 (.bin .sub t37 t38),
        r q40 (.appendZ 8 88 [(.str []),(.int .i64 (.ofNat 0)),(.flt 0),(.str []),(.int .i64 (.ofNat 0)),(.int .i64 (.ofNat 0)),(.flt 0),(.str [])] t34 t39),r q9 (.mv t40)])
      (.seq (.region [r q41 (.mv t9),r q42 (.mv t1),r q43 (.slice (.slc 8) t41 (some t42) none none),r q44 (.mv t2),r q45 (.copy 8 t43 t44)])
      (.seq (.drawn [r q46 (.mv t9),r q47 (.mv t1),r q48 (.mv t7),r q49 (.bin .add t47 t48),r q50 (.slice (.slc 8) t46 (some t49) none none),r q51 (.mv t0),r q52 (.mv t1),r q53 (.slice (.slc 8) t51 (some t52) none none),r q54 (.copy 8 t50 t53)]
        [⟨[], [0, 1, 2, 3, 4, 5, 6, 7], some 8⟩,⟨[], [], none⟩])
      (.seq (.region [r q55 (.mv t9),r q6 (.mv t55)]) (.ret))))) (.skip)),
  .region [r q56 (.mv t0),r q57 (.mv t8),r q58 (.mv t7),r q59 (.bin .add t57 t58),r q60 (.slice (.slc 8) t56 none (some t59) none),r q0 (.mv t60)]]
def inR6 : List ROp := [r q61 (.mv t2),r q62 (.mv t0),r q63 (.mv t1),r q64 (.mv t7),r q65 (.bin .add t63 t64),r q66 (.slice (.slc 8) t62 (some t65) none none)]
def inR1 : List ROp := [r q68 (.un .not t67)]
def inT : List ACode := [
  .cond t68 (.seq (.drawn [r q69 (.mv t0),r q70 (.mv t1),r q71 (.mv t7),r q72 (.bin .add t70 t71),r q73 (.slice (.slc 8) t69 (some t72) none none),r q74 (.mv t0),r q75 (.mv t1),r q76 (.slice (.slc 8) t74 (some t75) none none),r q77 (.copy 8 t73 t76)]
      [⟨[], [0, 1, 2, 3, 4, 5, 6, 7], some 8⟩,⟨[], [], none⟩])
    (.seq (.region [r q78 (.mv t0),r q79 (.mv t1),r q80 (.slice (.slc 8) t78 (some t79) none none),r q81 (.mv t2),r q82 (.copy 8 t80 t81)])
    (.seq (.region [r q83 (.mv t0),r q6 (.mv t83)]) (.ret)))) (.skip),
  .region [r q84 (.mv t0),r q85 (.mv t8),r q86 (.slice (.slc 8) t84 (some t85) none none),r q87 (.mv t2),r q88 (.copy 8 t86 t87)],
  .region [r q89 (.mv t0),r q90 (.mv t1),r q91 (.slice (.slc 8) t89 (some t90) none none),r q92 (.mv t7),r q93 (.callF q156 [t91,t92])],
  .region [r q94 (.mv t0),r q6 (.mv t94)]]

section
variable {tbl : Disp} {call : Call} {rounds : Nat} {σ : AH} {b b2 : Pos} {o n m i k o2 : Nat} {c2 : Cap} {vs L : List AV}

def zrow : List AV := [(.str []),(.int .i64 (.ofNat 0)),(.flt 0),(.str []),(.int .i64 (.ofNat 0)),(.int .i64 (.ofNat 0)),(.flt 0),(.str [])]

theorem AH.new_put (σ : AH) (x y : AB) : (σ.new x).put σ.nx (some y) = σ.new y := by
  unfold AH.put AH.new
  simp only [Tr.set_set]
theorem load_new {σ : AH} {b : Pos} {o n : Nat} {x : AB} (h : b ≠ σ.nx) : (σ.new x).load b o n = σ.load b o n := by
  simp only [AH.load, AH.get_new, if_neg h]
theorem store_flat {σ : AH} {b : Pos} {L L' vs : List AV} {o : Nat} (hg : σ.get b = some (.cells false L)) (h : lput o vs L = some L') {β : Type} (k : AH → Option β) :
    σ.storeK b o vs k = k (σ.put b (some (.cells false L'))) := by
  simp only [AH.storeK, hg, h, AH.setK_eq]
theorem load_flat {σ : AH} {b : Pos} {ro : Bool} {L l : List AV} {o n : Nat} (hg : σ.get b = some (.cells ro L)) (h : ltake n (ldrop o L) = some l) : σ.load b o n = some l := by
  simp only [AH.load, hg, h]
theorem get_new_same (σ : AH) (x : AB) : (σ.new x).get σ.nx = some x := by rw [AH.get_new, if_pos rfl]
theorem okVals_app : ∀ (a b : List AV), okVals (a ++ b) = (okVals a && okVals b)
  | [], b => by simp [okVals]
  | x :: a, b => by simp [okVals, okVals_app a b, Bool.and_assoc]
theorem okVals_flat {es : List (List AV)} (h : ∀ e ∈ es, okVals e = true) : okVals es.flatten = true := by
  induction es with
  | nil => rfl
  | cons e es ih => rw [List.flatten_cons, okVals_app, h e (by simp), ih fun x hx => h x (by simp [hx])]; rfl

/-- behind all that is there -/
theorem in_end {out : AV} {σ' : AH} (hm : 0 < m) (hsm : small (n + m) 88 = true) (hl : σ.load b2 o2 (m * 8) = some vs)
    (ha : appendCells 8 (.slc b o n (.opn 8)) m vs σ = some (.val out, σ')) :
    ∃ ρ', evSeq tbl call rounds inL (envOf 0 .lf [.slc b o n (.opn 8), .int .i64 (.ofNat n), .slc b2 o2 m c2]) σ = some (.ret, ρ', σ') ∧ ρ'.get q6 = some out := by
  have h0 : ieq (Int.ofNat m) (Int.ofNat 0) = false := by rw [ieq_eq]; simp; omega
  have h1 : ieq (Int.ofNat n) (Int.ofNat n) = true := by rw [ieq_eq]; simp
  simp (decide := true) only [inL, evSeq_cons, thenS_norm, thenS_ret, evCode_seq, evCode_region, evCode_cond, evCode_drawn, evCode_block, evCode_loop, evCode_skip, evCode_ret, evCode_exit, evOps_op, evOps_nil, evOps_guard, thenG_tt, thenG_ff, thenG_tf, thenG_ft, thenG_un, runOp_guard, thenVG_tt, thenVG_ff, thenVG_tf, thenVG_ft, thenVG_un, evOp, evTmp, evConst, AO.evs, Tr.get_set, Tr.get_lf, val, valO, thenC_norm, thenC_ret, thenC_exit, thenC_pan, onBool_true, onBool_false, thenOp_val, thenOp_pan, thenL_norm, thenL_ret, thenL_exit, thenL_pan, inBlk_norm, inBlk_ret, inBlk_pan, inBlk_exit, evPlan_nil, evPlan_cons, evSt_nil, evSt_cons, evSt_eff, runOp_some, effOp_some, thenV_val, thenE_val, nthR_zero, nthR_succ, eput_some, eput_none, if_true, if_false, Option.getD_some, Option.getD_none, cond_true, cond_false, beq_self_eq_true, fN_k, reduceCtorEq, Nat.beq_refl, Bool.and_self, Bool.and_true, Bool.true_and, Bool.false_and, Bool.and_false, Bool.or_true, Bool.true_or, Bool.or_false, Bool.false_or, Bool.not_true, Bool.not_false, Option.isNone_none, Option.isNone_some, envOf, evBin, evSlice, evBd, evIx, ble_true (Nat.le_refl n), Bool.true_and, Bool.true_or, h0, h1, lenOf, srcCells, hsm, hl, ha]
  exact ⟨_, rfl, by simp (decide := true) only [Tr.get_set, if_true, if_false]⟩

theorem in_end_nil (hm : 0 < m) (hsm : small (0 + m) 88 = true) (hl : σ.load b2 o2 (m * 8) = some vs) :
    ∃ ρ', evSeq tbl call rounds inL (envOf 0 .lf [.nils, .int .i64 (.ofNat 0), .slc b2 o2 m c2]) σ = some (.ret, ρ', σ.new (.cells false vs)) ∧ ρ'.get q6 = some (.slc σ.nx 0 m (.opn 8)) := by
  have h0 : ieq (Int.ofNat m) (Int.ofNat 0) = false := by rw [ieq_eq]; simp; omega
  have h1 : ieq (Int.ofNat 0) 0 = true := rfl
  simp (decide := true) only [inL, evSeq_cons, thenS_norm, thenS_ret, evCode_seq, evCode_region, evCode_cond, evCode_drawn, evCode_block, evCode_loop, evCode_skip, evCode_ret, evCode_exit, evOps_op, evOps_nil, evOps_guard, thenG_tt, thenG_ff, thenG_tf, thenG_ft, thenG_un, runOp_guard, thenVG_tt, thenVG_ff, thenVG_tf, thenVG_ft, thenVG_un, evOp, evTmp, evConst, AO.evs, Tr.get_set, Tr.get_lf, val, valO, thenC_norm, thenC_ret, thenC_exit, thenC_pan, onBool_true, onBool_false, thenOp_val, thenOp_pan, thenL_norm, thenL_ret, thenL_exit, thenL_pan, inBlk_norm, inBlk_ret, inBlk_pan, inBlk_exit, evPlan_nil, evPlan_cons, evSt_nil, evSt_cons, evSt_eff, runOp_some, effOp_some, thenV_val, thenE_val, nthR_zero, nthR_succ, eput_some, eput_none, if_true, if_false, Option.getD_some, Option.getD_none, cond_true, cond_false, beq_self_eq_true, fN_k, reduceCtorEq, Nat.beq_refl, Bool.and_self, Bool.and_true, Bool.true_and, Bool.false_and, Bool.and_false, Bool.or_true, Bool.true_or, Bool.or_false, Bool.false_or, Bool.not_true, Bool.not_false, Option.isNone_none, Option.isNone_some, envOf, evBin, evSlice, evBd, evIx, Nat.beq_refl, Bool.and_self, h0, h1, lenOf, srcCells, hsm, hl, appendCells, beq_false (show m ≠ 0 by omega), newOpen, AH.newK_eq]
  exact ⟨_, rfl, by simp (decide := true) only [Tr.get_set, if_true, if_false]⟩

/-- no room -/
theorem in_grow {pre post : List AV} {A B V : List (List AV)} (hm : 0 < m) (hin : i < n) (hk : n ≤ k) (hg : k < n + m) (hsz : n + m ≤ 1000000000) (hsm : small (n + m) 88 = true)
    (hb : σ.get b = some (.cells false (rows pre (A ++ B) post))) (ho : pre.length = o) (hA : A.length = i) (hB : A.length + B.length = n) (hl : σ.load b2 o2 (m * 8) = some V.flatten)
    (h2 : ∀ e ∈ A ++ B, e.length = 8) (h3 : ∀ e ∈ A ++ B, okVals e = true) (hV : V.length = m) (v2 : ∀ e ∈ V, e.length = 8) (v3 : okVals V.flatten = true) (hbn : b ≠ σ.nx) (hbn2 : b2 ≠ σ.nx) :
    ∃ ρ', evSeq tbl call rounds inL (envOf 0 .lf [.slc b o n (.known k), .int .i64 (.ofNat i), .slc b2 o2 m c2]) σ = some (.ret, ρ', σ.new (.cells false (A ++ (V ++ B)).flatten)) ∧
      ρ'.get q6 = some (.slc σ.nx 0 (n + m) (.opn 8)) := by
  subst ho
  have hA2 : ∀ e ∈ A, e.length = 8 := fun e he => h2 e (by simp [he])
  have hB2 : ∀ e ∈ B, e.length = 8 := fun e he => h2 e (by simp [he])
  have h0 : ieq (Int.ofNat m) (Int.ofNat 0) = false := by rw [ieq_eq]; simp; omega
  have h1 : ieq (Int.ofNat i) (Int.ofNat n) = false := by rw [ieq_eq]; simp; omega
  have c1 : wrF .i64 (Int.ofNat n + Int.ofNat m) = .ofNat (n + m) := by rw [wrF_i64] <;> simp only [Int.ofNat_eq_natCast] <;> omega
  have c3 : wrF .i64 (Int.ofNat i + Int.ofNat m) = .ofNat (i + m) := by rw [wrF_i64] <;> simp only [Int.ofNat_eq_natCast] <;> omega
  have c4 : wrF .i64 (Int.ofNat (n + m) - Int.ofNat i) = .ofNat (n + m - i) := by rw [wrF_i64] <;> simp only [Int.ofNat_eq_natCast] <;> omega
  have c5 : ilt (Int.ofNat k) (Int.ofNat (n + m)) = true := by rw [ilt_eq]; simp only [Int.ofNat_eq_natCast, decide_eq_true_eq]; omega
  have z1 : ∀ e ∈ List.replicate (n + m - i) zrow, e.length = 8 := fun e he => by rw [List.eq_of_mem_replicate he]; rfl
  have eA : σ.load b pre.length (i * 8) = some A.flatten := by
    have := rows_take (pre := pre) (post := post) (i := 0) (m := i) h2 (by simp; omega)
    simp only [AH.load, hb]
    simpa [← hA] using this
  have hsum : i + (n + m - i) = n + m := by omega
  have e0 : Nat.beq k 0 = false := beq_false (by omega)
  have b1 : Nat.ble (n + m) k = false := ble_false hg
  have zl : Nat.beq [(.str [] : AV),(.int .i64 (.ofNat 0)),(.flt 0),(.str []),(.int .i64 (.ofNat 0)),(.int .i64 (.ofNat 0)),(.flt 0),(.str [])].length 8 = true := rfl
  have hz : ∀ e ∈ A ++ List.replicate (n + m - i) zrow, e.length = 8 := fun e he => (List.mem_append.1 he).elim (hA2 e) (z1 e)
  have hz2 : ∀ e ∈ A ++ (V ++ List.replicate (n - i) zrow), e.length = 8 := fun e he => by
    rcases List.mem_append.1 he with h | h
    · exact hA2 e h
    · rcases List.mem_append.1 h with h | h
      · exact v2 e h
      · rw [List.eq_of_mem_replicate h]; rfl
  have f1 : ∀ x, (σ.new x).load b2 o2 (m * 8) = some V.flatten := fun x => by rw [load_new hbn2, hl]
  have p1 : lput (i * 8) V.flatten (A.flatten ++ (List.replicate (n + m - i) zrow).flatten) = some (A ++ (V ++ List.replicate (n - i) zrow)).flatten := by
    have := rows_put (pre := []) (post := []) (vs := V) (i := i) hz v2 (by simp; omega)
    simp only [rows, List.length_nil, Nat.zero_add, List.nil_append, List.append_nil, List.flatten_append] at this
    rw [this]
    congr 1
    rw [List.take_append_of_le_length (by omega), List.take_of_length_le (by omega), List.drop_append, List.drop_of_length_le (by omega), List.drop_replicate, show n + m - i - (i + V.length - A.length) = n - i by omega]
    simp
  have f2 : ∀ k, (σ.new (.cells false (A.flatten ++ (List.replicate (n + m - i) zrow).flatten))).storeK (β := Out × AH) σ.nx (i * 8) V.flatten k = k (σ.new (.cells false (A ++ (V ++ List.replicate (n - i) zrow)).flatten)) := fun k => by
    rw [store_flat (get_new_same _ _) p1, AH.new_put]
  have f4 : ∀ x, (σ.new x).load b (pre.length + i * 8) ((n - i) * 8) = some B.flatten := fun x => by
    rw [load_new hbn, load_flat hb (rows_take h2 (by simp; omega)), List.drop_append, List.drop_of_length_le (by omega), show i - A.length = 0 by omega, List.drop_zero, List.nil_append, List.take_of_length_le (by omega)]
  have p2 : lput ((i + m) * 8) B.flatten ((A ++ (V ++ List.replicate (n - i) zrow)).flatten) = some (A ++ (V ++ B)).flatten := by
    have := rows_put (pre := []) (post := []) (vs := B) (i := i + m) hz2 hB2 (by simp; omega)
    simp only [rows, List.length_nil, Nat.zero_add, List.nil_append, List.append_nil] at this
    rw [this]
    congr 1
    rw [← List.append_assoc A V, List.take_append_of_le_length (by simp; omega), List.take_of_length_le (by simp; omega), List.drop_of_length_le (by simp; omega)]
    simp
  have f5 : ∀ k, (σ.new (.cells false (A ++ (V ++ List.replicate (n - i) zrow)).flatten)).storeK (β := Out × AH) σ.nx ((i + m) * 8) B.flatten k = k (σ.new (.cells false (A ++ (V ++ B)).flatten)) := fun k => by
    rw [store_flat (get_new_same _ _) p2, AH.new_put]
  have e1 : Nat.beq k i = false := beq_false (by omega)
  have hsub : n + m - (i + m) = n - i := by omega
  unfold zrow at f2 f5
  simp (decide := true) only [inL, evSeq_cons, thenS_norm, thenS_ret, evCode_seq, evCode_region, evCode_cond, evCode_drawn, evCode_block, evCode_loop, evCode_skip, evCode_ret, evCode_exit, evOps_op, evOps_nil, evOps_guard, thenG_tt, thenG_ff, thenG_tf, thenG_ft, thenG_un, runOp_guard, thenVG_tt, thenVG_ff, thenVG_tf, thenVG_ft, thenVG_un, evOp, evTmp, evConst, AO.evs, Tr.get_set, Tr.get_lf, val, valO, thenC_norm, thenC_ret, thenC_exit, thenC_pan, onBool_true, onBool_false, thenOp_val, thenOp_pan, thenL_norm, thenL_ret, thenL_exit, thenL_pan, inBlk_norm, inBlk_ret, inBlk_pan, inBlk_exit, evPlan_nil, evPlan_cons, evSt_nil, evSt_cons, evSt_eff, runOp_some, effOp_some, thenV_val, thenE_val, nthR_zero, nthR_succ, eput_some, eput_none, if_true, if_false, Option.getD_some, Option.getD_none, cond_true, cond_false, beq_self_eq_true, fN_k, reduceCtorEq, Nat.beq_refl, Bool.and_self, Bool.and_true, Bool.true_and, Bool.false_and, Bool.and_false, Bool.or_true, Bool.true_or, Bool.or_false, Bool.false_or, Bool.not_true, Bool.not_false, Option.isNone_none, Option.isNone_some, envOf, evBin, evSlice, evBd, evIx, ble_true (show i ≤ n by omega), ble_true (show k ≤ k by omega), ble_true (show i ≤ k by omega), ble_true (show 0 ≤ i by omega), ble_true hk, h0, h1, lenOf, c1, c3, c4, c5, outI, fI_eq,
    hsum, e0, b1, hsm, zl, appendCells, eA, newOpen, AH.newK_eq, Nat.zero_mul, Nat.add_zero, Nat.sub_zero, Nat.zero_add, ble_true (show i ≤ n + m by omega), ble_true (Nat.le_refl (n + m)), ble_true (show i + m ≤ n + m by omega), ble_false (show m < n + m - i by omega),
    beq_false (show m ≠ 0 by omega), srcCells, f1, f2, v3, e1, hsub, ble_true (Nat.le_refl (n - i)), beq_false (show n - i ≠ 0 by omega), f4, okVals_flat (fun e he => h3 e (by simp [he] : e ∈ A ++ B) : ∀ e ∈ B, okVals e = true), f5]
  exact ⟨_, rfl, by simp (decide := true) only [Tr.get_set, if_true, if_false]⟩


/-- room: up to the test of overlap -/
theorem in_room {v : AV} (hm : 0 < m) (hin : i < n) (hk : n + m ≤ k) (hsz : n + m ≤ 1000000000) (hv : lenOf v = some m) (hvn : v = .slc b2 o2 m c2) :
    ∃ ρ', evSeq tbl call rounds inL (envOf 0 .lf [.slc b o n (.known k), .int .i64 (.ofNat i), v]) σ = some (.norm, ρ', σ) ∧ ρ'.get q0 = some (.slc b o (n + m) (.known k)) ∧
      ρ'.get q1 = some (.int .i64 (.ofNat i)) ∧ ρ'.get q2 = some v ∧ ρ'.get q7 = some (.int .i64 (.ofNat m)) ∧ ρ'.get q8 = some (.int .i64 (.ofNat n)) := by
  subst hvn
  have h0 : ieq (Int.ofNat m) (Int.ofNat 0) = false := by rw [ieq_eq]; simp; omega
  have h1 : ieq (Int.ofNat i) (Int.ofNat n) = false := by rw [ieq_eq]; simp; omega
  have c1 : wrF .i64 (Int.ofNat n + Int.ofNat m) = .ofNat (n + m) := by rw [wrF_i64] <;> simp only [Int.ofNat_eq_natCast] <;> omega
  have c5 : ilt (Int.ofNat k) (Int.ofNat (n + m)) = false := by rw [ilt_eq]; simp only [Int.ofNat_eq_natCast, decide_eq_false_iff_not]; omega
  have e0 : Nat.beq k 0 = false := beq_false (by omega)
  simp (decide := true) only [inL, evSeq_cons, evSeq_nil, thenS_norm, thenS_ret, evCode_seq, evCode_region, evCode_cond, evCode_drawn, evCode_block, evCode_loop, evCode_skip, evCode_ret, evCode_exit, evOps_op, evOps_nil, evOps_guard, thenG_tt, thenG_ff, thenG_tf, thenG_ft, thenG_un, runOp_guard, thenVG_tt, thenVG_ff, thenVG_tf, thenVG_ft, thenVG_un, evOp, evTmp, evConst, AO.evs, Tr.get_set, Tr.get_lf, val, valO, thenC_norm, thenC_ret, thenC_exit, thenC_pan, onBool_true, onBool_false, thenOp_val, thenOp_pan, thenL_norm, thenL_ret, thenL_exit, thenL_pan, inBlk_norm, inBlk_ret, inBlk_pan, inBlk_exit, evPlan_nil, evPlan_cons, evSt_nil, evSt_cons, evSt_eff, runOp_some, effOp_some, thenV_val, thenE_val, nthR_zero, nthR_succ, eput_some, eput_none, if_true, if_false, Option.getD_some, Option.getD_none, cond_true, cond_false, beq_self_eq_true, fN_k, reduceCtorEq, Nat.beq_refl, Bool.and_self, Bool.and_true, Bool.true_and, Bool.false_and, Bool.and_false, Bool.or_true, Bool.true_or, Bool.or_false, Bool.false_or, Bool.not_true, Bool.not_false, Option.isNone_none, Option.isNone_some, envOf, evBin, evSlice, evBd, evIx, ble_true (show i ≤ n by omega), ble_true (show k ≤ k by omega), ble_true (show i ≤ k by omega), ble_true (show n ≤ k by omega), ble_true hk, ble_true (show 0 ≤ n + m by omega), h0, h1, c1, c5, outI, fI_eq,
    e0, Nat.zero_mul, Nat.add_zero, Nat.sub_zero, Nat.zero_add]
  exact ⟨_, rfl, by simp (decide := true) only [Tr.get_set, if_true, if_false], by simp (decide := true) only [Tr.get_set, if_true, if_false], by simp (decide := true) only [Tr.get_set, if_true, if_false],
    by simp (decide := true) only [Tr.get_set, if_true, if_false], by simp (decide := true) only [Tr.get_set, if_true, if_false]⟩

theorem in_ops6 {v : AV} {ρ : Env} (hm : 0 < m) (hin : i < n) (hk : n + m ≤ k) (hsz : n + m ≤ 1000000000) (g0 : ρ.get q0 = some (.slc b o (n + m) (.known k))) (g1 : ρ.get q1 = some (.int .i64 (.ofNat i))) (g2 : ρ.get q2 = some v)
    (g7 : ρ.get q7 = some (.int .i64 (.ofNat m))) (g8 : ρ.get q8 = some (.int .i64 (.ofNat n))) :
    ∃ ρ', evOps tbl call inR6 ρ σ = some (.norm, ρ', σ) ∧ ρ'.get q0 = some (.slc b o (n + m) (.known k)) ∧
      ρ'.get q1 = some (.int .i64 (.ofNat i)) ∧ ρ'.get q2 = some v ∧ ρ'.get q7 = some (.int .i64 (.ofNat m)) ∧ ρ'.get q8 = some (.int .i64 (.ofNat n)) ∧
      ρ'.get q61 = some v ∧ ρ'.get q66 = some (.slc b (o + (i + m) * 8) (n - i) (.known (k - (i + m)))) := by
  have c3 : wrF .i64 (Int.ofNat i + Int.ofNat m) = .ofNat (i + m) := by rw [wrF_i64] <;> simp only [Int.ofNat_eq_natCast] <;> omega
  have e1 : Nat.beq k (i + m) = false := beq_false (by omega)
  have hsub : n + m - (i + m) = n - i := by omega
  simp (decide := true) only [inR6, evCode_seq, evCode_region, evCode_cond, evCode_drawn, evCode_block, evCode_loop, evCode_skip, evCode_ret, evCode_exit, evOps_op, evOps_nil, evOps_guard, thenG_tt, thenG_ff, thenG_tf, thenG_ft, thenG_un, runOp_guard, thenVG_tt, thenVG_ff, thenVG_tf, thenVG_ft, thenVG_un, evOp, evTmp, evConst, AO.evs, Tr.get_set, Tr.get_lf, val, valO, thenC_norm, thenC_ret, thenC_exit, thenC_pan, onBool_true, onBool_false, thenOp_val, thenOp_pan, thenL_norm, thenL_ret, thenL_exit, thenL_pan, inBlk_norm, inBlk_ret, inBlk_pan, inBlk_exit, evPlan_nil, evPlan_cons, evSt_nil, evSt_cons, evSt_eff, runOp_some, effOp_some, thenV_val, thenE_val, nthR_zero, nthR_succ, eput_some, eput_none, if_true, if_false, Option.getD_some, Option.getD_none, cond_true, cond_false, beq_self_eq_true, fN_k, reduceCtorEq, Nat.beq_refl, Bool.and_self, Bool.and_true, Bool.true_and, Bool.false_and, Bool.and_false, Bool.or_true, Bool.true_or, Bool.or_false, Bool.false_or, Bool.not_true, Bool.not_false, Option.isNone_none, Option.isNone_some, g0, g1, g2, g7, evBin, c3, outI, fI_eq, evSlice, evBd, evIx, ble_true (show i + m ≤ n + m by omega), ble_true hk, ble_true (Nat.le_refl k), e1, hsub]
  exact ⟨_, rfl, by simp (decide := true) only [Tr.get_set, if_false, g0], by simp (decide := true) only [Tr.get_set, if_false, g1], by simp (decide := true) only [Tr.get_set, if_false, g2],
    by simp (decide := true) only [Tr.get_set, if_false, g7], by simp (decide := true) only [Tr.get_set, if_false, g8], by simp (decide := true) only [Tr.get_set, if_true, if_false], by simp (decide := true) only [Tr.get_set, if_true, if_false]⟩

theorem in_op1 {β : Bool} {ρ : Env} (g : ρ.get q67 = some (.bool β)) : evOps tbl call inR1 ρ σ = some (.norm, ρ.set (some (.bool !β)) q68, σ) := by
  simp (decide := true) only [inR1, evCode_seq, evCode_region, evCode_cond, evCode_drawn, evCode_block, evCode_loop, evCode_skip, evCode_ret, evCode_exit, evOps_op, evOps_nil, evOps_guard, thenG_tt, thenG_ff, thenG_tf, thenG_ft, thenG_un, runOp_guard, thenVG_tt, thenVG_ff, thenVG_tf, thenVG_ft, thenVG_un, evOp, evTmp, evConst, AO.evs, Tr.get_set, Tr.get_lf, val, valO, thenC_norm, thenC_ret, thenC_exit, thenC_pan, onBool_true, onBool_false, thenOp_val, thenOp_pan, thenL_norm, thenL_ret, thenL_exit, thenL_pan, inBlk_norm, inBlk_ret, inBlk_pan, inBlk_exit, evPlan_nil, evPlan_cons, evSt_nil, evSt_cons, evSt_eff, runOp_some, effOp_some, thenV_val, thenE_val, nthR_zero, nthR_succ, eput_some, eput_none, if_true, if_false, Option.getD_some, Option.getD_none, cond_true, cond_false, beq_self_eq_true, fN_k, reduceCtorEq, Nat.beq_refl, Bool.and_self, Bool.and_true, Bool.true_and, Bool.false_and, Bool.and_false, Bool.or_true, Bool.true_or, Bool.or_false, Bool.false_or, Bool.not_true, Bool.not_false, Option.isNone_none, Option.isNone_some, g, evUn]

/-- no overlap -/
theorem in_false {v : AV} {ρ : Env} {pre post J : List AV} {A B V Z : List (List AV)} (hm : 0 < m) (hin : i < n) (hk : n + m ≤ k) (hsz : n + m ≤ 1000000000)
    (g0 : ρ.get q0 = some (.slc b o (n + m) (.known k))) (g1 : ρ.get q1 = some (.int .i64 (.ofNat i))) (g2 : ρ.get q2 = some (.slc b2 o2 m c2))
    (g7 : ρ.get q7 = some (.int .i64 (.ofNat m))) (g8 : ρ.get q8 = some (.int .i64 (.ofNat n))) (g68 : ρ.get q68 = some (.bool true))
    (hb : σ.get b = some (.cells false (rows pre (A ++ (B ++ Z)) post))) (ho : pre.length = o) (hA : A.length = i) (hB : A.length + B.length = n) (hZ : Z.length = m) (hl : σ.load b2 o2 (m * 8) = some V.flatten)
    (h2 : ∀ e ∈ A ++ (B ++ Z), e.length = 8) (h3 : ∀ e ∈ A ++ B, okVals e = true) (hV : V.length = m) (v2 : ∀ e ∈ V, e.length = 8) (v3 : ∀ e ∈ V, okVals e = true) (hbn : b ≠ b2) :
    ∃ ρ', evSeq tbl call rounds inT ρ σ = some (.ret, ρ', σ.put b (some (.cells false (rows pre (A ++ (V ++ B)) post)))) ∧ ρ'.get q6 = some (.slc b o (n + m) (.known k)) := by
  subst ho
  have hA2 : ∀ e ∈ A, e.length = 8 := fun e he => h2 e (by simp [he])
  have hB2 : ∀ e ∈ B, e.length = 8 := fun e he => h2 e (by simp [he])
  have hB3 : okVals B.flatten = true := okVals_flat fun e he => h3 e (by simp [he])
  have c3 : wrF .i64 (Int.ofNat i + Int.ofNat m) = .ofNat (i + m) := by rw [wrF_i64] <;> simp only [Int.ofNat_eq_natCast] <;> omega
  have e1 : Nat.beq k (i + m) = false := beq_false (by omega)
  have e2 : Nat.beq k i = false := beq_false (by omega)
  have hsub : n + m - (i + m) = n - i := by omega
  have l1 : σ.load b (pre.length + i * 8) ((n - i) * 8) = some B.flatten := by
    rw [load_flat hb (rows_take h2 (by simp; omega)), List.drop_append, List.drop_of_length_le (by omega), show i - A.length = 0 by omega, List.drop_zero, List.nil_append, List.take_append_of_le_length (by omega), List.take_of_length_le (by omega)]
  have p1 : lput (pre.length + (i + m) * 8) B.flatten (rows pre (A ++ (B ++ Z)) post) = some (rows pre (A ++ ((B ++ Z).take m ++ B)) post) := by
    rw [rows_put h2 hB2 (by simp; omega)]
    congr 2
    rw [List.take_append, List.take_of_length_le (by omega), show i + m - A.length = m by omega, List.drop_of_length_le (by simp; omega)]
    simp
  have h22 : ∀ e ∈ A ++ ((B ++ Z).take m ++ B), e.length = 8 := fun e he => by
    rcases List.mem_append.1 he with h | h
    · exact hA2 e h
    · rcases List.mem_append.1 h with h | h
      · exact h2 e (List.mem_append_right _ (List.mem_of_mem_take h))
      · exact hB2 e h
  have l2 : (σ.put b (some (.cells false (rows pre (A ++ ((B ++ Z).take m ++ B)) post)))).load b2 o2 (m * 8) = some V.flatten := by
    rw [← hl]; simp only [AH.load, AH.get_put_ne _ _ hbn.symm]
  have p2 : lput (pre.length + i * 8) V.flatten (rows pre (A ++ ((B ++ Z).take m ++ B)) post) = some (rows pre (A ++ (V ++ B)) post) := by
    rw [rows_put h22 v2 (by simp; omega)]
    congr 2
    rw [List.take_append_of_le_length (by omega), List.take_of_length_le (by omega), List.drop_append, List.drop_of_length_le (by omega), show i + V.length - A.length = m by omega, List.drop_append, List.drop_of_length_le (by simp; omega), show m - ((B ++ Z).take m).length = 0 by simp; omega]
    simp
  have s1 : ∀ k, σ.storeK (β := Out × AH) b (pre.length + (i + m) * 8) B.flatten k = _ := fun k => store_flat hb p1 k
  have s2 : ∀ k, (σ.put b (some (.cells false (rows pre (A ++ ((B ++ Z).take m ++ B)) post)))).storeK (β := Out × AH) b (pre.length + i * 8) V.flatten k = _ := fun k => store_flat (AH.get_put_same _ _ _) p2 k
  have bl : Nat.ble (n - i) (n + m - i) = true := ble_true (by omega)
  have b3 : Nat.ble (n + m - i) m = false := ble_false (by omega)
  simp (decide := true) only [inT, evSeq_cons, evSeq_nil, thenS_norm, thenS_ret, evCode_seq, evCode_region, evCode_cond, evCode_drawn, evCode_block, evCode_loop, evCode_skip, evCode_ret, evCode_exit, evOps_op, evOps_nil, evOps_guard, thenG_tt, thenG_ff, thenG_tf, thenG_ft, thenG_un, runOp_guard, thenVG_tt, thenVG_ff, thenVG_tf, thenVG_ft, thenVG_un, evOp, evTmp, evConst, AO.evs, Tr.get_set, Tr.get_lf, val, valO, thenC_norm, thenC_ret, thenC_exit, thenC_pan, onBool_true, onBool_false, thenOp_val, thenOp_pan, thenL_norm, thenL_ret, thenL_exit, thenL_pan, inBlk_norm, inBlk_ret, inBlk_pan, inBlk_exit, evPlan_nil, evPlan_cons, evSt_nil, evSt_cons, evSt_eff, runOp_some, effOp_some, thenV_val, thenE_val, nthR_zero, nthR_succ, eput_some, eput_none, if_true, if_false, Option.getD_some, Option.getD_none, cond_true, cond_false, beq_self_eq_true, fN_k, reduceCtorEq, Nat.beq_refl, Bool.and_self, Bool.and_true, Bool.true_and, Bool.false_and, Bool.and_false, Bool.or_true, Bool.true_or, Bool.or_false, Bool.false_or, Bool.not_true, Bool.not_false, Option.isNone_none, Option.isNone_some, g0, g1, g2, g7, g8, g68, evBin, c3, outI, fI_eq, evSlice, evBd, evIx, ble_true (show i + m ≤ n + m by omega), ble_true (show i ≤ n + m by omega), ble_true hk, ble_true (Nat.le_refl k), e1, e2, hsub, lenOf, bl, b3,
    beq_false (show n - i ≠ 0 by omega), beq_false (show m ≠ 0 by omega), srcCells, l1, hB3, s1, l2, okVals_flat v3, s2, AH.put_put]
  exact ⟨_, rfl, by simp (decide := true) only [Tr.get_set, if_true, if_false]⟩

/-- overlap, as the test says -/
theorem in_true {v : AV} {ρ : Env} {pre post J : List AV} {A B V Z : List (List AV)} (hm : 0 < m) (hin : i < n) (hk : n + m ≤ k) (hsz : n + m ≤ 1000000000)
    (g0 : ρ.get q0 = some (.slc b o (n + m) (.known k))) (g1 : ρ.get q1 = some (.int .i64 (.ofNat i))) (g2 : ρ.get q2 = some (.slc b2 o2 m c2))
    (g7 : ρ.get q7 = some (.int .i64 (.ofNat m))) (g8 : ρ.get q8 = some (.int .i64 (.ofNat n))) (g68 : ρ.get q68 = some (.bool false))
    (hb : σ.get b = some (.cells false (rows pre (A ++ (B ++ Z)) post))) (ho : pre.length = o) (hA : A.length = i) (hB : A.length + B.length = n) (hZ : Z.length = m) (hl : σ.load b2 o2 (m * 8) = some V.flatten)
    (h2 : ∀ e ∈ A ++ (B ++ Z), e.length = 8) (h3 : ∀ e ∈ A ++ B, okVals e = true) (hV : V.length = m) (v2 : ∀ e ∈ V, e.length = 8) (v3 : ∀ e ∈ V, okVals e = true) (hbn : b ≠ b2)
    (hrot : call q156 [.slc b (pre.length + i * 8) (n + m - i) (.known (k - i)), .int .i64 (.ofNat m)] (σ.put b (some (.cells false (rows (pre ++ A.flatten) (B ++ V) post)))) =
      some (.val unA, σ.put b (some (.cells false (rows (pre ++ A.flatten) (V ++ B) post))))) :
    ∃ ρ', evSeq tbl call rounds inT ρ σ = some (.norm, ρ', σ.put b (some (.cells false (rows pre (A ++ (V ++ B)) post)))) ∧ ρ'.get q6 = some (.slc b o (n + m) (.known k)) := by
  subst ho
  have e2 : Nat.beq k i = false := beq_false (by omega)
  have e3 : Nat.beq k n = false := beq_false (by omega)
  have p2 : lput (pre.length + n * 8) V.flatten (rows pre (A ++ (B ++ Z)) post) = some (rows pre (A ++ (B ++ V)) post) := by
    rw [rows_put h2 v2 (by simp; omega)]
    congr 2
    rw [← List.append_assoc A B Z, List.take_append_of_le_length (by simp; omega), List.take_of_length_le (by simp; omega), List.drop_of_length_le (by simp; omega)]
    simp
  have s2 : ∀ k, σ.storeK (β := Out × AH) b (pre.length + n * 8) V.flatten k = _ := fun k => store_flat hb p2 k
  rw [← rows_app2, ← rows_app2] at hrot
  have hsub : n + m - n = m := by omega
  simp (decide := true) only [inT, evSeq_cons, evSeq_nil, thenS_norm, thenS_ret, evCode_seq, evCode_region, evCode_cond, evCode_drawn, evCode_block, evCode_loop, evCode_skip, evCode_ret, evCode_exit, evOps_op, evOps_nil, evOps_guard, thenG_tt, thenG_ff, thenG_tf, thenG_ft, thenG_un, runOp_guard, thenVG_tt, thenVG_ff, thenVG_tf, thenVG_ft, thenVG_un, evOp, evTmp, evConst, AO.evs, Tr.get_set, Tr.get_lf, val, valO, thenC_norm, thenC_ret, thenC_exit, thenC_pan, onBool_true, onBool_false, thenOp_val, thenOp_pan, thenL_norm, thenL_ret, thenL_exit, thenL_pan, inBlk_norm, inBlk_ret, inBlk_pan, inBlk_exit, evPlan_nil, evPlan_cons, evSt_nil, evSt_cons, evSt_eff, runOp_some, effOp_some, thenV_val, thenE_val, nthR_zero, nthR_succ, eput_some, eput_none, if_true, if_false, Option.getD_some, Option.getD_none, cond_true, cond_false, beq_self_eq_true, fN_k, reduceCtorEq, Nat.beq_refl, Bool.and_self, Bool.and_true, Bool.true_and, Bool.false_and, Bool.and_false, Bool.or_true, Bool.true_or, Bool.or_false, Bool.false_or, Bool.not_true, Bool.not_false, Option.isNone_none, Option.isNone_some, g0, g1, g2, g7, g8, g68, evBin, outI, fI_eq, evSlice, evBd, evIx, ble_true (show n ≤ n + m by omega), ble_true (show i ≤ n + m by omega), ble_true hk, ble_true (Nat.le_refl k), e2, e3, hsub, lenOf, ble_true (Nat.le_refl m),
    beq_false (show m ≠ 0 by omega), srcCells, hl, okVals_flat v3, s2, hrot]
  exact ⟨_, rfl, by simp (decide := true) only [Tr.get_set, if_true, if_false]⟩

end
end Go.Proofs.YtgaoddafkjdecaaGreat.EV
