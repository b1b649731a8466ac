/-
  EV, part V1: pages of a book, the view of a snapshot. Own work of this claim.
-/
import Derived.Test.YtgaoddafkjdecaaGreatEvX4
set_option linter.unusedVariables false
set_option linter.unusedSimpArgs false
namespace Go.Proofs.YtgaoddafkjdecaaGreat.EV

/-! ### Memory in which no name is ahead of its time -/

def Wf (σ : AH) : Prop := ∀ b : Pos, σ.nx.nat ≤ b.nat → σ.get b = none

theorem Wf.lt {σ : AH} (h : Wf σ) {b : Pos} {x : AB} (e : σ.get b = some x) : b.nat < σ.nx.nat := by
  rcases Nat.lt_or_ge b.nat σ.nx.nat with h1 | h1
  · exact h1
  · rw [h b h1] at e; cases e
theorem Wf.ne {σ : AH} (h : Wf σ) {b : Pos} {x : AB} (e : σ.get b = some x) : b ≠ σ.nx := fun hb => by have := h.lt e; rw [hb] at this; omega
theorem Wf.new {σ : AH} (h : Wf σ) (x : AB) : Wf (σ.new x) := by
  intro b hb
  rw [AH.nx_new, Pos.nat_succ] at hb
  rw [AH.get_new, if_neg (fun e => by subst e; omega)]
  exact h b (by omega)
theorem Wf.put {σ : AH} (h : Wf σ) {b : Pos} {y : AB} (e : σ.get b = some y) (x : Option AB) : Wf (σ.put b x) := by
  intro c hc
  rw [AH.nx_put] at hc
  rw [AH.get_put, if_neg (fun ec => by have := h.lt e; subst ec; omega)]
  exact h c hc
theorem Wf.get_new {σ : AH} (h : Wf σ) {b : Pos} {x : AB} (e : σ.get b = some x) (y : AB) : (σ.new y).get b = some x := by
  rw [AH.get_new, if_neg (h.ne e)]; exact e

theorem load_of {σ : AH} {b : Pos} {ro : Bool} {L : List AV} (hg : σ.get b = some (.cells ro L)) (i : Nat) {v : AV} (h : L[i]? = some v) : σ.load b i 1 = some [v] := by
  have hl := (List.getElem?_eq_some_iff.1 h).1
  have e : (L.drop i).take 1 = [v] := by
    obtain ⟨hl, rfl⟩ := List.getElem?_eq_some_iff.1 h
    rw [List.drop_eq_getElem_cons hl, List.take_succ_cons, List.take_zero]
  simp only [AH.load, hg, ltake_eq, ldrop_eq, e]
  rw [if_pos (by simp; omega)]

theorem store_of {σ : AH} {b : Pos} {L : List AV} (hg : σ.get b = some (.cells false L)) (i : Nat) (hi : i < L.length) (v : AV) {β : Type} (k : AH → Option β) :
    σ.storeK b i [v] k = k (σ.put b (some (.cells false (L.set i v)))) := by
  have : lput i [v] L = some (L.set i v) := by
    rw [lput_eq, if_pos (by simp; omega), List.set_eq_take_append_cons_drop, if_pos hi]
    simp
  rw [store_flat hg this]

def z256 : List AV := (List.replicate 256 [AV.int .u8 (.ofNat 0)]).flatten
theorem flat_rep {α : Type} (a : α) : ∀ n, (List.replicate n [a]).flatten = List.replicate n a
  | 0 => rfl
  | n + 1 => by rw [List.replicate_succ, List.flatten_cons, flat_rep a n]; rfl
theorem z256_eq : z256 = List.replicate 256 (AV.int .u8 (.ofNat 0)) := flat_rep _ _
theorem z256_len : z256.length = 256 := by rw [z256_eq, List.length_replicate]

theorem put2_rep (a b z : AV) (n : Nat) : lput 0 [a, b] (List.replicate (n + 2) z) = some (a :: b :: List.replicate n z) := by
  rw [lput_eq, if_pos (by simp)]
  simp [List.replicate_succ]

/-- a page that begins with two bytes -/
def pg (a b : Nat) : List AV := .int .u8 (.ofNat a) :: .int .u8 (.ofNat b) :: List.replicate 254 (.int .u8 (.ofNat 0))
theorem pg_len (a b : Nat) : (pg a b).length = 256 := by
  unfold pg
  rw [List.length_cons, List.length_cons, List.length_replicate]
theorem pg_put (a b : Nat) : lput 0 [.int .u8 (.ofNat a), .int .u8 (.ofNat b)] z256 = some (pg a b) := by
  rw [z256_eq]
  exact put2_rep _ _ _ 254
theorem bytesOf_rep (n : Nat) : bytesOf (List.replicate n (AV.int .u8 (.ofNat 0))) = some (List.replicate n 0) := by
  induction n with
  | zero => rfl
  | succ n ih =>
    rw [List.replicate_succ, List.replicate_succ]
    simp only [bytesOf, ih]
    rfl
theorem pg_bytes {a b : Nat} (ha : a < 256) (hb : b < 256) : bytesOf (pg a b) = some (a :: b :: List.replicate 254 0) := by
  simp only [pg, bytesOf, bytesOf_rep, blt_true ha, blt_true hb, cond_true]
theorem leqN_refl : ∀ l, leqN l l = true
  | [] => rfl
  | a :: l => by simp [leqN, leqN_refl l]

section
variable {tbl : Disp} {call : Call} {rounds : Nat} {σ : AH}

theorem of_sound {b : Pos} {c : Cap} {x y : Nat} (hw : Wf σ) {ro : Bool} (hb : σ.get b = some (.cells ro [.int .u8 (.ofNat x), .int .u8 (.ofNat y)])) :
    evFn tbl call rounds fn20 [.slc b 0 2 c] σ = some (.val (.slc σ.nx 0 256 (.known 256)), σ.new (.cells false (pg x y))) := by
  rw [evFn_eq _ _ rfl]
  have h1 : small 256 1 = true := by decide
  have h2 : (σ.new (.cells false z256)).load b 0 (2 * 1) = some [.int .u8 (.ofNat x), .int .u8 (.ofNat y)] := by
    rw [load_new (hw.ne hb)]
    simp only [AH.load, hb]
    rfl
  have h3 : ∀ k, (σ.new (.cells false z256)).storeK (β := Out × AH) σ.nx 0 [.int .u8 (.ofNat x), .int .u8 (.ofNat y)] k = k (σ.new (.cells false (pg x y))) := fun k => by
    rw [store_flat (get_new_same _ _) (pg_put x y), AH.new_put]
  unfold z256 at h2 h3
  have h4 : Nat.ble 256 2 = false := by decide
  have h5 : Nat.beq 2 0 = false := by decide
  have h6 : okVals [AV.int .u8 (.ofNat x), .int .u8 (.ofNat y)] = true := rfl
  have h7 : Nat.ble 256 256 = true := by decide
  have h8 : Nat.beq [AV.int .u8 (.ofNat 0)].length 1 = true := rfl
  simp (decide := true) only [fn20, evCode_seq, evCode_region, evCode_cond, evCode_drawn, evCode_block, evCode_loop, evCode_skip, evCode_ret, evCode_exit, evOps_op, evOps_nil, evOps_guard, thenG_tt, thenG_ff, thenG_tf, thenG_ft, thenG_un, runOp_guard, thenVG_tt, thenVG_ff, thenVG_tf, thenVG_ft, thenVG_un, evOp, evTmp, evConst, AO.evs, Tr.get_set, Tr.get_lf, val, valO, thenC_norm, thenC_ret, thenC_exit, thenC_pan, onBool_true, onBool_false, thenOp_val, thenOp_pan, thenL_norm, thenL_ret, thenL_exit, thenL_pan, inBlk_norm, inBlk_ret, inBlk_pan, inBlk_exit, evPlan_nil, evPlan_cons, evSt_nil, evSt_cons, evSt_eff, runOp_some, effOp_some, thenV_val, thenE_val, nthR_zero, nthR_succ, eput_some, eput_none, if_true, if_false, Option.getD_some, Option.getD_none, cond_true, cond_false, beq_self_eq_true, fN_k, reduceCtorEq, Nat.beq_refl, Bool.and_self, Bool.and_true, Bool.true_and, Bool.false_and, Bool.and_false, Bool.or_true, Bool.true_or, Bool.or_false, Bool.false_or, Bool.not_true, Bool.not_false, Option.isNone_none, Option.isNone_some, envOf, evIx, h1, h7, h8, AH.newK_eq, lenOf, srcCells, h4, h5, h2, h6, h3, fnEnd, evRes, packRes]

/-- what a book's page is -/
theorem book_page {bk pb : Pos} {Lb : List AV} {no : Nat} {Lp : List AV} (hw : Wf σ) (hb : σ.get bk = some (.cells false Lb)) (h96 : Lb[96]? = some (.int .i64 (.ofNat 0))) (hno : no < 96)
    (hp : Lb[no]? = some (.slc pb 0 256 (.known 256))) (hpb : σ.get pb = some (.cells false Lp)) (hl : Lp.length = 256) (hok : okVals Lp = true) :
    evFn tbl call rounds fn216 [.ptr bk 0, .int .i64 (.ofNat no)] σ = some (.val (.tup [.slc σ.nx 0 256 (.opn 1), .int .i64 (.ofNat 0)]), σ.new (.cells false Lp)) := by
  rw [evFn_eq _ _ rfl]
  have l96 := load_of hb 96 h96
  have lno := load_of hb no hp
  have lpb : σ.load pb 0 256 = some Lp := by
    simp only [AH.load, hpb, ltake_eq, ldrop_eq, List.drop_zero]
    rw [if_pos (by omega), ← hl, List.take_length]
  have i1 : ilt (Int.ofNat no) (Int.ofNat 0) = false := by rw [ilt_eq]; simp
  have i2 : ilt (Int.ofNat 95) (Int.ofNat no) = false := by rw [ilt_eq]; simp; omega
  have i3 : ieq (Int.ofNat 0) (Int.ofNat 0) = true := rfl
  have s1 : small (0 + 256) 1 = true := by decide
  have e1 : Nat.beq 256 0 = false := by decide
  simp (decide := true) only [fn216, evCode_seq, evCode_region, evCode_cond, evCode_drawn, evCode_block, evCode_loop, evCode_skip, evCode_ret, evCode_exit, evOps_op, evOps_nil, evOps_guard, thenG_tt, thenG_ff, thenG_tf, thenG_ft, thenG_un, runOp_guard, thenVG_tt, thenVG_ff, thenVG_tf, thenVG_ft, thenVG_un, evOp, evTmp, evConst, AO.evs, Tr.get_set, Tr.get_lf, val, valO, thenC_norm, thenC_ret, thenC_exit, thenC_pan, onBool_true, onBool_false, thenOp_val, thenOp_pan, thenL_norm, thenL_ret, thenL_exit, thenL_pan, inBlk_norm, inBlk_ret, inBlk_pan, inBlk_exit, evPlan_nil, evPlan_cons, evSt_nil, evSt_cons, evSt_eff, runOp_some, effOp_some, thenV_val, thenE_val, nthR_zero, nthR_succ, eput_some, eput_none, if_true, if_false, Option.getD_some, Option.getD_none, cond_true, cond_false, beq_self_eq_true, fN_k, reduceCtorEq, Nat.beq_refl, Bool.and_self, Bool.and_true, Bool.true_and, Bool.false_and, Bool.and_false, Bool.or_true, Bool.true_or, Bool.or_false, Bool.false_or, Bool.not_true, Bool.not_false, Option.isNone_none, Option.isNone_some, envOf, evIx, evBin, evUn, i1, i2, i3, l96, lno, Nat.zero_add, Nat.add_zero, Nat.mul_one, blt_true hno, evEq, lenOf, s1, srcCells, appendCells, e1, lpb, newOpen, AH.newK_eq, fnEnd, evRes, packRes]

theorem view_new {t : Nat} {bk : Pos} {S : List AV} (hS : S.length = 35) :
    evFn tbl call rounds fn21 [.ifc t (.ptr bk 0), .agg S] σ = some (.val (.ptr σ.nx.succ 0), (σ.new (.cells false S)).new (.cells false (.ifc t (.ptr bk 0) :: S))) := by
  rw [evFn_eq _ _ rfl]
  have l1 : (σ.new (.cells false S)).load σ.nx 0 35 = some S := by
    simp only [AH.load, get_new_same, ltake_eq, ldrop_eq, List.drop_zero]
    rw [if_pos (by omega), ← hS, List.take_length]
  generalize hz : ([AV.nili] ++ [.str []] ++ [.int .i64 (.ofNat 0)] ++ [.bool false] ++ List.replicate 32 (.int .i64 (.ofNat 0)) : List AV) = z
  have hzl : z.length = 36 := by rw [← hz]; rfl
  have p1 : lput 0 [.ifc t (.ptr bk 0)] z = some (.ifc t (.ptr bk 0) :: z.drop 1) := by
    rw [lput_eq, if_pos (by simp; omega)]; rfl
  have p2 : lput 1 S (.ifc t (.ptr bk 0) :: z.drop 1) = some (.ifc t (.ptr bk 0) :: S) := by
    rw [lput_eq, if_pos (by simp; omega)]
    simp [hS, hzl]
  have e1 : Nat.beq [AV.ifc t (.ptr bk 0)].length 1 = true := rfl
  have e2 : Nat.beq S.length 35 = true := by rw [hS]; rfl
  have e3 : Nat.beq (AV.ifc t (.ptr bk 0) :: S).length 36 = true := by rw [List.length_cons, hS]; rfl
  simp (decide := true) only [fn21, evCode_seq, evCode_region, evCode_cond, evCode_drawn, evCode_block, evCode_loop, evCode_skip, evCode_ret, evCode_exit, evOps_op, evOps_nil, evOps_guard, thenG_tt, thenG_ff, thenG_tf, thenG_ft, thenG_un, runOp_guard, thenVG_tt, thenVG_ff, thenVG_tf, thenVG_ft, thenVG_un, evOp, evTmp, evConst, AO.evs, Tr.get_set, Tr.get_lf, val, valO, thenC_norm, thenC_ret, thenC_exit, thenC_pan, onBool_true, onBool_false, thenOp_val, thenOp_pan, thenL_norm, thenL_ret, thenL_exit, thenL_pan, inBlk_norm, inBlk_ret, inBlk_pan, inBlk_exit, evPlan_nil, evPlan_cons, evSt_nil, evSt_cons, evSt_eff, runOp_some, effOp_some, thenV_val, thenE_val, nthR_zero, nthR_succ, eput_some, eput_none, if_true, if_false, Option.getD_some, Option.getD_none, cond_true, cond_false, beq_self_eq_true, fN_k, reduceCtorEq, Nat.beq_refl, Bool.and_self, Bool.and_true, Bool.true_and, Bool.false_and, Bool.and_false, Bool.or_true, Bool.true_or, Bool.or_false, Bool.false_or, Bool.not_true, Bool.not_false, Option.isNone_none, Option.isNone_some, envOf, hz, AH.newK_eq, l1, evParts, fillA, p1, p2, e1, e2, e3, AV.cells, hS, fnEnd, evRes, packRes, AH.nx_new]

/-- a view's page -/
theorem view_page {vb bk : Pos} {Lv : List AV} {no : Nat} {t : Nat} {f : Pos} {σ' : AH} {to : Nat} (hv : σ.get vb = some (.cells false Lv)) (h0 : Lv[0]? = some (.ifc t (.ptr bk 0))) (hno : 1 ≤ no) (hno2 : no < 32)
    (hm : Lv[4 + no]? = some (.int .i64 (.ofNat to))) (ht : tbl t 0 = some f) {a b : AV}
    (hc : call f [.ptr bk 0, .int .i64 (.ofNat (if to = 0 then no else to))] σ = some (.val (.tup [a, b]), σ')) :
    evFn tbl call rounds fn22 [.ptr vb 0, .int .i64 (.ofNat no)] σ = some (.val (.tup [a, b]), σ') := by
  rw [evFn_eq _ _ rfl]
  have l0 := load_of hv 0 h0
  have lm := load_of hv (4 + no) hm
  have i1 : ilt (Int.ofNat no) (Int.ofNat 1) = false := by rw [ilt_eq]; simp; omega
  have i2 : ilt (Int.ofNat no) (Int.ofNat 32) = true := by rw [ilt_eq]; simp; omega
  have e1 : 0 + 1 + 3 + no * 1 = 4 + no := by omega
  by_cases h : to = 0
  · rw [if_pos h] at hc
    have i3 : ieq (Int.ofNat to) (Int.ofNat 0) = true := by rw [ieq_eq]; simp [h]
    simp (decide := true) only [fn22, evCode_seq, evCode_region, evCode_cond, evCode_drawn, evCode_block, evCode_loop, evCode_skip, evCode_ret, evCode_exit, evOps_op, evOps_nil, evOps_guard, thenG_tt, thenG_ff, thenG_tf, thenG_ft, thenG_un, runOp_guard, thenVG_tt, thenVG_ff, thenVG_tf, thenVG_ft, thenVG_un, evOp, evTmp, evConst, AO.evs, Tr.get_set, Tr.get_lf, val, valO, thenC_norm, thenC_ret, thenC_exit, thenC_pan, onBool_true, onBool_false, thenOp_val, thenOp_pan, thenL_norm, thenL_ret, thenL_exit, thenL_pan, inBlk_norm, inBlk_ret, inBlk_pan, inBlk_exit, evPlan_nil, evPlan_cons, evSt_nil, evSt_cons, evSt_eff, runOp_some, effOp_some, thenV_val, thenE_val, nthR_zero, nthR_succ, eput_some, eput_none, if_true, if_false, Option.getD_some, Option.getD_none, cond_true, cond_false, beq_self_eq_true, fN_k, reduceCtorEq, Nat.beq_refl, Bool.and_self, Bool.and_true, Bool.true_and, Bool.false_and, Bool.and_false, Bool.or_true, Bool.true_or, Bool.or_false, Bool.false_or, Bool.not_true, Bool.not_false, Option.isNone_none, Option.isNone_some, envOf, evIx, evBin, evUn, i1, i2, i3, l0, lm, Nat.zero_add, Nat.add_zero, Nat.mul_one, blt_true hno2, evEq, fnEnd, evRes, packRes, Nat.reduceAdd, ht, hc, ldrop_eq, List.drop_zero, List.drop_succ_cons]
  · rw [if_neg h] at hc
    have i3 : ieq (Int.ofNat to) (Int.ofNat 0) = false := by rw [ieq_eq]; simp [h]
    simp (decide := true) only [fn22, evCode_seq, evCode_region, evCode_cond, evCode_drawn, evCode_block, evCode_loop, evCode_skip, evCode_ret, evCode_exit, evOps_op, evOps_nil, evOps_guard, thenG_tt, thenG_ff, thenG_tf, thenG_ft, thenG_un, runOp_guard, thenVG_tt, thenVG_ff, thenVG_tf, thenVG_ft, thenVG_un, evOp, evTmp, evConst, AO.evs, Tr.get_set, Tr.get_lf, val, valO, thenC_norm, thenC_ret, thenC_exit, thenC_pan, onBool_true, onBool_false, thenOp_val, thenOp_pan, thenL_norm, thenL_ret, thenL_exit, thenL_pan, inBlk_norm, inBlk_ret, inBlk_pan, inBlk_exit, evPlan_nil, evPlan_cons, evSt_nil, evSt_cons, evSt_eff, runOp_some, effOp_some, thenV_val, thenE_val, nthR_zero, nthR_succ, eput_some, eput_none, if_true, if_false, Option.getD_some, Option.getD_none, cond_true, cond_false, beq_self_eq_true, fN_k, reduceCtorEq, Nat.beq_refl, Bool.and_self, Bool.and_true, Bool.true_and, Bool.false_and, Bool.and_false, Bool.or_true, Bool.true_or, Bool.or_false, Bool.false_or, Bool.not_true, Bool.not_false, Option.isNone_none, Option.isNone_some, envOf, evIx, evBin, evUn, i1, i2, i3, l0, lm, Nat.zero_add, Nat.add_zero, Nat.mul_one, blt_true hno2, evEq, fnEnd, evRes, packRes, Nat.reduceAdd, ht, hc, ldrop_eq, List.drop_zero, List.drop_succ_cons]

theorem view_range {vb bk : Pos} {Lv : List AV} {no : Int} {t : Nat} (hv : σ.get vb = some (.cells false Lv)) (h0 : Lv[0]? = some (.ifc t (.ptr bk 0))) (hno : no < 1 ∨ 32 ≤ no) :
    evFn tbl call rounds fn22 [.ptr vb 0, .int .i64 no] σ = some (.val (.tup [.nils, .int .i64 (.ofNat 3)]), σ) := by
  rw [evFn_eq _ _ rfl]
  have l0 := load_of hv 0 h0
  by_cases h : no < 1
  · have i1 : ilt no (Int.ofNat 1) = true := by rw [ilt_eq]; simp; omega
    simp (decide := true) only [fn22, evCode_seq, evCode_region, evCode_cond, evCode_drawn, evCode_block, evCode_loop, evCode_skip, evCode_ret, evCode_exit, evOps_op, evOps_nil, evOps_guard, thenG_tt, thenG_ff, thenG_tf, thenG_ft, thenG_un, runOp_guard, thenVG_tt, thenVG_ff, thenVG_tf, thenVG_ft, thenVG_un, evOp, evTmp, evConst, AO.evs, Tr.get_set, Tr.get_lf, val, valO, thenC_norm, thenC_ret, thenC_exit, thenC_pan, onBool_true, onBool_false, thenOp_val, thenOp_pan, thenL_norm, thenL_ret, thenL_exit, thenL_pan, inBlk_norm, inBlk_ret, inBlk_pan, inBlk_exit, evPlan_nil, evPlan_cons, evSt_nil, evSt_cons, evSt_eff, runOp_some, effOp_some, thenV_val, thenE_val, nthR_zero, nthR_succ, eput_some, eput_none, if_true, if_false, Option.getD_some, Option.getD_none, cond_true, cond_false, beq_self_eq_true, fN_k, reduceCtorEq, Nat.beq_refl, Bool.and_self, Bool.and_true, Bool.true_and, Bool.false_and, Bool.and_false, Bool.or_true, Bool.true_or, Bool.or_false, Bool.false_or, Bool.not_true, Bool.not_false, Option.isNone_none, Option.isNone_some, envOf, evIx, evBin, evUn, i1, l0, Nat.zero_add, Nat.add_zero, evEq, fnEnd, evRes, packRes]
  · have i1 : ilt no (Int.ofNat 1) = false := by rw [ilt_eq]; simp; omega
    have i2 : ilt no (Int.ofNat 32) = false := by rw [ilt_eq]; simp; omega
    simp (decide := true) only [fn22, evCode_seq, evCode_region, evCode_cond, evCode_drawn, evCode_block, evCode_loop, evCode_skip, evCode_ret, evCode_exit, evOps_op, evOps_nil, evOps_guard, thenG_tt, thenG_ff, thenG_tf, thenG_ft, thenG_un, runOp_guard, thenVG_tt, thenVG_ff, thenVG_tf, thenVG_ft, thenVG_un, evOp, evTmp, evConst, AO.evs, Tr.get_set, Tr.get_lf, val, valO, thenC_norm, thenC_ret, thenC_exit, thenC_pan, onBool_true, onBool_false, thenOp_val, thenOp_pan, thenL_norm, thenL_ret, thenL_exit, thenL_pan, inBlk_norm, inBlk_ret, inBlk_pan, inBlk_exit, evPlan_nil, evPlan_cons, evSt_nil, evSt_cons, evSt_eff, runOp_some, effOp_some, thenV_val, thenE_val, nthR_zero, nthR_succ, eput_some, eput_none, if_true, if_false, Option.getD_some, Option.getD_none, cond_true, cond_false, beq_self_eq_true, fN_k, reduceCtorEq, Nat.beq_refl, Bool.and_self, Bool.and_true, Bool.true_and, Bool.false_and, Bool.and_false, Bool.or_true, Bool.true_or, Bool.or_false, Bool.false_or, Bool.not_true, Bool.not_false, Option.isNone_none, Option.isNone_some, envOf, evIx, evBin, evUn, i1, i2, l0, Nat.zero_add, Nat.add_zero, evEq, fnEnd, evRes, packRes]
end

end Go.Proofs.YtgaoddafkjdecaaGreat.EV
