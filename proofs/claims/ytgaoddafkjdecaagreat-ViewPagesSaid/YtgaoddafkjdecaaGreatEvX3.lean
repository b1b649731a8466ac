/-
  EV, part X3: turning round a row of elements (slices.Reverse, rotateLeft, rotateRight, at cells). Own work of this claim.
-/
import Derived.Test.YtgaoddafkjdecaaGreatEvX2
import Derived.Test.YtgaoddafkjdecaaGreatEvB1
set_option linter.unusedVariables false
set_option linter.unusedSimpArgs false
namespace Go.Proofs.YtgaoddafkjdecaaGreat.EV

theorem Tr.set_set {α : Type} (x y : Option α) (p : Pos) : ∀ t : Tr α, (t.set y p).set x p = t.set x p := by
  induction p with
  | one => intro t; cases t <;> simp
  | o p ih => intro t; cases t <;> simp [ih]
  | i p ih => intro t; cases t <;> simp [ih]
theorem Tr.set_self {α : Type} {x : α} (p : Pos) : ∀ t : Tr α, t.get p = some x → t.set (some x) p = t := by
  induction p with
  | one => intro t; cases t <;> simp; rintro rfl; rfl
  | o p ih => intro t; cases t <;> simp; exact ih _
  | i p ih => intro t; cases t <;> simp; exact ih _
theorem AH.put_put (σ : AH) (b : Pos) (x y : Option AB) : (σ.put b y).put b x = σ.put b x := by
  unfold AH.put; rw [Tr.set_set]
theorem AH.put_self {σ : AH} {b : Pos} {x : AB} (h : σ.get b = some x) : σ.put b (some x) = σ := by
  unfold AH.put; rw [Tr.set_self _ _ h]
theorem AH.get_put_same (σ : AH) (b : Pos) (x : Option AB) : (σ.put b x).get b = x := by rw [AH.get_put, if_pos rfl]
theorem AH.get_put_ne (σ : AH) {b c : Pos} (x : Option AB) (h : c ≠ b) : (σ.put b x).get c = σ.get c := by rw [AH.get_put, if_neg h]

theorem wrF_i64 {x : Int} (h1 : -9223372036854775808 ≤ x) (h2 : x ≤ 9223372036854775807) : wrF .i64 x = x := by
  rw [wrF_eq]
  have e : IntKind.wrap .i64 x = if x % 18446744073709551616 ≥ 9223372036854775808 then x % 18446744073709551616 - 18446744073709551616 else x % 18446744073709551616 := by
    simp [IntKind.wrap, IntKind.signed, IntKind.bits]
  rw [e]
  split <;> omega

theorem ev_idxA_slc {tbl : Disp} {call : Call} {ρ : Env} {σ : AH} {sz : Nat} {x i : AO} {b : Pos} {o len n : Nat} {c : Cap} {k : IntKind}
    (hx : x.ev ρ = .slc b o len c) (hi : i.ev ρ = .int k (.ofNat n)) (h : n < len) : evOp tbl call ρ σ (.idxA none sz x i) = some (.val (.ptr b (o + n * sz)), σ) := by
  have hb : Nat.blt n len = true := by rw [Nat.blt_eq]; exact h
  simp [evOp, hx, hi, evIx, hb, val]
theorem ev_loadN {tbl : Disp} {call : Call} {ρ : Env} {σ : AH} {n : Nat} {x : AO} {b : Pos} {o : Nat} {ro : Bool} {L l : List AV}
    (hx : x.ev ρ = .ptr b o) (hg : σ.get b = some (.cells ro L)) (h : ltake n (ldrop o L) = some l) : evOp tbl call ρ σ (.loadN n x) = some (.val (.agg l), σ) := by
  simp [evOp, hx, AH.load, hg, h, val]
theorem ev_store {tbl : Disp} {call : Call} {ρ : Env} {σ : AH} {n : Nat} {a x : AO} {b : Pos} {o : Nat} {L L' l : List AV}
    (ha : a.ev ρ = .ptr b o) (hx : x.ev ρ = .agg l) (hg : σ.get b = some (.cells false L)) (hl : l.length = n) (hok : okVals l = true) (h : lput o l L = some L') :
    evOp tbl call ρ σ (.store n a x) = some (.val unA, σ.put b (some (.cells false L'))) := by
  simp [evOp, ha, hx, AV.cells, hl, hok, AH.storeK, hg, h, AH.setK_eq, val]

theorem load_rows {σ : AH} {b : Pos} {ro : Bool} {pre post : List AV} {es : List (List AV)} {sz i : Nat} {e : List AV} (hg : σ.get b = some (.cells ro (rows pre es post)))
    (h : ∀ e ∈ es, e.length = sz) (hi : es[i]? = some e) : σ.load b (pre.length + i * sz) sz = some e := by
  simp only [AH.load, hg]
  exact rows_one h hi
theorem store_rows {σ : AH} {b : Pos} {pre post : List AV} {es : List (List AV)} {sz i : Nat} {v : List AV} (hg : σ.get b = some (.cells false (rows pre es post)))
    (h : ∀ e ∈ es, e.length = sz) (hv : v.length = sz) (hi : i < es.length) {β : Type} (k : AH → Option β) :
    σ.storeK b (pre.length + i * sz) v k = k (σ.put b (some (.cells false (rows pre (es.set i v) post)))) := by
  simp only [AH.storeK, hg, rows_set h hv hi, AH.setK_eq]
theorem blt_true {a b : Nat} (h : a < b) : Nat.blt a b = true := by rw [Nat.blt_eq]; exact h

/-- the body of the loop of slices.Reverse -/
noncomputable def rev193 : ACode := match fn193.body with
  | .seq _ (.block _ (.loop b)) => b
  | c => c

theorem rev_loop {tbl : Disp} {call : Call} {rounds : Nat} {b : Pos} {n : Nat} {c : Cap} {pre post : List AV} (hn : n ≤ 1000000000000) :
    ∀ (k : Nat) (ρ : Env) (σ : AH) (es : List (List AV)) (i : Nat), es.length = n → (∀ e ∈ es, e.length = 8) → (∀ e ∈ es, okVals e = true) →
      ρ.get q0 = some (.slc b pre.length n c) → ρ.get q2 = some (.int .i64 (.ofNat i)) → ρ.get q3 = some (.int .i64 ((n : Int) - 1 - i)) →
      σ.get b = some (.cells false (rows pre es post)) → n + 2 ≤ 2 * i + 2 * k → 2 * i ≤ n + 1 →
      ∃ ρ' es', evRnd tbl call rounds rev193 k ρ σ = some (.exit 0, ρ', σ.put b (some (.cells false (rows pre es' post)))) ∧ es'.length = n ∧
        (∀ e ∈ es', e ∈ es) ∧ ∀ m, m < n → es'[m]? = if i ≤ m ∧ m < n - i then es[n - 1 - m]? else es[m]?
  | 0, ρ, σ, es, i, h1, h2, h3, r0, r2, r3, hg, hk, hi => by omega
  | k + 1, ρ, σ, es, i, h1, h2, h3, r0, r2, r3, hg, hk, hi => by
    rw [evRnd_succ]
    by_cases hlt : (i : Int) < (n : Int) - 1 - i
    · obtain ⟨j, hj⟩ : ∃ j : Nat, (n : Int) - 1 - i = .ofNat j := ⟨n - 1 - i, by simp only [Int.ofNat_eq_natCast]; omega⟩
      have hj' : j = n - 1 - i := by simp only [Int.ofNat_eq_natCast] at hj; omega
      have hjn : j < n := by omega
      have hin : i < n := by omega
      rw [hj] at r3 hlt
      have hcmp : ilt (.ofNat i) (.ofNat j) = true := by rw [ilt_eq]; simpa using hlt
      obtain ⟨ei, hei⟩ : ∃ e, es[i]? = some e := ⟨es[i], by simp [h1, hin]⟩
      obtain ⟨ej, hej⟩ : ∃ e, es[j]? = some e := ⟨es[j], by simp [h1, hjn]⟩
      have hmi := List.mem_of_getElem? hei
      have hmj := List.mem_of_getElem? hej
      have l1 := load_rows hg h2 hei
      have l2 := load_rows hg h2 hej
      have s1 := fun k => store_rows (β := Out × AH) (i := i) hg h2 (h2 _ hmj) (by omega) k
      have hes1 : ∀ e ∈ es.set i ej, e.length = 8 := fun e he => (List.mem_or_eq_of_mem_set he).elim (h2 e) fun h => h ▸ h2 _ hmj
      have s2 := fun k => store_rows (β := Out × AH) (i := j) (σ := σ.put b (some (.cells false (rows pre (es.set i ej) post)))) (AH.get_put_same _ _ _) hes1 (h2 _ hmi) (by simp; omega) k
      have c1 : wrF .i64 (Int.ofNat i + Int.ofNat 1) = .ofNat (i + 1) := by rw [wrF_i64] <;> simp only [Int.ofNat_eq_natCast] <;> omega
      have c2 : wrF .i64 (Int.ofNat j - Int.ofNat 1) = (n : Int) - 1 - (i + 1 : Nat) := by rw [wrF_i64] <;> simp only [Int.ofNat_eq_natCast] <;> omega
      obtain ⟨ρ1, hev, g0, g2, g3⟩ : ∃ ρ1, evCode tbl call rounds rev193 ρ σ = some (.norm, ρ1, (σ.put b (some (.cells false (rows pre ((es.set i ej).set j ei) post))))) ∧
          ρ1.get q0 = some (.slc b pre.length n c) ∧ ρ1.get q2 = some (.int .i64 (.ofNat (i + 1))) ∧ ρ1.get q3 = some (.int .i64 ((n : Int) - 1 - (i + 1 : Nat))) := by
        simp (decide := true) only [rev193, fn193, evCode_seq, evCode_region, evCode_cond, evCode_drawn, evCode_block, evCode_loop, evCode_skip, evCode_ret, evCode_exit, evOps_op, evOps_nil, evOps_guard, thenG_tt, thenG_ff, thenG_tf, thenG_ft, thenG_un, runOp_guard, thenVG_tt, thenVG_ff, thenVG_tf, thenVG_ft, thenVG_un, evOp, evTmp, evConst, AO.evs, Tr.get_set, Tr.get_lf, val, valO, thenC_norm, thenC_ret, thenC_exit, thenC_pan, onBool_true, onBool_false, thenOp_val, thenOp_pan, thenL_norm, thenL_ret, thenL_exit, thenL_pan, inBlk_norm, inBlk_ret, inBlk_pan, inBlk_exit, evPlan_nil, evPlan_cons, evSt_nil, evSt_cons, evSt_eff, runOp_some, effOp_some, thenV_val, thenE_val, nthR_zero, nthR_succ, eput_some, eput_none, if_true, if_false, Option.getD_some, Option.getD_none, cond_true, cond_false, beq_self_eq_true, fN_k, reduceCtorEq, Nat.beq_refl, Bool.and_self, Bool.and_true, Bool.true_and, Bool.false_and, Bool.and_false, Bool.or_true, Bool.true_or, Bool.or_false, Bool.false_or, Bool.not_true, Bool.not_false, Option.isNone_none, Option.isNone_some, r0, r2, r3, evBin, hcmp, evIx, blt_true hjn, blt_true hin, l1, l2, AV.cells, h2 _ hmj, h2 _ hmi, h3 _ hmj, h3 _ hmi, Nat.beq_refl,
          Bool.and_self, s1, s2, outI, fI_eq, AH.put_put, c1, c2]
        exact ⟨_, rfl, by simp (decide := true) only [Tr.get_set, r0, if_false], by simp (decide := true) only [Tr.get_set, if_true, if_false], by simp (decide := true) only [Tr.get_set, if_true, if_false]⟩
      have hm2 : ∀ e ∈ (es.set i ej).set j ei, e ∈ es := fun e he => (List.mem_or_eq_of_mem_set he).elim (fun h => (List.mem_or_eq_of_mem_set h).elim id fun h => h ▸ hmj) fun h => h ▸ hmi
      obtain ⟨ρ', es', a1, a2, a3, a4⟩ := rev_loop hn k ρ1 (σ.put b (some (.cells false (rows pre ((es.set i ej).set j ei) post)))) ((es.set i ej).set j ei) (i + 1) (by simp [h1])
        (fun e he => h2 e (hm2 e he)) (fun e he => h3 e (hm2 e he)) g0 g2 g3 (AH.get_put_same _ _ _) (by omega) (by omega)
      refine ⟨ρ', es', ?_, a2, fun e he => hm2 e (a3 e he), ?_⟩
      · rw [hev, thenL_norm, a1, AH.put_put]
      · intro m hm
        rw [a4 m hm]
        have hs : ∀ x, ((es.set i ej).set j ei)[x]? = if j = x then (if x < n then some ei else none) else if i = x then (if x < n then some ej else none) else es[x]? := by
          intro x; simp only [List.getElem?_set, h1, List.length_set]
          by_cases e1 : j = x
          · subst e1; simp
          · by_cases e2 : i = x
            · subst e2; simp [e1]
            · simp [e1, e2]
        rw [hs, hs]
        by_cases c1 : i + 1 ≤ m ∧ m < n - (i + 1)
        · rw [if_pos c1, if_neg (by omega), if_neg (by omega), if_pos (by omega)]
        · rw [if_neg c1]
          by_cases c2 : j = m
          · subst c2
            rw [if_pos rfl, if_pos hm, if_pos (by omega), show n - 1 - j = i by omega, hei]
          · rw [if_neg c2]
            by_cases c3 : i = m
            · subst c3
              rw [if_pos rfl, if_pos hm, if_pos (by omega), show n - 1 - i = j by omega, hej]
            · rw [if_neg c3, if_neg (by omega)]
    · refine ⟨(((ρ.set (some (.int .i64 (.ofNat i))) q7).set (some (.int .i64 ((n : Int) - 1 - i))) q8).set (some (.bool false)) q9), es, ?_, h1, fun _ h => h, ?_⟩
      · have hcmp : ilt (.ofNat i) ((n : Int) - 1 - i) = false := by rw [ilt_eq]; simpa using hlt
        rw [AH.put_self hg]
        have e1 : evCode tbl call rounds rev193 ρ σ =
          some (.exit 0, (((ρ.set (some (.int .i64 (.ofNat i))) q7).set (some (.int .i64 ((n : Int) - 1 - i))) q8).set (some (.bool false)) q9), σ) := by
          simp (decide := true) only [rev193, fn193, evCode_seq, evCode_region, evCode_cond, evCode_drawn, evCode_block, evCode_loop, evCode_skip, evCode_ret, evCode_exit, evOps_op, evOps_nil, evOps_guard, thenG_tt, thenG_ff, thenG_tf, thenG_ft, thenG_un, runOp_guard, thenVG_tt, thenVG_ff, thenVG_tf, thenVG_ft, thenVG_un, evOp, evTmp, evConst, AO.evs, Tr.get_set, Tr.get_lf, val, valO, thenC_norm, thenC_ret, thenC_exit, thenC_pan, onBool_true, onBool_false, thenOp_val, thenOp_pan, thenL_norm, thenL_ret, thenL_exit, thenL_pan, inBlk_norm, inBlk_ret, inBlk_pan, inBlk_exit, evPlan_nil, evPlan_cons, evSt_nil, evSt_cons, evSt_eff, runOp_some, effOp_some, thenV_val, thenE_val, nthR_zero, nthR_succ, eput_some, eput_none, if_true, if_false, Option.getD_some, Option.getD_none, cond_true, cond_false, beq_self_eq_true, fN_k, reduceCtorEq, Nat.beq_refl, Bool.and_self, Bool.and_true, Bool.true_and, Bool.false_and, Bool.and_false, Bool.or_true, Bool.true_or, Bool.or_false, Bool.false_or, Bool.not_true, Bool.not_false, Option.isNone_none, Option.isNone_some, r2, r3, evBin, hcmp]
        rw [e1]; rfl
      · intro m hm
        split
        · rw [show n - 1 - m = m by omega]
        · rfl

theorem rev_sound {tbl : Disp} {call : Call} {rounds : Nat} {b : Pos} {o n : Nat} {c : Cap} {pre post : List AV} {σ : AH} {es : List (List AV)} (hn : n ≤ 1000000000000) (hr : n + 2 ≤ 2 * rounds)
    (ho : pre.length = o) (h1 : es.length = n) (h2 : ∀ e ∈ es, e.length = 8) (h3 : ∀ e ∈ es, okVals e = true) (hg : σ.get b = some (.cells false (rows pre es post))) :
    evFn tbl call rounds fn193 [.slc b o n c] σ = some (.val unA, σ.put b (some (.cells false (rows pre es.reverse post)))) := by
  subst ho
  rw [evFn_eq _ _ rfl]
  have c1 : wrF .i64 (Int.ofNat n - Int.ofNat 1) = (n : Int) - 1 - (0 : Nat) := by rw [wrF_i64] <;> simp only [Int.ofNat_eq_natCast] <;> omega
  obtain ⟨ρ1, e0, g0, g2, g3⟩ : ∃ ρ1, evCode tbl call rounds (.region [r q4 (.mv t0),r q5 (.len 1 t4),r q6 (.bin .sub t5 (ci 1)),r q2 (.mv (ci 0)),r q3 (.mv t6)]) (envOf 0 .lf [.slc b pre.length n c]) σ = some (.norm, ρ1, σ) ∧
      ρ1.get q0 = some (.slc b pre.length n c) ∧ ρ1.get q2 = some (.int .i64 (.ofNat 0)) ∧ ρ1.get q3 = some (.int .i64 ((n : Int) - 1 - (0 : Nat))) := by
    simp (decide := true) only [evCode_seq, evCode_region, evCode_cond, evCode_drawn, evCode_block, evCode_loop, evCode_skip, evCode_ret, evCode_exit, evOps_op, evOps_nil, evOps_guard, thenG_tt, thenG_ff, thenG_tf, thenG_ft, thenG_un, runOp_guard, thenVG_tt, thenVG_ff, thenVG_tf, thenVG_ft, thenVG_un, evOp, evTmp, evConst, AO.evs, Tr.get_set, Tr.get_lf, val, valO, thenC_norm, thenC_ret, thenC_exit, thenC_pan, onBool_true, onBool_false, thenOp_val, thenOp_pan, thenL_norm, thenL_ret, thenL_exit, thenL_pan, inBlk_norm, inBlk_ret, inBlk_pan, inBlk_exit, evPlan_nil, evPlan_cons, evSt_nil, evSt_cons, evSt_eff, runOp_some, effOp_some, thenV_val, thenE_val, nthR_zero, nthR_succ, eput_some, eput_none, if_true, if_false, Option.getD_some, Option.getD_none, cond_true, cond_false, beq_self_eq_true, fN_k, reduceCtorEq, Nat.beq_refl, Bool.and_self, Bool.and_true, Bool.true_and, Bool.false_and, Bool.and_false, Bool.or_true, Bool.true_or, Bool.or_false, Bool.false_or, Bool.not_true, Bool.not_false, Option.isNone_none, Option.isNone_some, envOf, evBin, outI, fI_eq, c1]
    exact ⟨_, rfl, by simp (decide := true) only [Tr.get_set, if_true, if_false], by simp (decide := true) only [Tr.get_set, if_true, if_false], by simp (decide := true) only [Tr.get_set, if_true, if_false]⟩
  obtain ⟨ρ', es', a1, a2, a3, a4⟩ := rev_loop (tbl := tbl) (call := call) (rounds := rounds) (c := c) hn rounds ρ1 σ es 0 h1 h2 h3 g0 g2 g3 hg (by omega) (by omega)
  have hes : es' = es.reverse := by
    apply List.ext_getElem?
    intro m
    by_cases hm : m < n
    · rw [a4 m hm, if_pos (by omega), List.getElem?_reverse (by omega), h1]
    · rw [List.getElem?_eq_none (by omega), List.getElem?_eq_none (by simp; omega)]
  have e1 : fn193.body = .seq (.region [r q4 (.mv t0),r q5 (.len 1 t4),r q6 (.bin .sub t5 (ci 1)),r q2 (.mv (ci 0)),r q3 (.mv t6)]) (.block 0 (.loop rev193)) := rfl
  rw [e1, evCode_seq, e0, thenC_norm, evCode_block, evCode_loop, a1, inBlk_exit, hes]
  rfl

theorem ble_true {a b : Nat} (h : a ≤ b) : Nat.ble a b = true := by rw [Nat.ble_eq]; exact h
theorem ble_false {a b : Nat} (h : b < a) : Nat.ble a b = false := by rw [← Bool.not_eq_true, Nat.ble_eq]; omega
theorem blt_false {a b : Nat} (h : b ≤ a) : Nat.blt a b = false := by rw [← Bool.not_eq_true, Nat.blt_eq]; omega
theorem beq_false {a b : Nat} (h : a ≠ b) : Nat.beq a b = false := by rw [← Bool.not_eq_true]; exact fun e => h (Nat.eq_of_beq_eq_true e)
theorem rows_app1 {α : Type} (pre post : List α) (A B : List (List α)) : rows pre (A ++ B) post = rows pre A (B.flatten ++ post) := by simp [rows]
theorem rows_app2 {α : Type} (pre post : List α) (A B : List (List α)) : rows pre (A ++ B) post = rows (pre ++ A.flatten) B post := by simp [rows]

def RevOK (call : Call) (f : Pos) (sz N : Nat) : Prop :=
  ∀ {b : Pos} {o n : Nat} {c : Cap} {pre post : List AV} {σ : AH} {es : List (List AV)}, n ≤ N → pre.length = o → es.length = n → (∀ e ∈ es, e.length = sz) → (∀ e ∈ es, okVals e = true) →
      σ.get b = some (.cells false (rows pre es post)) → call f [.slc b o n c] σ = some (.val unA, σ.put b (some (.cells false (rows pre es.reverse post))))

theorem rot_sound {tbl : Disp} {call : Call} {rounds N : Nat} (hrev : RevOK call q193 8 N) {b : Pos} {o n m k : Nat} {pre post : List AV} {σ : AH} {A B : List (List AV)}
    (hn : n ≤ N) (ho : pre.length = o) (hA : A.length = m) (h1 : A.length + B.length = n) (hm : m < n) (hc : n ≤ k)
    (h2 : ∀ e ∈ A ++ B, e.length = 8) (h3 : ∀ e ∈ A ++ B, okVals e = true) (hg : σ.get b = some (.cells false (rows pre (A ++ B) post))) :
    evFn tbl call rounds fn181 [.slc b o n (.known k), .int .i64 (.ofNat m)] σ = some (.val unA, σ.put b (some (.cells false (rows pre (B ++ A) post)))) := by
  subst ho
  rw [evFn_eq _ _ rfl]
  have hA2 : ∀ e ∈ A, e.length = 8 := fun e he => h2 e (by simp [he])
  have hB2 : ∀ e ∈ B, e.length = 8 := fun e he => h2 e (by simp [he])
  have hA3 : ∀ e ∈ A, okVals e = true := fun e he => h3 e (by simp [he])
  have hB3 : ∀ e ∈ B, okVals e = true := fun e he => h3 e (by simp [he])
  have r1 := hrev (b := b) (o := pre.length) (n := m) (c := .known k) (post := B.flatten ++ post) (by omega) rfl hA hA2 hA3 (by rw [hg, rows_app1])
  have r2 := hrev (b := b) (o := pre.length + m * 8) (n := n - m) (c := .known (k - m)) (pre := pre ++ A.reverse.flatten) (post := post) (σ := σ.put b (some (.cells false (rows pre A.reverse (B.flatten ++ post)))))
    (by omega) (by rw [List.length_append, rflat_len (sz := 8) (fun e he => hA2 e (by simpa using he))]; simp [hA]) (by omega) hB2 hB3 (by rw [AH.get_put_same, ← rows_app1, rows_app2])
  rw [AH.put_put, ← rows_app2] at r2
  have r3 := hrev (b := b) (o := pre.length) (n := n) (c := .known k) (pre := pre) (post := post) (σ := σ.put b (some (.cells false (rows pre (A.reverse ++ B.reverse) post)))) (es := A.reverse ++ B.reverse)
    hn rfl (by simp; omega) (fun e he => h2 e (by simpa using he)) (fun e he => h3 e (by simpa using he)) (AH.get_put_same _ _ _)
  rw [AH.put_put, List.reverse_append, List.reverse_reverse, List.reverse_reverse] at r3
  have e1 : Nat.beq k 0 = false := beq_false (by omega)
  have e2 : Nat.beq k m = false := beq_false (by omega)
  simp (decide := true) only [fn181, evCode_seq, evCode_region, evCode_cond, evCode_drawn, evCode_block, evCode_loop, evCode_skip, evCode_ret, evCode_exit, evOps_op, evOps_nil, evOps_guard, thenG_tt, thenG_ff, thenG_tf, thenG_ft, thenG_un, runOp_guard, thenVG_tt, thenVG_ff, thenVG_tf, thenVG_ft, thenVG_un, evOp, evTmp, evConst, AO.evs, Tr.get_set, Tr.get_lf, val, valO, thenC_norm, thenC_ret, thenC_exit, thenC_pan, onBool_true, onBool_false, thenOp_val, thenOp_pan, thenL_norm, thenL_ret, thenL_exit, thenL_pan, inBlk_norm, inBlk_ret, inBlk_pan, inBlk_exit, evPlan_nil, evPlan_cons, evSt_nil, evSt_cons, evSt_eff, runOp_some, effOp_some, thenV_val, thenE_val, nthR_zero, nthR_succ, eput_some, eput_none, if_true, if_false, Option.getD_some, Option.getD_none, cond_true, cond_false, beq_self_eq_true, fN_k, reduceCtorEq, Nat.beq_refl, Bool.and_self, Bool.and_true, Bool.true_and, Bool.false_and, Bool.and_false, Bool.or_true, Bool.true_or, Bool.or_false, Bool.false_or, Bool.not_true, Bool.not_false, Option.isNone_none, Option.isNone_some, envOf, evSlice, evBd, evIx, ble_true (show m ≤ k by omega), ble_true (show k ≤ k by omega), ble_true (show m ≤ n by omega), ble_true hc, Nat.zero_le, ble_true (show 0 ≤ m by omega), e1, e2, Bool.and_true, Bool.or_true, Bool.true_or, Option.isNone_none,
    Nat.zero_mul, Nat.add_zero, Nat.sub_zero, r1, r2, r3, fnEnd, evRes, packRes]
  rfl

end Go.Proofs.YtgaoddafkjdecaaGreat.EV
