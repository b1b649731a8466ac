/-
  EV, part X6: the summary of slices.Insert (at cells) is sound: the joining. Own work of this claim.
-/
import Derived.Test.YtgaoddafkjdecaaGreatEvX5
set_option linter.unusedVariables false
set_option linter.unusedSimpArgs false
namespace Go.Proofs.YtgaoddafkjdecaaGreat.EV
open Go.Proofs Go.RowKit

theorem envOf_get : ∀ (args : List AV) (n : Nat) (ρ : Env) (i : Nat), (envOf n ρ args).get (tp i) = if n ≤ i ∧ i < n + args.length then args[i - n]? else ρ.get (tp i)
  | [], n, ρ, i => by
    rw [if_neg]
    · rfl
    · simp
  | x :: args, n, ρ, i => by
    simp only [envOf]
    rw [envOf_get args (n + 1) _ i]
    by_cases hi : i = n
    · subst hi
      rw [if_neg (by omega), if_pos (by simp), Tr.get_set_same]
      simp
    · have hne : tp i ≠ tp n := fun h => hi (tp_inj h)
      rw [Tr.get_set_ne _ _ hne]
      simp only [List.length_cons]
      by_cases hr : n + 1 ≤ i ∧ i < n + 1 + args.length
      · rw [if_pos hr, if_pos (by omega), show i - n = (i - (n + 1)) + 1 by omega]
        simp
      · rw [if_neg hr, if_neg (by omega)]

theorem ra_init {μ : Mu} {args : List AV} {cargs : Array Value} {nt : Nat} (hargs : RVs μ args cargs.toList) (hle : args.length ≤ nt) :
    RA μ nt (envOf 0 .lf args) { tmps := cargs ++ Array.replicate (nt - cargs.size) undef, defers := [] } := by
  have hsz : cargs.size = args.length := by rw [hargs.length]; simp
  refine ⟨by simp; omega, rfl, fun i => ?_⟩
  rw [envOf_get]
  by_cases hi : i < args.length
  · rw [if_pos (by omega)]
    obtain ⟨v, hv, rv⟩ := hargs.get (show args[i]? = some args[i] by simp [hi])
    have : (cargs ++ Array.replicate (nt - cargs.size) undef).getD i undef = v := by
      rw [Array.getD_eq_getD_getElem?, Array.getElem?_append_left (by omega), ← Array.getElem?_toList, hv]
      rfl
    simp only [this]
    simpa [hi] using rv
  · rw [if_neg (by omega)]
    have : (cargs ++ Array.replicate (nt - cargs.size) undef).getD i undef = undef := by
      rw [Array.getD_eq_getD_getElem?, Array.getElem?_append_right (by omega), Array.getElem?_replicate]
      split <;> rfl
    simp only [this]
    have hlf : (Tr.lf : Env).get (tp i) = none := Tr.get_lf _
    rw [hlf]
    exact RV_unA μ

theorem tryz_mixed : Tryz.prog.follows .mixedOrders = true := by kernel_rfl

theorem plainBook_ok : BookOK Tryz.prog ["Page"] insBook where
  mixed := tryz_mixed
  disp := tblT_ok
  prims := fun f p h => by simp [insBook] at h
  fns := fns_of fnsT_eq fnsL_ok

theorem plainCall_ok (r n : Nat) : CallOK Tryz.prog (insBook.call r n) := book_sound plainBook_ok r n

theorem ins_res : cRes Tryz.prog Tryz.f122.results.toList = some [.tmp q6] := by kernel_rfl
theorem ins_ntmps : Tryz.f122.ntmps = 95 := by kernel_rfl
theorem ins_155 : (Tryz.f155.name == "runtime.NumGoroutine") = false ∧ Tryz.f155.body.isNone = true := by constructor <;> kernel_rfl

/-- the end: what is told of what the evaluator came to -/
theorem ins_fin {μ : Mu} {σ σ1 σ' : AH} {w w' : World} {ρ' : Env} {a' : Act} {o1 o' : AV} {μ1 : Mu} (hst : Step μ σ w μ1 σ1 w') (hA : RA μ1 95 ρ' a') (h6 : ρ'.get q6 = some o1)
    (hweak : ∀ v, RV μ1 o1 v → ∃ μ', Step μ σ w μ' σ' w' ∧ RV μ' o' v) :
    bodyPost Tryz.prog Tryz.f122 (fun e w' => ∃ μ', Step μ σ w μ' σ' w' ∧ RelOut μ' (.val o') e) .ret a' w' := by
  have hl : evRes ρ' σ1 [.tmp q6] = some [o1] := by
    simp only [evRes, evTmp, h6, Option.getD_some]
  obtain ⟨v, h1, h2⟩ := results_sound hst.rel hA ins_res hl
  obtain ⟨μ', h3, h4⟩ := hweak v h2
  exact ⟨hA.defers, v, h1, μ', h3, v, rfl, h4⟩

theorem ins_pre {μ : Mu} {σ σ' : AH} {w : World} {ρ' : Env} {args : List AV} {cargs : Array Value} {o' : AV} {r n : Nat} (hR : Rel μ σ w) (hargs : RVs μ args cargs.toList) (hlen : args.length = 3)
    (hev : evSeq tblT (insBook.call r n) r inL (envOf 0 .lf args) σ = some (.ret, ρ', σ')) (h6 : ρ'.get q6 = some o') :
    Calls Tryz.prog 122 cargs w fun e w' => ∃ μ', Step μ σ w μ' σ' w' ∧ RelOut μ' (.val o') e := by
  refine calls_of_wp Tryz.func122 ins_body ?_
  rw [ins_ntmps]
  refine seqs_sound (plainCall_ok r n) tblT_ok tryz_mixed insPre inL μ σ w _ _ ins_acs hev hR (ra_init hargs (by omega)) (fun h => by cases h) ?_
  rintro - e a' w' ⟨μ1, hst, hA, hx⟩
  simp only [RelX] at hx
  subst hx
  exact ins_fin hst hA h6 fun v hv => ⟨μ1, hst, hv⟩

theorem ins_f155 : (Extern.find Tryz.f155).isSome = true := by kernel_rfl
theorem ins_n155 : Extern.findNext Tryz.f155 = none := by kernel_rfl
theorem ins_e155 : Extern.find Tryz.f155 = some (Extern.SlicesOverlaps.overlaps #[99, 99] #[1]) := by kernel_rfl
theorem ins_t99 : Tryz.prog.underlying 99 = some (.slice 88) := by kernel_rfl
theorem ins_s88 : sizeT Tryz.prog 88 = some 8 := by kernel_rfl

/-- codes one after the other, the first of which stands in a pair of its own -/
theorem pair_sound {P : Program} {ms : List String} {w : World} {μ : Mu} {σ σ' : AH} {nt : Nat} {ρ ρ' : Env} {a : Act} {tbl : Disp} {call : Call}
    (hC : CallOK P call) (hD : DispOK P ms tbl) (hmo : P.follows .mixedOrders = true) {rounds : Nat} {c d : Code} {cs : List Code} {ac : ACode} {acs : List ACode} {Q : Exit → Act → World → Prop} {x : AX}
    (h1 : cCode P ms nt c = some ac) (h2 : cCodes P ms nt cs = some acs) (hev : evSeq tbl call rounds (ac :: acs) ρ σ = some (x, ρ', σ')) (hR : Rel μ σ w) (hA : RA μ nt ρ a)
    (hn : x = .norm → ∀ μ' a' w', Step μ σ w μ' σ' w' → RA μ' nt ρ' a' → d.wp P Q a' w')
    (hx : x ≠ .norm → ∀ e a' w', Fin nt μ σ w x ρ' σ' e a' w' → Q e a' w') :
    c.wp P (Exit.then ((seqs cs d).wp P Q) Q) a w := by
  simp only [evSeq] at hev
  split at hev
  · rename_i ρ1 σ1 hev1
    refine wp_mono (code_sound hC hD hmo c ac h1 μ σ w ρ a _ _ _ hev1 hR hA) ?_
    rintro e a1 w1 ⟨μ1, hst, hA1, hxe⟩
    simp only [RelX] at hxe
    subst hxe
    refine seqs_sound hC hD hmo cs acs μ1 σ1 w1 ρ1 a1 h2 hev hst.rel hA1 (fun e μ' a' w' hs ha => hn e μ' a' w' (hst.trans hs) ha) ?_
    intro hne e a' w' hf
    exact hx hne e a' w' (hf.trans hst)
  · rename_i hne
    refine wp_mono (code_sound hC hD hmo c ac h1 μ σ w ρ a _ _ _ hev hR hA) ?_
    intro e a1 w1 hf
    have hxn : x ≠ .norm := by rintro rfl; exact hne _ _ hev
    obtain ⟨μ1, hst, hA1, hxe⟩ := id hf
    have := hx hxn e a1 w1 hf
    cases x with
    | norm => exact absurd rfl hxn
    | exit id => simp only [RelX] at hxe; subst hxe; exact this
    | ret => simp only [RelX] at hxe; subst hxe; exact this
    | pan v => simp only [RelX] at hxe; obtain ⟨v', rfl, hv⟩ := hxe; exact this

noncomputable def ins6 : Oper := (insOps[6]?).getD default
noncomputable def ins6c : Go.Call := match ins6.op with
  | .call c => c
  | _ => default
theorem ins6_a : insOps[6]? = some ins6 := by kernel_rfl
theorem ins6_b : ins6.dst = some 67 := by kernel_rfl
theorem ins6_c : ins6.guard = none := by kernel_rfl
theorem ins6_d : ins6.op = .call ins6c := by kernel_rfl
theorem ins6_e : ins6c.callee = .value (.func 155) := by kernel_rfl
theorem ins6_f : ins6c.args = #[.tmp 61, .tmp 66] := by kernel_rfl
theorem ins_sz : insOps.size = 8 := by kernel_rfl
theorem ins_if : ∃ c, cCode Tryz.prog ["Page"] 95 insIf = some c ∧ ∃ l, cCodes Tryz.prog ["Page"] 95 [sFst insC0, sFst insC1, sFst insC2] = some l ∧ c :: l = inT := by
  have h := ins_acr
  simp only [insRest] at h
  unfold cCodes at h
  split at h
  · rename_i a r h1 h2
    exact ⟨a, h1, r, h2, by simpa using h⟩
  · cases h

section
variable {μ : Mu} {σ : AH} {w : World} {b b2 : Pos} {o n m i o2 : Nat} {c2 : Cap} {L cs vs : List AV} {cargs : Array Value}

set_option maxRecDepth 100000 in
/-- the region with the test of overlap -/
theorem ins_region {k rd : Nat} {ρ : Env} {a : Act} {p : Plc} {L : List AV} {Q : Exit → Act → World → Prop} (hm : 0 < m) (hin : i < n) (hk : n + m ≤ k) (hsz : n + m ≤ 1000000000) (hR : Rel μ σ w) (hA : RA μ 95 ρ a)
    (hb : σ.get b = some (.cells false L)) (hp : μ b = some p) (hc : o + k * 8 = p.cap) {L2 : List AV} {ro2 : Bool} {p2 : Plc} (hb2 : σ.get b2 = some (.cells ro2 L2)) (hp2 : μ b2 = some p2) (hbn : b ≠ b2)
    (g0 : ρ.get q0 = some (.slc b o (n + m) (.known k))) (g1 : ρ.get q1 = some (.int .i64 (.ofNat i))) (g2 : ρ.get q2 = some (.slc b2 o2 m c2)) (g7 : ρ.get q7 = some (.int .i64 (.ofNat m))) (g8 : ρ.get q8 = some (.int .i64 (.ofNat n)))
    (hQ : ∀ β μ' ρ' a' w', Step μ σ w μ' σ w' → RA μ' 95 ρ' a' → ρ'.get q0 = some (.slc b o (n + m) (.known k)) → ρ'.get q1 = some (.int .i64 (.ofNat i)) → ρ'.get q2 = some (.slc b2 o2 m c2) →
      ρ'.get q7 = some (.int .i64 (.ofNat m)) → ρ'.get q8 = some (.int .i64 (.ofNat n)) → ρ'.get q68 = some (.bool !β) → Q .normal a' w') :
    (Code.region 14 insOps false).wp Tryz.prog Q a w := by
  refine wp_region ?_
  obtain ⟨ρ1, hev, f0, f1, f2, f7, f8, f61, f66⟩ := in_ops6 (tbl := tblT) (call := insBook.call rd 3) (σ := σ) hm hin hk hsz g0 g1 g2 g7 g8
  have hrange : List.range insOps.size = List.range' 0 (insOps.toList.take 6).length ++ [6, 7] := by
    rw [ins_sz]
    have : insOps.toList.length = 8 := by rw [Array.length_toList]; exact ins_sz
    rw [List.length_take, this]; rfl
  rw [hrange]
  refine evOps_sound2 (plainCall_ok rd 3) tblT_ok _ inR6 0 μ σ w ρ a ?_ ins_r6 hev hR hA ?_
  · intro j hj
    rw [Nat.zero_add, List.getElem?_take_of_lt (by simp at hj; omega)]
    simp
  intro μ1 a1 w1 hst1 hA1
  -- (no block is made: the names are as they were)
  have hmu : μ1 = μ1 := rfl
  have e61 := hA1.get 61
  have e66 := hA1.get 66
  rw [show tp 61 = q61 from rfl, f61, Option.getD_some] at e61
  rw [show tp 66 = q66 from rfl, f66, Option.getD_some] at e66
  have e66' := e66
  simp only [RV] at e66
  obtain ⟨p1, hp1, e66⟩ := e66
  have hp1' := hst1.le b p hp
  rw [hp1'] at hp1; cases hp1
  have hpb2 := hst1.le b2 p2 hp2
  have hv : ∃ a2 cc, a1.tmps.getD 61 undef = .slice (some ⟨p2.blk, a2, none⟩) m cc := by
    simp only [RV] at e61
    obtain ⟨q2', h1, h2⟩ := e61
    rw [hpb2] at h1; cases h1
    cases c2 with
    | known c => exact ⟨_, _, h2⟩
    | opn s =>
      obtain ⟨a2, cap, h3, h4, h5, h6⟩ := h2
      rcases h6 with rfl | h6
      · exact ⟨_, _, h3⟩
      · omega
  obtain ⟨a2, cc, hv⟩ := hv
  rw [wpOps_cons]
  unfold wpOp
  simp only [ins6_a, Region.wanted, ins6_c, if_true]
  refine .inl ?_
  unfold Oper.wp
  rw [exec_callF ins6_d ins6_e, ins6_f]
  simp only [List.map_toArray, List.map_cons, List.map_nil, Act.eval, hv, e66]
  rw [run_callFunc_extern Tryz.func155 ins_155.1 ins_155.2 ins_n155 ins_e155]
  obtain ⟨cA, eA, frA, k1, k2, k3, k4, k5⟩ := hst1.rel.blk b _ p hb hp1'
  obtain ⟨cB, eB, frB, j1, j2, j3, j4, j5⟩ := hst1.rel.blk b2 _ p2 hb2 hpb2
  obtain ⟨β, w2, ho, hw2⟩ := overlaps_any (P := Tryz.prog) w1 99 1 88 ins_t99 8 (fun w => run_sizeOf ins_s88) ⟨p2.blk, a2, none⟩ ⟨p.blk, p.base + (o + (i + m) * 8), none⟩ m cc (n - i) (k - (i + m))
    (hst1.rel.inj b _ p b2 _ p2 hb rfl hp1' hb2 hpb2 hbn).symm eB eA cB.size cA.size (by show w1.shape? p2.blk = _; unfold World.shape?; rw [j1]) (by show w1.shape? p.blk = _; unfold World.shape?; rw [k1]) (by
      simp only [World.frozen?, k1]
      rcases k4 rfl with h | h
      · simp; omega
      · simp; omega)
  rw [ho]
  simp only [Result.andThen_ok]
  rw [Oper.upon_value, ins6_b]
  have hst2 : Step μ1 σ w1 μ1 σ w2 := by
    rcases hw2 with rfl | rfl
    · exact Step.refl hst1.rel
    · exact Step.draw hst1.rel _
  have hA2 : RA μ1 95 (ρ1.set (some (.bool β)) q67) (a1.put (some 67) (.bool β)) := hA1.put (d := 67) (by omega) (x := .bool β) rfl
  have g67 : (ρ1.set (some (.bool β)) q67).get q67 = some (.bool β) := Tr.get_set_same _ _ _
  have hev2 := in_op1 (tbl := tblT) (call := insBook.call rd 3) (σ := σ) g67
  have hlen : (insOps.toList.drop 7).length = 1 := by
    have : insOps.toList.length = 8 := by rw [Array.length_toList]; exact ins_sz
    rw [List.length_drop, this]
  rw [show [7] = List.range' 7 (insOps.toList.drop 7).length ++ [] by rw [hlen]; rfl]
  refine evOps_sound2 (plainCall_ok rd 3) tblT_ok _ inR1 7 μ1 σ w2 _ _ ?_ ins_r1 hev2 hst2.rel hA2 ?_
  · intro j hj
    rw [List.getElem?_drop]
    simp
  intro μ3 a3 w3 hst3 hA3
  refine hQ β μ3 _ a3 w3 ((hst1.trans hst2).trans hst3) hA3 ?_ ?_ ?_ ?_ ?_ ?_
  · simp (decide := true) only [Tr.get_set, if_false, f0]
  · simp (decide := true) only [Tr.get_set, if_false, f1]
  · simp (decide := true) only [Tr.get_set, if_false, f2]
  · simp (decide := true) only [Tr.get_set, if_false, f7]
  · simp (decide := true) only [Tr.get_set, if_false, f8]
  · simp (decide := true) only [Tr.get_set, if_true]

theorem bk193 : insBook.fns.get q193 = some fn193 := by kernel_rfl
theorem bk181 : insBook.fns.get q181 = some fn181 := by kernel_rfl
theorem bk156 : insBook.fns.get q156 = some fn156 := by kernel_rfl
theorem bkp (f : Pos) : insBook.prims.get f = none := Tr.get_lf f

theorem bk_rev {rd N d : Nat} (hN : N ≤ 1000000000000) (hr : N + 2 ≤ 2 * rd) : RevOK (insBook.call rd (d + 1)) q193 8 N := by
  intro b o n c pre post σ es h1 h2 h3 h4 h5 h6
  rw [evBook_fn (bkp _) bk193]
  exact rev_sound (by omega) (by omega) h2 h3 h4 h5 h6

theorem load_inv {σ : AH} {b : Pos} {o n : Nat} {l : List AV} (h : σ.load b o n = some l) : ∃ ro L, σ.get b = some (.cells ro L) ∧ l.length = n ∧ ∀ a ∈ l, a ∈ L := by
  obtain ⟨ro, cs, h1, h2, h3, h4⟩ := load_some h
  exact ⟨ro, cs, h1, h4, fun a ha => by subst h3; exact List.mem_of_mem_drop (List.mem_of_mem_take ha)⟩

theorem mem_chunks_flat {sz m : Nat} {l : List AV} (h : l.length = m * sz) : (chunks sz m l).flatten = l := by
  rw [chunks_flat, ← h, List.take_length]

/-- in the middle -/
theorem ins_mid (hm : 0 < m) (hin : i < n) (hsm : small (n + m) 88 = true) (hR : Rel μ σ w) (hb : σ.get b = some (.cells false L)) (hcs : ltake (n * 8) (ldrop o L) = some cs)
    (hl : σ.load b2 o2 (m * 8) = some vs) (hbn : b ≠ b2) (hok : okVals cs = true) (hvs : okVals vs = true)
    (hargs : RVs μ [.slc b o n (.opn 8), .int .i64 (.ofNat i), .slc b2 o2 m c2] cargs.toList) :
    Calls Tryz.prog 122 cargs w fun e w' => ∃ μ', Step μ σ w μ' ((σ.put b none).new (.cells false (cs.take (i * 8) ++ (vs ++ cs.drop (i * 8))))) w' ∧ RelOut μ' (.val (.slc σ.nx 0 (n + m) (.opn 8))) e := by
  have hsz : n + m ≤ 1000000000 := by
    have := Nat.le_of_ble_eq_true hsm
    omega
  obtain ⟨hcl, hce⟩ := ltake_some hcs
  rw [ldrop_eq] at hcl hce
  have hcslen : cs.length = n * 8 := by rw [hce, List.length_take]; omega
  have hLlen : o + n * 8 ≤ L.length := by
    rw [List.length_drop] at hcl
    have : 0 < n * 8 := by omega
    omega
  obtain ⟨ro2, L2, hb2, hvl, hvm⟩ := load_inv hl
  have hargs0 := hargs
  simp only [RVs] at hargs
  obtain ⟨v0, r0, e0, h0, v1, r1, e1, h1, v2, r2, e2, h2, e3⟩ := hargs
  subst e3 e2 e1
  simp only [RV] at h0
  obtain ⟨p, hp, ad, cap, ev, hncap, hpc, had⟩ := h0
  have had : ad = ⟨p.blk, p.base + o, none⟩ := by rcases had with h | h; exact h; omega
  subst had
  have hp2 : ∃ p2, μ b2 = some p2 := by simp only [RV] at h2; obtain ⟨p2, h, _⟩ := h2; exact ⟨p2, h⟩
  obtain ⟨p2, hp2⟩ := hp2
  have hLcap : L.length ≤ p.cap := by obtain ⟨_, _, _, _, _, h, _⟩ := hR.blk b _ p hb hp; exact h
  have hR' := reveal (k := p.cap - L.length) hR hb hp (by omega)
  have hLR : (L ++ List.replicate (p.cap - L.length) AV.junk).length = o + cap * 8 := by simp; omega
  have hargs' : RVs μ [.slc b o n (.known cap), .int .i64 (.ofNat i), .slc b2 o2 m c2] cargs.toList := by
    rw [e0]
    exact ⟨v0, _, rfl, by simp only [RV]; exact ⟨p, hp, ev⟩, v1, _, rfl, h1, v2, _, rfl, h2, rfl⟩
  generalize hLRd : L ++ List.replicate (p.cap - L.length) AV.junk = LR at hR' hLR
  have hsub : ∀ k, k ≤ n → (LR.drop o).take (k * 8) = cs.take (k * 8) := by
    intro k hk
    have hk8 : k * 8 ≤ n * 8 := Nat.mul_le_mul_right _ hk
    rw [← hLRd, hce, List.take_take, Nat.min_eq_left hk8, List.drop_append_of_le_length (by omega), List.take_append_of_le_length (by rw [List.length_drop]; omega)]
  have hgetR : (σ.put b (some (.cells false LR))).get b = some (.cells false LR) := AH.get_put_same _ _ _
  have hget2 : (σ.put b (some (.cells false LR))).get b2 = some (.cells ro2 L2) := by rw [AH.get_put_ne _ _ hbn.symm]; exact hb2
  have hlR : (σ.put b (some (.cells false LR))).load b2 o2 (m * 8) = some (chunks 8 m vs).flatten := by
    rw [mem_chunks_flat hvl, ← hl]; simp only [AH.load, AH.get_put_ne _ _ hbn.symm]
  have hV2 : ∀ e ∈ chunks 8 m vs, e.length = 8 := chunks_sz (by omega)
  have hV3 : okVals (chunks 8 m vs).flatten = true := by rw [mem_chunks_flat hvl]; exact hvs
  have hnx : (σ.put b (some (.cells false LR))).nx = σ.nx := rfl
  have hnb : ∀ {c x}, σ.get c = some x → c ≠ σ.nx := fun h e => by subst e; rw [hR.fresh _ (Nat.le_refl _)] at h; cases h
  have hold : ∀ a ∈ cs.take (i * 8) ++ (vs ++ cs.drop (i * 8)), ∃ v, RV μ a v := by
    have hc : ∀ a ∈ cs, ∃ v, RV μ a v := fun a ha => old_vals hR hb hp a (by rw [hce] at ha; exact List.mem_of_mem_drop (List.mem_of_mem_take ha))
    intro a ha
    rcases List.mem_append.1 ha with h | h
    · exact hc a (List.mem_of_mem_take h)
    · rcases List.mem_append.1 h with h | h
      · exact old_vals hR hb2 hp2 a (hvm a h)
      · exact hc a (List.mem_of_mem_drop h)
  rcases Nat.lt_or_ge cap (n + m) with hroom | hroom
  · -- a new block
    have hE2 : ∀ e ∈ chunks 8 n (LR.drop o), e.length = 8 := chunks_sz (by rw [List.length_drop]; omega)
    have hrows : rows (LR.take o) ((chunks 8 n (LR.drop o)).take i ++ (chunks 8 n (LR.drop o)).drop i) (LR.drop (o + n * 8)) = LR := by
      rw [List.take_append_drop]
      unfold rows
      rw [chunks_flat, ← List.drop_drop, List.take_append_drop, List.take_append_drop]
    have hok3 : ∀ e ∈ (chunks 8 n (LR.drop o)).take i ++ (chunks 8 n (LR.drop o)).drop i, okVals e = true := by
      rw [List.take_append_drop]
      exact okVals_sub (by rw [chunks_flat, hsub n (Nat.le_refl n), ← hcslen, List.take_length]; exact hok)
    have hev := in_grow (tbl := tblT) (call := insBook.call 60 20) (rounds := 60) (σ := σ.put b (some (.cells false LR))) (b := b) (b2 := b2) (o := o) (n := n) (m := m) (i := i) (k := cap) (o2 := o2) (c2 := c2)
      (pre := LR.take o) (post := LR.drop (o + n * 8)) (A := (chunks 8 n (LR.drop o)).take i) (B := (chunks 8 n (LR.drop o)).drop i) (V := chunks 8 m vs)
      hm hin hncap hroom hsz hsm (by rw [hrows]; exact hgetR) (by rw [List.length_take]; omega) (by rw [List.length_take, chunks_len]; omega) (by simp only [List.length_take, List.length_drop, chunks_len]; omega) hlR
      (by rw [List.take_append_drop]; exact hE2) hok3 (chunks_len _ _ _) hV2 hV3 (hnb hb) (hnb hb2)
    obtain ⟨ρ', hev, h6⟩ := hev
    have hcontent : ((chunks 8 n (LR.drop o)).take i ++ (chunks 8 m vs ++ (chunks 8 n (LR.drop o)).drop i)).flatten = cs.take (i * 8) ++ (vs ++ cs.drop (i * 8)) := by
      rw [List.flatten_append, List.flatten_append, mem_chunks_flat hvl, ← rflat_take hE2, ← rflat_drop hE2, chunks_flat, hsub n (Nat.le_refl n), ← hcslen, List.take_length]
    rw [hcontent] at hev
    refine calls_of_wp Tryz.func122 ins_body ?_
    rw [ins_ntmps]
    refine seqs_sound (plainCall_ok 60 20) tblT_ok tryz_mixed insPre inL μ _ w _ _ ins_acs hev hR' (ra_init hargs' (by simp)) (fun h => by cases h) ?_
    rintro - e a' w' ⟨μ1, hst, hA, hx⟩
    simp only [RelX] at hx
    subst hx
    refine ins_fin (σ1 := (σ.put b (some (.cells false LR))).new (.cells false (cs.take (i * 8) ++ (vs ++ cs.drop (i * 8))))) (o1 := .slc σ.nx 0 (n + m) (.opn 8)) (reveal_step hb hst) hA h6 fun v hv => ?_
    have hst2 := reveal_step hb hst
    simp only [RV] at hv
    obtain ⟨q, hq, a1, cap1, e1, e2, e3, e4⟩ := hv
    have hs := weak_new hR hst2 [b] (fun c hc l e => by simp at hc; subst hc; rw [hb] at e; cases e) (fun c x hc e => by
        simp at hc
        rw [AH.get_new, hnx, if_neg (hnb e), AH.get_put_ne _ _ hc]; exact e) (b := σ.nx) (L := cs.take (i * 8) ++ (vs ++ cs.drop (i * 8))) (.inl (Nat.le_refl _)) (by rw [AH.get_new, hnx, if_pos rfl]) hq (s := 0) (k := q.cap) (by omega)
        (by obtain ⟨_, _, _, _, _, h, _⟩ := hst2.rel.blk σ.nx _ q (by rw [AH.get_new, hnx, if_pos rfl]) hq; exact h) (fun i a hi => ⟨a, by rw [Nat.zero_add]; exact hi, fun v hv => by
          obtain ⟨v0, r0⟩ := hold a (List.mem_of_getElem? hi)
          exact RV.narrow hst2.le (Mu.le_up hR.mu_nx) a v0 v r0 hv⟩)
    refine ⟨_, hs, ?_⟩
    simp only [RV]
    exact ⟨⟨q.blk, q.base + 0, q.cap⟩, by unfold Mu.up; rw [if_pos rfl], a1, cap1, e1, e2, e3, e4⟩
  · -- in place
    have hE2 : ∀ e ∈ chunks 8 (n + m) (LR.drop o), e.length = 8 := chunks_sz (by rw [List.length_drop]; omega)
    generalize hE : chunks 8 (n + m) (LR.drop o) = E at hE2
    have hEl : E.length = n + m := by rw [← hE, chunks_len]
    have hEf : ∀ k, k ≤ n → (E.take k).flatten = cs.take (k * 8) := by
      intro k hk
      rw [← rflat_take hE2, ← hE, chunks_flat, List.take_take, Nat.min_eq_left (by have := Nat.mul_le_mul_right 8 (show k ≤ n + m by omega); exact this), hsub k hk]
    have hsplit : E = E.take i ++ ((E.drop i).take (n - i) ++ E.drop n) := by
      conv => lhs; rw [← List.take_append_drop i E]
      congr 1
      conv => lhs; rw [← List.take_append_drop (n - i) (E.drop i), List.drop_drop]
      rw [show i + (n - i) = n by omega]
    have htn : E.take n = E.take i ++ (E.drop i).take (n - i) := by
      conv => lhs; rw [show n = i + (n - i) by omega, List.take_add]
    have hrows : rows (LR.take o) (E.take i ++ ((E.drop i).take (n - i) ++ E.drop n)) (LR.drop (o + (n + m) * 8)) = LR := by
      rw [← hsplit, ← hE]
      unfold rows
      rw [chunks_flat, ← List.drop_drop, List.take_append_drop, List.take_append_drop]
    have hokn : okVals (E.take n).flatten = true := by rw [hEf n (Nat.le_refl n), ← hcslen, List.take_length]; exact hok
    have hok3 : ∀ e ∈ E.take i ++ (E.drop i).take (n - i), okVals e = true := by rw [← htn]; exact okVals_sub hokn
    have hBf : ((E.drop i).take (n - i)).flatten = cs.drop (i * 8) := by
      have h1 := hEf n (Nat.le_refl n)
      rw [htn, List.flatten_append, hEf i (by omega), ← hcslen, List.take_length] at h1
      conv at h1 => rhs; rw [← List.take_append_drop (i * 8) cs]
      exact List.append_cancel_left h1
    have hcontent : (E.take i ++ (chunks 8 m vs ++ (E.drop i).take (n - i))).flatten = cs.take (i * 8) ++ (vs ++ cs.drop (i * 8)) := by
      rw [List.flatten_append, List.flatten_append, mem_chunks_flat hvl, hEf i (by omega), hBf]
    have hlA : (E.take i).length = i := by rw [List.length_take]; omega
    have hlB : ((E.drop i).take (n - i)).length = n - i := by rw [List.length_take, List.length_drop]; omega
    have hlZ : (E.drop n).length = m := by rw [List.length_drop]; omega
    have hpre : (LR.take o).length = o := by rw [List.length_take]; omega
    let rd := n + m + 10
    obtain ⟨ρ1, hev, g0, g1, g2, g7, g8⟩ := in_room (tbl := tblT) (call := insBook.call rd 3) (rounds := rd) (σ := σ.put b (some (.cells false LR))) (b := b) (o := o) (n := n) (m := m) (i := i) (k := cap) (b2 := b2) (o2 := o2) (c2 := c2) hm hin hroom hsz rfl rfl
    refine calls_of_wp Tryz.func122 ins_body ?_
    rw [ins_ntmps]
    refine seqs_sound (plainCall_ok rd 3) tblT_ok tryz_mixed insPre inL μ _ w _ _ ins_acs hev hR' (ra_init hargs' (by simp)) (fun _ => ?_) (fun h => absurd rfl h)
    intro μ1 a1 w1 hst1 hA1
    refine wp_seq ?_
    refine wp_seq ?_
    refine ins_region (rd := rd) hm hin hroom hsz hst1.rel hA1 hgetR (hst1.le b p hp) hpc hget2 (hst1.le b2 p2 hp2) hbn g0 g1 g2 g7 g8 ?_
    intro β μ2 ρ2 a2 w2 hst2 hA2 f0 f1 f2 f7 f8 f68
    have hst12 := hst1.trans hst2
    -- what is told of the end
    have fin : ∀ {μ3 : Mu} {w3 : World}, Step μ (σ.put b (some (.cells false LR))) w μ3 ((σ.put b (some (.cells false LR))).put b (some (.cells false (rows (LR.take o) (E.take i ++ (chunks 8 m vs ++ (E.drop i).take (n - i))) (LR.drop (o + (n + m) * 8)))))) w3 →
        ∀ v, RV μ3 (.slc b o (n + m) (.known cap)) v → ∃ μ', Step μ σ w μ' ((σ.put b none).new (.cells false (cs.take (i * 8) ++ (vs ++ cs.drop (i * 8))))) w3 ∧ RV μ' (.slc σ.nx 0 (n + m) (.opn 8)) v := by
      intro μ3 w3 hst v hv
      have hst4 := reveal_step hb (by rw [AH.put_put] at hst; exact hst)
      have hq := hst4.le b p hp
      have hcl : (cs.take (i * 8) ++ (vs ++ cs.drop (i * 8))).length = (n + m) * 8 := by
        rw [List.length_append, List.length_append, List.length_take, List.length_drop, hcslen, hvl]
        have := Nat.mul_le_mul_right 8 (show i ≤ n by omega)
        omega
      have hs := weak_new hR hst4 [b] (fun c hc l e => by simp at hc; subst hc; rw [hb] at e; cases e) (fun c x hc e => by
          simp at hc
          rw [AH.get_put_ne _ _ hc]; exact e) (b := b) (L := cs.take (i * 8) ++ (vs ++ cs.drop (i * 8))) (.inr (by simp)) (AH.get_put_same _ _ _) hq (s := o) (k := cap * 8) (by omega)
          (by rw [hcl]; exact Nat.mul_le_mul_right _ hroom) (fun j a hj => ⟨a, by
            have hjl := (List.getElem?_eq_some_iff.1 hj).1
            unfold rows
            rw [List.getElem?_append_right (by omega), hpre, show o + j - o = j by omega, hcontent, List.getElem?_append_left hjl]
            exact hj, fun v hv => by
            obtain ⟨v0, r0⟩ := hold a (List.mem_of_getElem? hj)
            exact RV.narrow hst4.le (Mu.le_up hR.mu_nx) a v0 v r0 hv⟩)
      refine ⟨_, hs, ?_⟩
      simp only [RV] at hv ⊢
      obtain ⟨q, hq1, hv⟩ := hv
      rw [hq] at hq1; cases hq1
      exact ⟨⟨p.blk, p.base + o, cap * 8⟩, by unfold Mu.up; rw [if_pos rfl], ⟨p.blk, p.base + o, none⟩, cap, hv, hroom, by simp, .inl rfl⟩
    obtain ⟨cIf, hcIf, lr, hlr, hlist⟩ := ins_if
    cases β with
    | false =>
      obtain ⟨ρ3, hev3, h6⟩ := in_false (tbl := tblT) (call := insBook.call rd 3) (rounds := rd) (σ := σ.put b (some (.cells false LR))) (b := b) (b2 := b2) (o := o) (n := n) (m := m) (i := i) (k := cap) (o2 := o2) (c2 := c2) (v := unA) (J := [])
        (pre := LR.take o) (post := LR.drop (o + (n + m) * 8)) (A := E.take i) (B := (E.drop i).take (n - i)) (V := chunks 8 m vs) (Z := E.drop n) hm hin hroom hsz f0 f1 f2 f7 f8 f68 (by rw [hrows]; exact hgetR) hpre hlA (by omega) hlZ hlR
        (by rw [← hsplit]; exact hE2) hok3 (chunks_len _ _ _) hV2 (okVals_sub hV3) hbn
      rw [← hlist] at hev3
      refine pair_sound (plainCall_ok rd 3) tblT_ok tryz_mixed hcIf hlr hev3 hst2.rel hA2 (fun h => by cases h) ?_
      rintro - e a' w' ⟨μ3, hst3, hA3, hx⟩
      simp only [RelX] at hx
      subst hx
      exact ins_fin (reveal_step hb (by have := hst12.trans hst3; rw [AH.put_put] at this; exact this)) hA3 h6 (fin (hst12.trans hst3))
    | true =>
      have hr1 : RevOK (insBook.call rd 1) q193 8 (n + m) := @bk_rev rd (n + m) 0 (by omega) (by omega)
      have hmem : ∀ e ∈ (E.drop i).take (n - i) ++ chunks 8 m vs, e.length = 8 := fun e he => (List.mem_append.1 he).elim (fun h => hE2 e (List.mem_of_mem_drop (List.mem_of_mem_take h))) (hV2 e)
      have hmok : ∀ e ∈ (E.drop i).take (n - i) ++ chunks 8 m vs, okVals e = true := fun e he => (List.mem_append.1 he).elim (fun h => hok3 e (List.mem_append_right _ h)) (okVals_sub hV3 e)
      have hpl : (LR.take o ++ (E.take i).flatten).length = (LR.take o).length + i * 8 := by
        rw [List.length_append, rflat_len (sz := 8) (fun e he => hE2 e (List.mem_of_mem_take he)), hlA]
      have hr2 := rot_sound (tbl := tblT) (rounds := rd) hr1 (b := b) (o := (LR.take o).length + i * 8) (n := n + m - i) (m := n - i) (k := cap - i) (pre := LR.take o ++ (E.take i).flatten) (post := LR.drop (o + (n + m) * 8))
        (σ := (σ.put b (some (.cells false LR))).put b (some (.cells false (rows (LR.take o ++ (E.take i).flatten) ((E.drop i).take (n - i) ++ chunks 8 m vs) (LR.drop (o + (n + m) * 8)))))) (A := (E.drop i).take (n - i)) (B := chunks 8 m vs)
        (by omega) hpl hlB (by rw [hlB, chunks_len]; omega) (by omega) (by omega) hmem hmok (AH.get_put_same _ _ _)
      have hr3 : insBook.call rd 2 q181 [.slc b ((LR.take o).length + i * 8) (n + m - i) (.known (cap - i)), .int .i64 (.ofNat (n + m - i - m))] ((σ.put b (some (.cells false LR))).put b (some (.cells false (rows (LR.take o ++ (E.take i).flatten) ((E.drop i).take (n - i) ++ chunks 8 m vs) (LR.drop (o + (n + m) * 8)))))) =
          some (.val unA, (σ.put b (some (.cells false LR))).put b (some (.cells false (rows (LR.take o ++ (E.take i).flatten) (chunks 8 m vs ++ (E.drop i).take (n - i)) (LR.drop (o + (n + m) * 8)))))) := by
        rw [evBook_fn (bkp _) bk181, show n + m - i - m = n - i by omega]
        exact hr2.trans (by rw [AH.put_put])
      have hr4 := rotR_sound (tbl := tblT) (rounds := rd) (show m ≤ n + m - i by omega) (by omega) hr3
      obtain ⟨ρ3, hev3, h6⟩ := in_true (tbl := tblT) (call := insBook.call rd 3) (rounds := rd) (σ := σ.put b (some (.cells false LR))) (b := b) (b2 := b2) (o := o) (n := n) (m := m) (i := i) (k := cap) (o2 := o2) (c2 := c2) (v := unA) (J := [])
        (pre := LR.take o) (post := LR.drop (o + (n + m) * 8)) (A := E.take i) (B := (E.drop i).take (n - i)) (V := chunks 8 m vs) (Z := E.drop n) hm hin hroom hsz f0 f1 f2 f7 f8 f68 (by rw [hrows]; exact hgetR) hpre hlA (by omega) hlZ hlR
        (by rw [← hsplit]; exact hE2) hok3 (chunks_len _ _ _) hV2 (okVals_sub hV3) hbn (by rw [evBook_fn (bkp _) bk156]; exact hr4)
      rw [← hlist] at hev3
      refine pair_sound (plainCall_ok rd 3) tblT_ok tryz_mixed hcIf hlr hev3 hst2.rel hA2 (fun _ => ?_) (fun h => absurd rfl h)
      intro μ3 a3 w3 hst3 hA3
      refine wp_ret ?_
      exact ins_fin (reveal_step hb (by have := hst12.trans hst3; rw [AH.put_put] at this; exact this)) hA3 h6 (fin (hst12.trans hst3))
end

theorem ins_ok : PrimOK Tryz.prog 122 insQ := by
  intro _ _ args σ out σ' h
  refine ⟨⟨_, Tryz.func122, by kernel_rfl, by kernel_rfl⟩, fun μ w cargs hR hargs => ?_⟩
  unfold insQ at h
  split at h
  · rename_i b2 o2 m c2
    split at h
    · rename_i vs hl
      simp only [cond_eq_ite] at h
      split at h
      · rename_i hc
        simp only [Bool.and_eq_true] at hc
        obtain ⟨hm, hsm⟩ := hc
        rw [Nat.blt_eq] at hm
        obtain ⟨ρ', hev, h6⟩ := in_end_nil (tbl := tblT) (call := insBook.call 60 20) (rounds := 60) (c2 := c2) hm hsm hl
        simp only [newOpen, fN_eq, AH.newK_eq, val, Option.some.injEq, Prod.mk.injEq] at h
        obtain ⟨rfl, rfl⟩ := h
        exact ins_pre hR hargs rfl hev h6
      · cases h
    · cases h
  · rename_i b o n i b2 o2 m c2
    split at h
    · rename_i L vs hb hl
      split at h
      · rename_i cs hcs
        simp only [cond_eq_ite] at h
        split at h
        · rename_i hc
          simp only [Bool.and_eq_true] at hc
          obtain ⟨⟨⟨⟨⟨⟨hm, hin⟩, hsm⟩, hLl⟩, hbb⟩, hok⟩, hvs⟩ := hc
          rw [Nat.blt_eq] at hm hLl
          have hin := Nat.le_of_ble_eq_true hin
          have hbn : b ≠ b2 := by rintro rfl; simp at hbb
          split at h
          · rename_i hd hhd
            obtain ⟨hdl, rfl⟩ := ltake_some hhd
            simp only [AH.setK_eq, newOpen, fN_eq, AH.newK_eq, val, Option.some.injEq, Prod.mk.injEq, ldrop_eq] at h
            obtain ⟨rfl, rfl⟩ := h
            rcases Nat.lt_or_ge i n with hlt | hge
            · exact ins_mid hm hlt hsm hR hb hcs hl hbn hok hvs hargs
            · have hi : i = n := by omega
              subst hi
              have hcsl : cs.length = i * 8 := by
                obtain ⟨h1, h2⟩ := ltake_some hcs
                rw [h2, List.length_take]; omega
              obtain ⟨ρ', hev, h6⟩ := in_end (tbl := tblT) (call := insBook.call 60 20) (rounds := 60) (c2 := c2) (b := b) (o := o) (n := i) (vs := vs) (σ := σ) (out := .slc σ.nx 0 (i + m) (.opn 8)) (σ' := (σ.put b none).new (.cells false (cs ++ vs))) hm hsm hl (by
                simp only [appendCells, Nat.beq_refl, cond_true, beq_false (show m ≠ 0 by omega), cond_false, hb, hcs, hvs]
                rw [show (Nat.blt 0 8 && Nat.ble (o + (i + m) * 8) L.length) = false by rw [ble_false hLl]; simp]
                simp only [cond_false, AH.setK_eq, newOpen, fN_eq, AH.newK_eq, val]
                rfl)
              have e1 : cs.take (i * 8) ++ (vs ++ cs.drop (i * 8)) = cs ++ vs := by
                rw [← hcsl, List.take_length, List.drop_length, List.append_nil]
              rw [e1]
              exact ins_pre hR hargs rfl hev h6
          · cases h
        · cases h
      · cases h
    · cases h
  · cases h

end Go.Proofs.YtgaoddafkjdecaaGreat.EV
