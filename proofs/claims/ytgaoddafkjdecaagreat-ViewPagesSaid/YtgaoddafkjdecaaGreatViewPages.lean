/-
  Proved: for every input, engrosslaw22.ViewPages returns true (of each page a snapshot shows its copy, if it has one, else the page as it is), and the input reads as it did. No condition. The closed beginning is run by an evaluator of this claim that is proved sound against the model; the rest is proved of the evaluator's answers, whatever the input.
-/
import Derived.Test.YtgaoddafkjdecaaGreatEvV3
import Derived.Test.YtgaoddafkjdecaaGreatEvF2
namespace Go.Proofs.YtgaoddafkjdecaaGreat.viewPages
open Go.ChangeShapes Go.WideShapes Go.ChangeAt Go.RowKit
set_option linter.unusedVariables false

theorem own : ownKnob Tryz.prog.godebug = none := by kernel_rfl
theorem laidOut : laidOutB Tryz.prog = true := by kernel_rfl
theorem cells3 : Tryz.prog.cellsOf 3 = 1 := by kernel_rfl
theorem cells5 : Tryz.prog.cellsOf 5 = 1 := by kernel_rfl
theorem read22 : Tryz.prog.readableRec 22 = true := by kernel_rfl
theorem read27 : Tryz.prog.readableRec 27 = true := by kernel_rfl
theorem row22 : decide (22 < Tryz.prog.types.size) = true := by kernel_rfl
theorem row27 : decide (27 < Tryz.prog.types.size) = true := by kernel_rfl

/-- a list of numbers that came in, by the name tp i -/
theorem into {rs : List (EV.Plc × List EV.AV)} {r : EV.Plc × List EV.AV} {k : IntKind} {ok : EV.AV → Prop} (i : Nat) (hr : rs[i]? = some r) {n : Nat} {c : EV.Cap} (hl : r.2.length = n)
    (hz : ∀ a ∈ r.2, ∃ z : Int, (Lit.int k z).wf = true ∧ a = .int k z) (hok : ∀ z : Int, (Lit.int k z).wf = true → ok (.int k z)) : EV.InL (EV.inAH rs) (.slc (EV.tp i) 0 n c) n ok := by
  refine .inr ⟨EV.tp i, c, r.2, rfl, ?_, hl, fun a ha => ?_⟩
  · rw [EV.inAH_get, EV.tp_nat]
    simp [hr]
  · obtain ⟨z, h1, rfl⟩ := hz a ha
    exact hok z h1

theorem okInt (z : Int) (_ : (Lit.int .i64 z).wf = true) : EV.isInt (.int .i64 z) := ⟨z, rfl⟩
theorem okByte (z : Int) (h : (Lit.int .u8 z).wf = true) : EV.isByte (.int .u8 z) := by
  simp [Lit.wf, IntKind.min, IntKind.max, IntKind.signed, IntKind.bits] at h
  exact ⟨z.toNat, by omega, by congr 1; simp only [Int.ofNat_eq_natCast]; omega⟩

set_option maxRecDepth 100000 in
theorem walk {H : Type} {enc : TypeId × Value → H} {W : World} {base : Nat} {v v' : Value} {d d' : DataW H} {p p' : List MemPlace} (h1 : Value.okWide Tryz.prog W .any base 22 v) (h2 : Value.okWide Tryz.prog W .any base 27 v')
    (t1 : DataW.Trod enc Tryz.prog W 0 (fun _ => true) true 22 v d p) (t2 : DataW.Trod enc Tryz.prog W 0 (fun _ => true) true 27 v' d' p') :
    Calls Tryz.prog 4 #[v, v'] W fun e w' => e = .returned (.bool true) ∧ Below W.heap.size W w' := by
  have fin : ∀ (rs : List (EV.Plc × List EV.AV)) (A0 A1 : EV.AV) (n nb : Nat), (∀ r ∈ rs, ∀ μ, EV.RB μ W r.1 (.cells true r.2)) → EV.InL (EV.inAH rs) A0 n EV.isInt → EV.InL (EV.inAH rs) A1 nb EV.isByte →
      EV.RV (EV.inMu rs) A0 v → EV.RV (EV.inMu rs) A1 v' → Calls Tryz.prog 4 #[v, v'] W fun e w' => e = .returned (.bool true) ∧ Below W.heap.size W w' := by
    intro rs A0 A1 n nb hrs i0 i1 r0 r1
    obtain ⟨σ', hc⟩ := EV.viewPages_ev (EV.inWf rs) i0 i1
    have hcall : EV.CallOK Tryz.prog (EV.vpC 4) := EV.vpC_ok 4
    refine ((hcall 4 [A0, A1] (EV.inAH rs) (.val (.bool true)) σ' hc).2 (EV.inMu rs) W #[v, v'] (EV.inRel hrs) ?_).mono ?_
    · exact ⟨v, _, rfl, r0, v', _, rfl, r1, rfl⟩
    · rintro e w' ⟨μ', hst, u, rfl, hu⟩
      simp only [EV.RV] at hu
      subst hu
      exact ⟨rfl, EV.inStep hst⟩
  rcases EV.in_ints Tryz.underlying22 Tryz.underlying3 cells3 h1 t1 0 with hn | ⟨r, n, c, a1, a2, a3, a4⟩
  · rcases EV.in_ints Tryz.underlying27 Tryz.underlying5 cells5 h2 t2 0 with hn' | ⟨r', n', c', b1, b2, b3, b4⟩
    · exact fin [] .nils .nils 0 0 (by simp) (.inl ⟨rfl, rfl⟩) (.inl ⟨rfl, rfl⟩) hn hn'
    · exact fin [r'] .nils (.slc (EV.tp 0) 0 n' c') 0 n' (by simpa using b1) (.inl ⟨rfl, rfl⟩) (into 0 rfl b2 b3 okByte) hn (b4 _ rfl)
  · rcases EV.in_ints Tryz.underlying27 Tryz.underlying5 cells5 h2 t2 1 with hn' | ⟨r', n', c', b1, b2, b3, b4⟩
    · exact fin [r] (.slc (EV.tp 0) 0 n c) .nils n 0 (by simpa using a1) (into 0 rfl a2 a3 okInt) (.inl ⟨rfl, rfl⟩) (a4 _ rfl) hn'
    · exact fin [r, r'] (.slc (EV.tp 0) 0 n c) (.slc (EV.tp 1) 0 n' c') n n' (by simpa using ⟨a1, b1⟩) (into 0 rfl a2 a3 okInt) (into 1 rfl b2 b3 okByte) (a4 _ rfl) (b4 _ rfl)

set_option maxRecDepth 100000 in
theorem lifted (os : Os) (started : os.Started) (H : Type) (enc : TypeId × Value → H) :
    ReturnsInHanded {} Tryz.checked os 4 .any (Rows.viewPagesSpec.pre6 enc Tryz.prog Tryz.f4 Rows.viewPagesRow.domain false) (Rows.viewPagesSpec.post enc Tryz.prog Tryz.f4 false true false false) := by
  refine returnsInHanded_of_change (C := Tryz.checked) own started (by kernel_rfl) Tryz.func4
    (ChangeSpec.witness6 (enc := enc) (C := Tryz.checked) false ⟨#[], #[.slice none 0 0, .slice none 0 0], []⟩ 8 (by kernel_rfl) (by kernel_rfl) (by kernel_rfl) (by kernel_rfl)) ?_
  intro W base args ds gs before hval0 hW hcnd _
  have hval : ∀ (j : Nat) t v, Tryz.f4.params[j]? = some t → args[j]? = some v → Value.okWide Tryz.prog W .any base t v := hval0
  have hW' := hW
  obtain ⟨p, q, hA0, hV, rfl, hfz, hnd⟩ := hW
  have hA : DataW.TrodAll enc Tryz.prog W 0 (fun _ => true) true Tryz.f4.params.toList args.toList ds p := hA0
  have hAk := hA
  have hVk := hV
  rw [Tryz.params4] at hA hval
  obtain ⟨v, v', d, d', p1, p2, rfl, rfl, rfl, t1, t2⟩ := trodAll_two hA
  obtain ⟨rfl, rfl⟩ := trodVars_none hV
  refine (walk (hval 0 22 v rfl rfl) (hval 1 27 v' rfl rfl) t1 t2).mono fun e W' ⟨he, hg⟩ => ?_
  subst he
  have hlt := hW'.lt
  refine ⟨_, rfl, EV.post_kept (qa := p1 ++ p2) (qv := []) hW' hg rfl (fun _ _ _ => (trodAll_cons_mk (shut_bool Tryz.underlying4 _) trodAll_mk0)) (fun sp hsp => ?_) (fun _ _ => rfl)
    (ok_one (by kernel_rfl) rfl (okWide_bool_mk Tryz.underlying4 _))⟩
  have hk := EV.ins_kept laidOut hg _ _ _ _ (by
    intro t ht
    rw [Tryz.params4] at ht
    simp only [List.mem_cons, List.not_mem_nil, or_false] at ht
    rcases ht with rfl | rfl
    · exact ⟨read22, of_decide_eq_true row22⟩
    · exact ⟨read27, of_decide_eq_true row27⟩) hAk (fun x hx => hlt x (List.mem_append_left _ hx)) sp (fun x hx => hsp x (List.mem_append_left _ hx))
  exact hk

theorem over : Rows.viewPagesRow.holds Tryz.pinned (OpenSpec.ofChange Rows.viewPagesSpec) :=
  OpenClaim.holds_of_wide 4 Tryz.f4 rfl rfl rfl rfl rfl rfl rfl ⟨rfl, rfl, rfl, rfl, rfl⟩ rfl rfl rfl rfl rfl (by kernel_rfl) Tryz.func4 (by kernel_rfl)
    (of_decide_eq_true (by kernel_rfl)) (by unfold Func.isWrapper; first | (rw [if_pos (by decide +kernel)]; kernel_rfl) | (rw [if_neg (by decide +kernel)]; exact ⟨rfl, rfl⟩))
    (fun os started H enc _ => lifted os started H enc)

/-- the statement -/
theorem proved : Rows.ViewPagesSaid :=
  over
end Go.Proofs.YtgaoddafkjdecaaGreat.viewPages
