/-
  EV, part X7: the summary of slices.Sorted over maps.Keys at a map of ints. Own work of this claim.
-/
import Derived.Test.YtgaoddafkjdecaaGreatEvX6
import Derived.Test.YtgaoddafkjdecaaGreatShelf
set_option linter.unusedVariables false
set_option linter.unusedSimpArgs false
namespace Go.Proofs.YtgaoddafkjdecaaGreat.EV
open Go.Proofs Go.RowKit Go.Maps Go.Sort Go.Shelf

/-- a new block, wherever it came to lie -/
theorem step_new_below {μ : Mu} {σ : AH} {w w' : World} (h : Rel μ σ w) (hb : Below w.heap.size w w') (x : AB) (p : Plc) (hp : w.heap.size ≤ p.blk) (hp2 : p.blk < w'.heap.size)
    (hx : RB (μ.up σ.nx p) w' p x) (hwr : x.wr = true) : Step μ σ w (μ.up σ.nx p) (σ.new x) w' := by
  have hn := h.mu_nx
  have hle := Mu.le_up (p := p) hn
  have hs := hb.size
  refine ⟨hle, ⟨?_, ?_, ?_, ?_⟩, ⟨hb.os, hb.tape, hb.output, hb.size, ?_, ?_, ?_, ?_, ?_⟩, fun b hb => by unfold Mu.up; rw [if_neg (fun e => by subst e; omega)]⟩
  · intro b hb
    rw [AH.nx_new, Pos.nat_succ] at hb
    rw [AH.get_new, if_neg (fun e => by subst e; omega)]
    exact h.fresh b (by omega)
  · intro b q e
    rw [AH.nx_new, Pos.nat_succ]
    unfold Mu.up at e
    split at e
    · rename_i hb; cases e; subst hb; omega
    · have := h.dom b q e; omega
  · intro b y q e f
    rw [AH.get_new] at e
    unfold Mu.up at f
    split at e
    · rename_i hb
      rw [if_pos hb] at f
      cases e; cases f; exact hx
    · rename_i hne
      rw [if_neg hne] at f
      exact ((h.blk b y q e f).mono hle).heap (hb.block _ (h.dom b q f).2)
  · intro b y q c z r e1 e2 e3 e4 e5 hne
    rw [AH.get_new] at e1 e4
    unfold Mu.up at e3 e5
    by_cases hb : b = σ.nx
    · have hc : c ≠ σ.nx := fun e => hne (hb.trans e.symm)
      rw [if_pos hb] at e3
      rw [if_neg hc] at e5
      cases e3
      have := (h.dom c r e5).2
      omega
    · rw [if_neg hb] at e3 e1
      by_cases hc : c = σ.nx
      · rw [if_pos hc] at e5
        cases e5
        have := (h.dom b q e3).2
        omega
      · rw [if_neg hc] at e5 e4
        exact h.inj b y q c z r e1 e2 e3 e4 e5 hne
  · intro i hi _
    exact hb.block _ hi
  · rintro i hi ⟨b, y, q, e1, e2, e3, e4⟩
    rw [AH.get_new] at e1
    unfold Mu.up at e3
    by_cases hb : b = σ.nx
    · rw [if_pos hb] at e3; cases e3; omega
    · rw [if_neg hb] at e1 e3; exact ⟨b, y, q, e1, e2, e3, e4⟩
  · rw [AH.nx_new, Pos.nat_succ]; omega
  · intro b l e
    rw [AH.get_new, if_neg (fun hb => by subst hb; rw [h.fresh _ (Nat.le_refl _)] at e; cases e)]
    exact e
  · intro b l e
    rw [AH.get_new] at e
    split at e
    · cases e; simp [AB.wr] at hwr
    · exact e

/-! ### The keys -/

def insN (x : Nat) : List Nat → Option (List Nat)
  | [] => some [x]
  | y :: l => bif Nat.blt y x then (match insN x l with
      | some r => some (y :: r)
      | none => none) else bif Nat.beq x y then none else some (x :: y :: l)

def keysN : List (AV × AV) → Option (List Nat)
  | [] => some []
  | (.int .i64 (.ofNat n), _) :: l => bif Nat.ble n 9223372036854775807 then (match keysN l with
      | some r => insN n r
      | none => none) else none
  | _ => none

def intsN : List Nat → List AV
  | [] => []
  | n :: l => .int .i64 (.ofNat n) :: intsN l

noncomputable def sortedQ (g : Pos) : Prim := fun _ args σ =>
  match args with
  | [.clo f [] [.box b]] => bif f == g then
      (match σ.load b 0 1 with
      | some [.map m] => match σ.get m with
        | some (.mp es) => match keysN es with
          | some [] => some (.val .nils, σ)
          | some (k :: ks) => bif small (k :: ks).length 8 then newOpen 1 (k :: ks).length (intsN (k :: ks)) σ else none
          | none => none
        | _ => none
      | _ => none) else none
  | _ => none

theorem insN_spec {x : Nat} : ∀ {l r : List Nat}, insN x l = some r → l.Pairwise (· < ·) → r.Perm (x :: l) ∧ r.Pairwise (· < ·)
  | [], r, h, _ => by simp [insN] at h; subst h; exact ⟨List.Perm.refl _, by simp⟩
  | y :: l, r, h, hs => by
    simp only [insN, cond_eq_ite] at h
    split at h
    · rename_i hlt
      rw [Nat.blt_eq] at hlt
      split at h
      · rename_i r' hr'
        cases h
        obtain ⟨h1, h2⟩ := insN_spec hr' (List.pairwise_cons.1 hs).2
        refine ⟨(h1.cons y).trans (List.Perm.swap x y l), List.pairwise_cons.2 ⟨fun z hz => ?_, h2⟩⟩
        rcases List.mem_cons.1 (h1.mem_iff.1 hz) with rfl | hz
        · exact hlt
        · exact (List.pairwise_cons.1 hs).1 z hz
      · cases h
    · rename_i hlt
      rw [Nat.blt_eq] at hlt
      split at h
      · cases h
      · rename_i hne
        cases h
        have hne : x ≠ y := fun e => hne (by subst e; simp)
        refine ⟨List.Perm.refl _, List.pairwise_cons.2 ⟨fun z hz => ?_, hs⟩⟩
        rcases List.mem_cons.1 hz with rfl | hz
        · omega
        · have := (List.pairwise_cons.1 hs).1 z hz; omega

theorem keysN_spec {μ : Mu} : ∀ {es : List (AV × AV)} {ks : List Nat} {ces : List MapEntry}, keysN es = some ks → REs μ es ces →
    ∃ zs : List Nat, ces.map (·.key) = zs.map (fun n => Value.int .i64 (Int.ofNat n)) ∧ ks.Perm zs ∧ ks.Pairwise (· < ·) ∧ ∀ z ∈ zs, z ≤ 9223372036854775807
  | [], ks, ces, h, hr => by
    simp [keysN] at h
    simp [REs] at hr
    subst h; subst hr
    exact ⟨[], rfl, List.Perm.refl _, by simp, by simp⟩
  | (k, v) :: es, ks, ces, h, hr => by
    simp only [REs] at hr
    obtain ⟨e, t, rfl, h1, h2, h3⟩ := hr
    unfold keysN at h
    split at h
    · rename_i heq; cases heq
    · rename_i n _ l heq
      cases heq
      simp only [cond_eq_ite] at h
      split at h
      · rename_i hn
        have hn := Nat.le_of_ble_eq_true hn
        split at h
        · rename_i r hr
          obtain ⟨zs, a1, a2, a3, a4⟩ := keysN_spec hr h3
          obtain ⟨b1, b2⟩ := insN_spec h a3
          simp only [RV] at h1
          refine ⟨n :: zs, by simp [h1, a1], b1.trans (a2.cons n), b2, fun z hz => ?_⟩
          rcases List.mem_cons.1 hz with rfl | hz
          · exact hn
          · exact a4 z hz
        · cases h
      · cases h
    · cases h

theorem insert_perm {H : Type} (x : Lit × DataW H) : ∀ l : List (Lit × DataW H), (DataW.insert x l).Perm (x :: l)
  | [] => List.Perm.refl _
  | y :: l => by
    unfold DataW.insert
    split
    · exact List.Perm.refl _
    · exact ((insert_perm x l).cons y).trans (List.Perm.swap x y l)
theorem foldr_insert_perm {H : Type} : ∀ l : List (Lit × DataW H), (l.foldr DataW.insert []).Perm l
  | [] => List.Perm.refl _
  | x :: l => (insert_perm x _).trans ((foldr_insert_perm l).cons x)

/-- how a value reads: as nothing (only the keys count) -/
def noRd : Value → Option (DataW Unit × List MemPlace) := fun _ => some (.nil, [])

theorem srt_t3 : Tryz.prog.underlying 3 = some (.int .i64) := by kernel_rfl

theorem map_owned {es : Array MapEntry} {clk : Nat} {w : World} {b : Nat} (hb : w.heap[b]? = some (.map es clk)) (hbo : BornOK es clk) {zs ks : List Nat}
    (hz : es.toList.map (·.key) = zs.map (fun n => Value.int .i64 (Int.ofNat n))) (hp : ks.Perm zs) (hs : ks.Pairwise (· < ·)) (hw : ∀ z ∈ zs, z ≤ 9223372036854775807) (hmax : zs.length ≤ maxLen) :
    ∃ D0 : DataW Unit, w.ownsMap Tryz.prog 3 noRd b es.size D0 ∧ (intKeys D0).Perm (ks.map Int.ofNat) ∧ Maps.size D0 = ks.length := by
  have hlen : es.toList.length = zs.length := by simpa using congrArg List.length hz
  have hrd : ∀ x ∈ es.toList, ∃ n : Nat, n ∈ zs ∧ x.key = .int .i64 (Int.ofNat n) ∧ Go.WideElems.rd Tryz.prog 3 noRd x = some (.int .i64 (Int.ofNat n), .nil) := by
    intro x hx
    have : x.key ∈ es.toList.map (·.key) := List.mem_map.2 ⟨x, hx, rfl⟩
    rw [hz] at this
    obtain ⟨n, hn, e⟩ := List.mem_map.1 this
    refine ⟨n, hn, e.symm, ?_⟩
    have hwf : (Lit.int .i64 (Int.ofNat n)).wf = true := by
      have := hw n hn
      simp [Lit.wf, IntKind.min, IntKind.max, IntKind.signed, IntKind.bits]
      omega
    simp only [Int.ofNat_eq_natCast] at hwf ⊢
    simp [Go.WideElems.rd, keyOf, srt_t3, mapKey, ← e, hwf, noRd]
  refine ⟨_, ⟨es, clk, hb, ⟨by rw [← Array.length_toList, hlen]; exact hmax, ⟨hbo.1, hbo.2, ?_⟩, fun x hx => ?_⟩, Nat.le_refl _, rfl⟩, ?_, ?_⟩
  · rw [hz]
    have : zs.Nodup := hp.nodup_iff.1 (hs.imp fun h => Nat.ne_of_lt h)
    exact List.pairwise_map.2 (this.imp fun h e => h (by simp at e; omega))
  · obtain ⟨n, _, _, h⟩ := hrd x hx
    exact ⟨_, h⟩
  · show (((es.toList.map (Go.WideElems.rg Tryz.prog 3 noRd)).foldr DataW.insert []).map fun p => Go.intOf p.1).Perm _
    refine ((foldr_insert_perm _).map _).trans ?_
    rw [List.map_map]
    have : es.toList.map ((fun p : Lit × DataW Unit => Go.intOf p.1) ∘ Go.WideElems.rg Tryz.prog 3 noRd) = zs.map Int.ofNat := by
      have e1 : es.toList.map ((fun p : Lit × DataW Unit => Go.intOf p.1) ∘ Go.WideElems.rg Tryz.prog 3 noRd) = es.toList.map (fun x => match x.key with | .int _ n => n | _ => 0) := by
        apply List.map_congr_left
        intro x hx
        obtain ⟨n, _, hk, h⟩ := hrd x hx
        simp [Go.WideElems.rg_of h, Go.intOf, hk]
      have e2 : es.toList.map (fun x => match x.key with | .int _ n => n | _ => 0) = (es.toList.map (·.key)).map (fun v => match v with | .int _ n => n | _ => 0) := by
        rw [List.map_map]; rfl
      rw [e1, e2, hz, List.map_map]
      rfl
    rw [this]
    exact (hp.map _).symm
  · have : Maps.size (DataW.map ((es.toList.map (Go.WideElems.rg Tryz.prog 3 noRd)).foldr DataW.insert [])) = ((es.toList.map (Go.WideElems.rg Tryz.prog 3 noRd)).foldr DataW.insert []).length := rfl
    rw [this, (foldr_insert_perm _).length_eq, List.length_map, hlen, hp.length_eq]


noncomputable def keysQ (g : Pos) : Prim := fun _ args σ =>
  match args with
  | [.map m] => σ.newK (.cells false [.map m]) fun b σ => val (.clo g [] [.box b]) σ
  | _ => none

/-- slices.Sort's two contracts at this dump, at the fence that asks nothing. -/
theorem tryz_sortsA (m : Nat) : AnyZI.SortsIn Tryz.prog Tryz.sortedA_ren Fence.wide m :=
  ⟨fun blk off cap ss W hH hblk hsz => callsIn_wide.2 (AnyM.slices_Sort_int Tryz.sortA blk off cap ss W hH hblk hsz),
   fun p cap W => callsIn_wide.2 (AnyM.slices_Sort_int_none Tryz.sortA p cap W)⟩

theorem keys_ok : PrimOK Tryz.prog 60 (keysQ q99) := by
  intro _ _ args σ out σ' h
  refine ⟨⟨_, Tryz.func60, by kernel_rfl, by kernel_rfl⟩, fun μ w cargs hR hargs => ?_⟩
  unfold keysQ at h
  split at h
  · rename_i m
    simp only [AH.newK_eq, val, Option.some.injEq, Prod.mk.injEq] at h
    obtain ⟨rfl, rfl⟩ := h
    simp only [RVs, RV] at hargs
    obtain ⟨v, r, e1, ⟨p, hp, rfl⟩, rfl⟩ := hargs
    have hc : cargs = #[.map (some p.blk)] := Array.ext' (by rw [e1])
    subst hc
    have cK : CallsIn Fence.wide 6 Tryz.prog 60 #[.map (some p.blk)] w fun e w' => e = .returned (.func (.func 99) #[] #[.pointer (some ⟨w.heap.size, 0, none⟩)]) ∧ w' = w.alloc (.cells #[.map (some p.blk)] 81) :=
      AnyZI.keys_in Tryz.keysA Fence.wide 6 trivial rfl (some p.blk) w
    refine ((callsIn_wide (n := 6)).1 cK).mono ?_
    rintro e w' ⟨rfl, rfl⟩
    have hst := step_new hR (.cells false [.map m]) (.cells #[.map (some p.blk)] 81) ⟨w.heap.size, 0, 1⟩ rfl
      ⟨#[.map (some p.blk)], 81, (0, 0), heap_push_eq _ _, by simp, by simp, fun _ => .inl rfl, fun i a hi => by
        cases i with
        | zero => simp at hi; subst hi; exact ⟨_, by simp, p, Mu.le_up hR.mu_nx _ _ hp, rfl⟩
        | succ i => simp at hi⟩ rfl
    refine ⟨_, hst, _, rfl, ?_⟩
    simp only [RV, RVs]
    exact ⟨99, #[], #[.pointer (some ⟨w.heap.size, 0, none⟩)], rfl, rfl, rfl, _, [], rfl, ⟨_, by unfold Mu.up; rw [if_pos rfl], rfl, rfl⟩, rfl⟩
  · cases h

theorem mergeSort_sorted {ks : List Nat} (h : ks.Pairwise (· < ·)) {ss : List Int} (hp : ss.Perm (ks.map Int.ofNat)) : ss.mergeSort (fun x y => decide (x ≤ y)) = ks.map Int.ofNat := by
  have tr : ∀ a b c : Int, leI a b = true → leI b c = true → leI a c = true := fun a b c h1 h2 => by simp only [leI, decide_eq_true_eq] at *; exact Int.le_trans h1 h2
  have to : ∀ a b : Int, (leI a b || leI b a) = true := fun a b => by simp only [leI, Bool.or_eq_true, decide_eq_true_eq]; exact Int.le_total a b
  refine List.Perm.eq_of_pairwise (le := fun a b => leI a b = true) (fun a b _ _ h1 h2 => ?_) (List.pairwise_mergeSort tr to ss) ?_ ((List.mergeSort_perm ss leI).trans hp)
  · simp only [leI, decide_eq_true_eq] at h1 h2
    exact Int.le_antisymm h1 h2
  · exact List.pairwise_map.2 (h.imp fun h => by simp only [leI, decide_eq_true_eq, Int.ofNat_eq_natCast]; omega)

theorem intsN_eq : ∀ ks, intsN ks = ks.map fun n => AV.int .i64 (.ofNat n)
  | [] => rfl
  | k :: ks => by simp [intsN, intsN_eq ks]

theorem sorted_ok : PrimOK Tryz.prog 59 (sortedQ q99) := by
  intro _ _ args σ out σ' h
  refine ⟨⟨_, Tryz.func59, by kernel_rfl, by kernel_rfl⟩, fun μ w cargs hR hargs => ?_⟩
  unfold sortedQ at h
  split at h
  · rename_i f b
    simp only [cond_eq_ite] at h
    split at h
    · rename_i hf
      have hf : f = q99 := by simpa using hf
      subst hf
      split at h
      · rename_i m hl
        split at h
        · rename_i es hes
          simp only [RVs, RV] at hargs
          obtain ⟨_, _, e1, ⟨n, va, vc, hn, rfl, ra, vcv, _, rc, ⟨pb, hpb, hb0, rfl⟩, rfl⟩, rfl⟩ := hargs
          have hn : n = 99 := tp_inj (by rw [hn]; rfl)
          subst hn
          have hva : va = #[] := Array.ext' ra
          have hvc : vc = #[.pointer (some ⟨pb.blk, 0, none⟩)] := Array.ext' rc
          subst hva hvc
          have hc : cargs = #[.func (.func 99) #[] #[.pointer (some ⟨pb.blk, 0, none⟩)]] := Array.ext' (by rw [e1])
          subst hc
          obtain ⟨rob, Lb, hgb, hlen, hmem⟩ := load_inv hl
          obtain ⟨cb, eb, frb, b1, b2, b3, b4, b5⟩ := hR.blk b _ pb hgb hpb
          have hL0 : Lb[0]? = some (.map m) := by
            obtain ⟨ro', cs, h1, h2, h3, h4⟩ := load_some hl
            rw [hgb] at h1; cases h1
            rw [List.drop_zero] at h3
            have := congrArg (·[0]?) h3
            simp at this
            exact this.symm
          obtain ⟨vm, hvm, rvm⟩ := b5 0 _ hL0
          simp only [RV] at rvm
          obtain ⟨pm, hpm, rfl⟩ := rvm
          rw [hb0] at hvm
          have hcell : w.cell? ⟨pb.blk, 0, none⟩ = some (.map (some pm.blk)) := by simp [World.cell?, b1, hvm]
          obtain ⟨ces, clk, m1, m2, m3⟩ := hR.blk m _ pm hes hpm
          have key : ∀ ks, keysN es = some ks → small ks.length 8 = true → Calls Tryz.prog 59 #[.func (.func 99) #[] #[.pointer (some ⟨pb.blk, 0, none⟩)]] w fun e w' => ∃ v, e = .returned v ∧ Below w.heap.size w w' ∧
              w'.ownsRow w.heap.size 3 1 v ks.length ((ks.map Int.ofNat).map encZ) ∧ (v = .slice none 0 0 ↔ ks = []) := by
            intro ks hks hsm
            obtain ⟨zs, k1, k2, k3, k4⟩ := keysN_spec hks m3
            have hsmall := Nat.le_of_ble_eq_true hsm
            have hzl : zs.length ≤ 9223372036854775807 := by rw [← k2.length_eq]; omega
            obtain ⟨D0, hown, hperm, hsize⟩ := map_owned m1 m2 k1 k2 k3 k4 (by simpa [maxLen] using hzl)
            have hseq : SeqGives Fence.wide 2 Tryz.prog 99 #[.pointer (some ⟨pb.blk, 0, none⟩)] encZ (fun ss => ss.Perm (intKeys D0)) (Maps.size D0) w :=
              AnyZI.keys_gives (ρ := Tryz.keysA_ren) { Tryz.keysA with } Fence.wide _ trivial rfl (by omega) pb.blk pm.blk _ D0 w (hR.dom _ _ hpb).2 hcell hown
            have cS := AnyZI.sorted_in Tryz.sortedA Fence.wide 5 trivial trivial trivial trivial rfl (by omega) (tryz_sortsA _) (enters_of Tryz.func98 (by kernel_rfl) rfl) 99 #[.pointer (some ⟨pb.blk, 0, none⟩)] trivial
              (enters_of Tryz.func99 (by kernel_rfl) rfl) _ _ (by rw [hsize]; simp [maxLen]; omega) (by rw [hsize]; omega) w hseq
            change CallsIn _ _ Tryz.prog 59 _ _ _ at cS
            refine ((callsIn_wide (n := 5)).1 cS).mono ?_
            rintro e w' ⟨v, ss, rfl, hS, hrow, hnil, hbe⟩
            have hp2 := hS.trans hperm
            rw [mergeSort_sorted k3 hp2] at hrow
            have hl2 : ss.length = ks.length := by simpa using hp2.length_eq
            rw [hl2] at hrow
            refine ⟨v, rfl, hbe, hrow, hnil.trans ?_⟩
            rw [← List.length_eq_zero_iff, hl2, List.length_eq_zero_iff]
          split at h
          · rename_i hks
            cases h
            refine (key [] hks rfl).mono ?_
            rintro e w' ⟨v, rfl, hbe, _, hnil⟩
            exact ⟨μ, below_step hR hbe, v, rfl, by simp only [RV]; exact hnil.2 rfl⟩
          · rename_i k ks hks
            split at h
            · rename_i hsm
              simp only [newOpen, fN_eq, AH.newK_eq, val, Option.some.injEq, Prod.mk.injEq] at h
              obtain ⟨rfl, rfl⟩ := h
              refine (key _ hks hsm).mono ?_
              rintro e w' ⟨v, rfl, hbe, hrow, hnil⟩
              rcases hrow.2 with ⟨_, h0⟩ | ⟨g, cap, cur, rfl, g1, g2, g3, g4, g5, g6⟩
              · simp at h0
              · have hgl := (Array.getElem?_eq_some_iff.1 g2).1
                have hst := step_new_below hR hbe (.cells false (intsN (k :: ks))) ⟨g, 0, cap⟩ g1 hgl
                  ⟨cur, 3, (0, 0), g2, by show 0 + cap ≤ cur.size; omega, by rw [intsN_eq, List.length_map]; exact g3, fun _ => .inl rfl, fun i a hi => by
                    rw [intsN_eq, List.getElem?_map] at hi
                    obtain ⟨z, hz, rfl⟩ := Option.map_eq_some_iff.1 hi
                    have hil := (List.getElem?_eq_some_iff.1 hz).1
                    refine ⟨.int .i64 (.ofNat z), ?_, rfl⟩
                    have : (cur.toList.take ((k :: ks).length * 1))[i]? = (((k :: ks).map Int.ofNat).map encZ)[i]? := by rw [g6]
                    rw [List.getElem?_take_of_lt (by omega), List.getElem?_map, List.getElem?_map, hz] at this
                    simpa using this⟩ rfl
                refine ⟨_, hst, _, rfl, ?_⟩
                simp only [RV]
                exact ⟨_, by unfold Mu.up; rw [if_pos rfl], ⟨g, 0, none⟩, cap, rfl, g3, by simp, .inl (by simp)⟩
            · cases h
          · cases h
        · cases h
      · cases h
    · cases h
  · cases h

end Go.Proofs.YtgaoddafkjdecaaGreat.EV
