/-
  EV, part S3: operands; the operations that leave memory alone. Own work of this claim.
-/
import Derived.Test.YtgaoddafkjdecaaGreatEvS2
set_option linter.unusedVariables false
set_option linter.unusedSimpArgs false
namespace Go.Proofs.YtgaoddafkjdecaaGreat.EV

mutual
theorem ofVal_RV (μ : Mu) : ∀ (v : Value) (a : AV), ofVal v = some a → RV μ a v
  | .bool _, _, h | .int _ _, _, h | .nilFunc, _, h | .nilIface, _, h => by simp [ofVal] at h; subst h; simp [RV]
  | .float k b, _, h => by cases k <;> simp [ofVal] at h; subst h; simp [RV]
  | .complex _ _ _, _, h => by simp [ofVal] at h
  | .string s, _, h => by simp [ofVal] at h; subst h; exact ⟨s, rfl, rfl⟩
  | .pointer none, _, h => by simp [ofVal] at h; subst h; simp [RV]
  | .pointer (some _), _, h => by simp [ofVal] at h
  | .slice none 0 0, _, h => by simp [ofVal] at h; subst h; simp [RV]
  | .slice none 0 (_ + 1), _, h => by simp [ofVal] at h
  | .slice none (_ + 1) _, _, h => by simp [ofVal] at h
  | .slice (some _) _ _, _, h => by simp [ofVal] at h
  | .map none, _, h => by simp [ofVal] at h; subst h; simp [RV]
  | .map (some _), _, h => by simp [ofVal] at h
  | .chan _, _, h | .func _ _ _, _, h | .iface _ _, _, h | .tuple _, _, h => by simp [ofVal] at h
  | .agg ⟨l⟩, a, h => by
    simp only [ofVal] at h
    cases hl : ofVals l with
    | none => rw [hl] at h; cases h
    | some r => rw [hl] at h; cases h; exact ⟨⟨l⟩, rfl, ofVals_RVs μ l r hl⟩
theorem ofVals_RVs (μ : Mu) : ∀ (l : List Value) (r : List AV), ofVals l = some r → RVs μ r l
  | [], _, h => by simp [ofVals] at h; subst h; simp [RVs]
  | v :: l, r, h => by
    simp only [ofVals] at h
    cases hv : ofVal v with
    | none => rw [hv] at h; simp at h
    | some a =>
      cases hl : ofVals l with
      | none => rw [hv, hl] at h; simp at h
      | some t => rw [hv, hl] at h; simp at h; subst h; exact ⟨v, l, rfl, ofVal_RV μ v a hv, ofVals_RVs μ l t hl⟩
end

theorem ofVal_known {v : Value} {a : AV} (h : ofVal v = some a) : a.known = true := by
  cases a with
  | junk =>
    exfalso
    cases v with
    | float k b => cases k <;> simp [ofVal] at h
    | pointer p => cases p <;> simp [ofVal] at h
    | slice p n c => cases p <;> cases n <;> cases c <;> simp [ofVal] at h
    | map p => cases p <;> simp [ofVal] at h
    | agg l => obtain ⟨l⟩ := l; simp only [ofVal] at h; cases hl : ofVals l <;> rw [hl] at h <;> simp at h
    | _ => simp [ofVal] at h
  | _ => rfl

/-- the slots of a frame -/
structure RA (μ : Mu) (nt : Nat) (ρ : Env) (a : Act) : Prop where
  size : a.tmps.size = nt
  defers : a.defers = []
  get : ∀ i, RV μ ((ρ.get (tp i)).getD unA) (a.tmps.getD i undef)

theorem RA.mono {μ ν : Mu} (h : μ.le ν) {nt ρ a} (r : RA μ nt ρ a) : RA ν nt ρ a := ⟨r.size, r.defers, fun i => RV.mono h _ _ (r.get i)⟩

theorem AO.ev_tmp (ρ : Env) (p : Pos) : AO.ev ρ (.tmp p) = (ρ.get p).getD unA := by
  have : AO.ev ρ (.tmp p) = (Option.rec unA (fun v => v) (ρ.get p) : AV) := rfl
  rw [this]
  cases ρ.get p <;> rfl

theorem RV_unA (μ : Mu) : RV μ unA undef := by exact ⟨#[], rfl, by simp [RVs]⟩

section opd
variable {μ : Mu} {nt : Nat} {ρ : Env} {a : Act}

theorem opd_RV (h : RA μ nt ρ a) {x : Operand} {y : AO} (hc : cOpd x = some y) : RV μ (y.ev ρ) (a.eval x) := by
  cases x with
  | tmp t =>
    simp [cOpd] at hc
    subst hc
    rw [AO.ev_tmp]
    exact h.get t
  | const v =>
    simp only [cOpd] at hc
    cases hv : ofVal v with
    | none => rw [hv] at hc; cases hc
    | some b => rw [hv] at hc; cases hc; exact ofVal_RV μ v b hv
  | global g => simp [cOpd] at hc
  | func f =>
    simp [cOpd] at hc
    subst hc
    exact ⟨f, #[], #[], rfl, rfl, by simp [RVs], by simp [RVs]⟩

theorem opds_RVs (h : RA μ nt ρ a) : ∀ {l : List Operand} {m : List AO}, cOpds l = some m → RVs μ (AO.evs ρ m) (l.map a.eval)
  | [], _, hc => by simp [cOpds] at hc; subst hc; simp [AO.evs, RVs]
  | x :: l, _, hc => by
    simp only [cOpds] at hc
    cases hx : cOpd x with
    | none => rw [hx] at hc; simp at hc
    | some y =>
      cases hl : cOpds l with
      | none => rw [hx, hl] at hc; simp at hc
      | some m =>
        rw [hx, hl] at hc
        simp at hc
        subst hc
        exact ⟨_, _, rfl, opd_RV h hx, opds_RVs h hl⟩
end opd

theorem RA.put {μ : Mu} {nt : Nat} {ρ : Env} {a : Act} (h : RA μ nt ρ a) {d : Nat} (hd : d < nt) {x : AV} {v : Value} (r : RV μ x v) :
    RA μ nt (ρ.set (some x) (tp d)) (a.put (some d) v) := by
  refine ⟨by simpa [Act.put] using h.size, by simpa [Act.put] using h.defers, fun i => ?_⟩
  by_cases e : i = d
  · subst e
    have hs : i < a.tmps.size := by rw [h.size]; exact hd
    simp [Tr.get_set, Act.put, hs, r]
  · have hne : tp i ≠ tp d := fun k => e (tp_inj k)
    rw [Tr.get_set, if_neg hne]
    have : (a.put (some d) v).tmps.getD i undef = a.tmps.getD i undef := by
      simp [Act.put, Array.getElem?_setIfInBounds_ne (Ne.symm e)]
    rw [this]
    exact h.get i

/-- how a quiet operation goes -/
def Does (P : Program) (o : Oper) (a : Act) (w : World) (v : Value) (w' : World) : Prop :=
  (execOp a.eval o).run P w = .ok (.value v) w' ∨ ((execOp a.eval o).run P w = .ok .skip w' ∧ v = undef)

theorem Does.wp {P : Program} {o : Oper} {a : Act} {w : World} {v : Value} {w' : World} (h : Does P o a w v w') {K : Act → World → Prop}
    {Q : Exit → Act → World → Prop} (k : K (a.put o.dst v) w') : o.wp P a w K Q := by
  unfold Oper.wp
  rcases h with h | ⟨h, rfl⟩
  · rw [h]; exact k
  · rw [h]; exact k

/-- the answer of a quiet operation stands for the model's -/
def Quiet (P : Program) (o : Oper) (a : Act) (μ : Mu) (σ : AH) (w : World) (out : Out) (σ' : AH) : Prop :=
  ∃ v μ' w' v', out = .val v ∧ Step μ σ w μ' σ' w' ∧ RV μ' v v' ∧ Does P o a w v' w'

/-- a block is made, and nothing else: whatever name it gets -/
def Makes (P : Program) (o : Oper) (a : Act) (μ : Mu) (w : World) (x : AB) (mk : Pos → AV) : Prop :=
  ∃ w' v' p, Does P o a w v' w' ∧ p.blk = w.heap.size ∧ w'.os = w.os ∧ w'.tape = w.tape ∧ w'.output = w.output ∧ w'.heap.size = w.heap.size + 1 ∧
    (∀ i, i < w.heap.size → w'.heap[i]? = w.heap[i]?) ∧ (∀ ν, μ.le ν → RB ν w' p x) ∧ ∀ (ν : Mu) (b : Pos), ν b = some p → RV ν (mk b) v'

/-- the same value of another block -/
def reBlk : AV → Pos → AV
  | .ptr _ o, b => .ptr b o
  | .slc _ o n c, b => .slc b o n c
  | .map _, b => .map b
  | v, _ => v

/-- the answer of an operation that makes a block -/
def QuietM (P : Program) (o : Oper) (a : Act) (μ : Mu) (σ : AH) (w : World) (out : Out) (σ' : AH) : Prop :=
  ∃ (x : AB) (mk : Pos → AV), out = .val (mk σ.nx) ∧ σ' = σ.new x ∧ x.wr = true ∧ (∀ b c, mk c = reBlk (mk b) c) ∧ Makes P o a μ w x mk

theorem QuietM.quiet {P : Program} {o : Oper} {a : Act} {μ : Mu} {σ : AH} {w : World} {out : Out} {σ' : AH} (hR : Rel μ σ w) (h : QuietM P o a μ σ w out σ') :
    Quiet P o a μ σ w out σ' := by
  obtain ⟨x, mk, rfl, rfl, hwr, _, w', v', p, hd, hp, e1, e2, e3, e4, e5, h6, h7⟩ := h
  refine ⟨_, μ.up σ.nx p, w', v', rfl, step_new' hR x p hp e1 e2 e3 e4 e5 (h6 _ (Mu.le_up hR.mu_nx)) hwr, h7 _ _ (by simp [Mu.up]), hd⟩

/-- the block that is made was there already, in thought -/
theorem Makes.step {P : Program} {o : Oper} {a : Act} {μ : Mu} {σ : AH} {w : World} {x : AB} {mk : Pos → AV} (hR : Rel μ σ w) (h : Makes P o a μ w x mk) {b : Pos}
    (hb : σ.get b = some x) (hn : μ b = none) :
    ∃ w' v' p, Does P o a w v' w' ∧ (Rel (μ.up b p) σ w' ∧ Fr μ σ w (μ.up b p) σ w') ∧ RV (μ.up b p) (mk b) v' := by
  obtain ⟨w', v', p, hd, hp, e1, e2, e3, e4, e5, h6, h7⟩ := h
  exact ⟨w', v', p, hd, rel_late hR hb hn p hp e1 e2 e3 e4 e5 (h6 _ (Mu.le_up hn)), h7 _ _ (by simp [Mu.up])⟩

theorem makes_cells {P : Program} {o : Oper} {a : Act} {μ : Mu} {w : World} {cs : List AV} {c : Array Value} {e : TypeId} {mk : Pos → AV} {v' : Value}
    (r : RVs μ cs c.toList) (hd : Does P o a w v' (w.alloc (.cells c e)))
    (hv : ∀ (ν : Mu) (b : Pos), ν b = some ⟨w.heap.size, 0, c.size⟩ → RV ν (mk b) v') : Makes P o a μ w (.cells false cs) mk := by
  refine ⟨_, v', ⟨w.heap.size, 0, c.size⟩, hd, rfl, rfl, rfl, rfl, by simp, fun _ hi => heap_push_lt _ _ hi, ?_, hv⟩
  intro ν hν
  refine ⟨c, e, (0, 0), heap_push_eq _ _, by simp, by rw [r.length]; simp, by simp, ?_⟩
  intro i x hx
  obtain ⟨v, hv, rv⟩ := r.get hx
  exact ⟨v, by simpa using hv, RV.mono hν _ _ rv⟩

section runs
variable {P : Program} {w : World}

theorem run_typeInfo {t : TypeId} {i : TypeInfo} (h : P.info? t = some i) : (typeInfo t).run P w = .ok i w := by
  simp [typeInfo, h]
theorem run_underlying {t : TypeId} {d : TypeDesc} (h : P.underlying t = some d) : (underlying t).run P w = .ok d w := by
  simp [underlying, h]
theorem run_sizeOf {t : TypeId} {n : Nat} (h : sizeT P t = some n) : (sizeOf t).run P w = .ok n w := by
  unfold sizeT at h
  cases hi : P.info? t with
  | none => rw [hi] at h; cases h
  | some i => rw [hi] at h; simp at h; simp [sizeOf, run_typeInfo hi, h]
theorem run_isAgg {t : TypeId} {b : Bool} (h : isAggT P t = some b) : (isAgg t).run P w = .ok b w := by
  unfold isAggT at h
  cases hu : P.underlying t with
  | none => rw [hu] at h; cases h
  | some d =>
    rw [hu] at h
    simp only [isAgg, Sem.run_bind, run_underlying hu, Result.andThen_ok]
    cases d <;> simp at h <;> subst h <;> rfl
theorem bytesT_info {t : TypeId} {n : Nat} (h : bytesT P t = some n) : ∃ i, P.info? t = some i ∧ i.bytes = n := by
  unfold bytesT at h
  cases hi : P.info? t with
  | none => rw [hi] at h; cases h
  | some i => rw [hi] at h; simp at h; exact ⟨i, rfl, h⟩
theorem zeroCells_spec {t : TypeId} {z : List AV} (h : zeroCells P t = some z) :
    ∃ i zv, P.info? t = some i ∧ i.zero = some zv ∧ z.length = i.size ∧ ∀ μ, RVs μ z zv.cells.toList := by
  unfold zeroCells at h
  cases hi : P.info? t with
  | none => rw [hi] at h; cases h
  | some i =>
    rw [hi] at h
    simp only at h
    cases hz : i.zero with
    | none => rw [hz] at h; cases h
    | some zv =>
      rw [hz] at h
      simp only at h
      cases ha : ofVal zv with
      | none => rw [ha] at h; cases h
      | some a =>
        rw [ha] at h
        simp only [cond_eq_ite] at h
        split at h
        · rename_i hn
          cases h
          refine ⟨i, zv, rfl, hz, ?_, fun μ => (ofVal_RV μ zv a ha).cells (ofVal_known ha)⟩
          exact Nat.eq_of_beq_eq_true hn
        · cases h
theorem run_zeroValue {t : TypeId} {i : TypeInfo} {zv : Value} (hi : P.info? t = some i) (hz : i.zero = some zv) : (zeroValue t).run P w = .ok zv w := by
  simp [zeroValue, run_typeInfo hi, hz]
end runs

theorem val_inv {v : AV} {σ : AH} {out : Out} {σ' : AH} (h : val v σ = some (out, σ')) : out = .val v ∧ σ' = σ := by
  simp [val] at h; exact ⟨h.1.symm, h.2.symm⟩

theorem valO_inv {v : Option AV} {σ : AH} {out : Out} {σ' : AH} (h : valO v σ = some (out, σ')) : ∃ x, v = some x ∧ out = .val x ∧ σ' = σ := by
  cases v with
  | none => simp [valO] at h
  | some x => simp [valO] at h; exact ⟨x, rfl, h.1.symm, h.2.symm⟩

/-- an operation that leaves memory alone -/
theorem Quiet.same {P : Program} {o : Oper} {a : Act} {μ : Mu} {σ : AH} {w : World} (h : Rel μ σ w) {v : AV} {v' : Value} {out : Out} {σ' : AH}
    (ho : out = .val v ∧ σ' = σ) (r : RV μ v v') (d : Does P o a w v' w) : Quiet P o a μ σ w out σ' := by
  obtain ⟨rfl, rfl⟩ := ho
  exact ⟨v, μ, w, v', rfl, Step.refl h, r, d⟩

theorem outI_some {k : IntKind} {n : Int} {x : AV} (h : outI k n = some x) : x = .int k n := by
  simp [outI] at h; exact h.symm

theorem wrF_eq (k : IntKind) (x : Int) : wrF k x = k.wrap x := by
  unfold wrF
  split
  · rename_i n
    simp only [cond_eq_ite]
    split
    · rename_i h
      have h := Nat.le_of_ble_eq_true h
      simp only [IntKind.wrap, IntKind.bits, IntKind.signed, Int.ofNat_eq_natCast]
      simp
      omega
    · rfl
  · rename_i n
    simp only [cond_eq_ite]
    split
    · rename_i h
      have h := Nat.le_of_ble_eq_true h
      simp only [IntKind.wrap, IntKind.bits, IntKind.signed, Int.ofNat_eq_natCast]
      simp
      omega
    · rfl
  · rename_i n
    simp only [IntKind.wrap, IntKind.bits, IntKind.signed]
    simp
  · rfl

theorem ilt_eq (a b : Int) : ilt a b = decide (a < b) := by
  cases a <;> cases b <;> simp [ilt] <;> (first | omega | (rw [Bool.eq_iff_iff]; simp [Nat.blt_eq]; try omega))

theorem ieq_eq (a b : Int) : ieq a b = (a == b) := by
  cases a <;> cases b <;> simp [ieq] <;> (rw [Bool.eq_iff_iff]; simp; try omega)

end Go.Proofs.YtgaoddafkjdecaaGreat.EV
