/-
  EV, part S19: a plan is gone through. Own work of this claim.
-/
import Derived.Test.YtgaoddafkjdecaaGreatEvS18
set_option linter.unusedVariables false
set_option linter.unusedSimpArgs false
namespace Go.Proofs.YtgaoddafkjdecaaGreat.EV

mutual
theorem AV.beq_eq : ∀ (a b : AV), AV.beq a b = true → a = b
  | .bool _, b, h | .int _ _, b, h | .flt _, b, h | .str _, b, h | .nilp, b, h | .ptr _ _, b, h | .nils, b, h | .slc _ _ _ _, b, h | .nilm, b, h | .map _, b, h | .nilf, b, h
  | .nili, b, h | .junk, b, h | .box _, b, h => by
    cases b <;> simp_all [AV.beq]
  | .clo f x y, b, h => by
    cases b <;> simp [AV.beq] at h
    rename_i g z t
    obtain ⟨⟨h1, h2⟩, h3⟩ := h
    rw [h1, AV.beqs_eq x z h2, AV.beqs_eq y t h3]
  | .ifc t x, b, h => by
    cases b <;> simp [AV.beq] at h
    rename_i u y
    rw [h.1, AV.beq_eq x y h.2]
  | .agg l, b, h => by
    cases b <;> simp [AV.beq] at h
    rename_i m
    rw [AV.beqs_eq l m h]
  | .tup l, b, h => by
    cases b <;> simp [AV.beq] at h
    rename_i m
    rw [AV.beqs_eq l m h]
theorem AV.beqs_eq : ∀ (l m : List AV), AV.beqs l m = true → l = m
  | [], m, h => by cases m <;> simp_all [AV.beqs]
  | a :: l, m, h => by
    cases m with
    | nil => simp [AV.beqs] at h
    | cons b m =>
      simp [AV.beqs] at h
      rw [AV.beq_eq a b h.1, AV.beqs_eq l m h.2]
end

theorem AB.beq_eq {x y : AB} (h : AB.beq x y = true) : x = y := by
  cases x with
  | cells r l =>
    cases y with
    | cells s m => simp [AB.beq] at h; rw [h.1, AV.beqs_eq l m h.2]
    | mp es => simp [AB.beq] at h
  | mp es =>
    cases y with
    | cells s m => cases es <;> simp [AB.beq] at h
    | mp fs => cases es <;> cases fs <;> simp_all [AB.beq]

theorem nthR_eq : ∀ (n : Nat) (l : List ROp), nthR n l = l[n]?
  | 0, [] => rfl
  | 0, _ :: _ => rfl
  | n + 1, [] => rfl
  | n + 1, _ :: l => by rw [List.getElem?_cons_succ]; exact nthR_eq n l

section plan
variable {rl : List ROp} {ρ0 ρE : Env} {pl tab : List (List Nat)} {tbl : Disp} {call : Call}

theorem evOne_inv {i : Nat} {ρ : Env} {σ : AH} {k : Env → AH → Res} {res : AX × Env × AH} (h : evOne tbl call rl i ρ σ k = some res) :
    ∃ r b v σ', rl[i]? = some r ∧ wants ρ r.guard = some b ∧ (b = false → v = unA ∧ σ' = σ) ∧ (b = true → evOp tbl call ρ σ r.op = some (.val v, σ')) ∧
      k (eput ρ r.dst v) σ' = some res := by
  unfold evOne at h
  rw [nthR_eq] at h
  split at h
  · rename_i r hr
    split at h
    · rename_i hw
      split at h
      · rename_i v σ' he
        rw [setD_eq] at h
        exact ⟨r, true, v, σ', hr, hw, by simp, fun _ => he, h⟩
      · cases h
    · rename_i hw
      rw [setD_eq] at h
      exact ⟨r, false, unA, σ, hr, hw, fun _ => ⟨rfl, rfl⟩, by simp, h⟩
    · cases h
  · cases h

/-- a look that has gone well -/
def Looked (tbl : Disp) (call : Call) (rl : List ROp) (ρ : Env) (σ : AH) (i : Nat) : Prop :=
  ∃ r b, rl[i]? = some r ∧ wants ρ r.guard = some b ∧ (b = true → ∃ d v τ, r.dst = some d ∧ evOp tbl call ρ σ r.op = some (.val v, τ) ∧
    (r.op.madeBy = true → ∃ b c x y, v.blk = some b ∧ (AO.ev ρ (.tmp d)).blk = some c ∧ τ.get b = some x ∧ σ.get c = some y ∧ x = y) ∧
    (r.op.madeBy = false → v = AO.ev ρ (.tmp d)))

theorem evChk_inv {i : Nat} {ρ : Env} {σ : AH} {k : Res} {res : AX × Env × AH} (h : evChk tbl call rl i ρ σ k = some res) : k = some res ∧ Looked tbl call rl ρ σ i := by
  unfold evChk at h
  rw [nthR_eq] at h
  split at h
  · rename_i r hr
    split at h
    · rename_i hw
      split at h
      · rename_i d hd
        split at h
        · rename_i hm
          split at h
          · rename_i v τ he
            split at h
            · rename_i b c hb hc
              split at h
              · rename_i x y hx hy
                simp only [cond_eq_ite] at h
                split at h
                · rename_i hbeq
                  exact ⟨h, r, true, hr, hw, fun _ => ⟨d, v, τ, hd, he, fun _ => ⟨b, c, x, y, hb, hc, hx, hy, AB.beq_eq hbeq⟩, fun h => by rw [hm] at h; cases h⟩⟩
                · cases h
              · cases h
            · cases h
          · cases h
        · rename_i hm
          split at h
          · rename_i v τ he
            simp only [cond_eq_ite] at h
            split at h
            · rename_i hbeq
              exact ⟨h, r, true, hr, hw, fun _ => ⟨d, v, τ, hd, he, fun h => (by rw [hm] at h; cases h), fun _ => AV.beq_eq _ _ hbeq⟩⟩
            · cases h
          · cases h
      · cases h
    · rename_i hw
      exact ⟨h, r, false, hr, hw, by simp⟩
    · cases h
  · cases h

theorem evChks_inv {ρ : Env} {σ : AH} {k : Res} {res : AX × Env × AH} : ∀ {l : List Nat}, evChks tbl call rl ρ σ k l = some res →
    k = some res ∧ ∀ i ∈ l, Looked tbl call rl ρ σ i
  | [], h => ⟨h, by simp⟩
  | i :: l, h => by
    obtain ⟨h1, h2⟩ := evChk_inv (k := evChks tbl call rl ρ σ k l) h
    obtain ⟨h3, h4⟩ := evChks_inv h1
    refine ⟨h3, fun j hj => ?_⟩
    rcases List.mem_cons.1 hj with rfl | hj
    · exact h2
    · exact h4 j hj

/-- an operation that has been looked at again -/
theorem QF.looked (hnd : nodupD rl 0 rl = true) (htab : ∀ i j, j ∈ tab.getD i [] → Lead pl j i) {i : Nat} {dn : List Nat} {ρ : Env} {σ τ : AH}
    (ho : QF tbl call rl pl ρ0 ρE i τ) (hc : okChk tab rl dn i = true) (hM : Mix rl ρ0 ρE (fun j => memN j dn) ρ) (hL : Looked tbl call rl ρ σ i) : QF tbl call rl pl ρ0 ρE i σ := by
  obtain ⟨r, b, hr, hw, ht⟩ := hL
  unfold okChk at hc
  rw [hr] at hc
  simp only [Bool.and_eq_true, Bool.not_eq_true'] at hc
  obtain ⟨⟨hl, hmem⟩, hu⟩ := hc
  obtain ⟨r', hr', _, h2', h3⟩ := ho
  rw [hr] at hr'
  cases hr'
  refine ⟨r, hr, hl, h2', fun ρ' hv => ?_⟩
  have ha := agree hnd htab hv hM hu
  obtain ⟨b', hb', hf', ht'⟩ := h3 ρ' hv
  have hbb : b' = b := by
    rw [uses_wants ha, hw] at hb'
    simpa using hb'.symm
  subst hbb
  refine ⟨b', hb', hf', fun e => ?_⟩
  obtain ⟨v0, hd0, hold⟩ := ht' e
  obtain ⟨d, v, υ, hd, he, hmd, hrd⟩ := ht e
  have hslot : AO.ev ρ (.tmp d) = v0 := by
    rw [AO.ev_tmp, (hM d).1 i ⟨r, hr, hd⟩, if_pos hmem, hd0 d hd]
    rfl
  rw [← uses_evOp ha] at he
  rcases hold with ⟨hm, _⟩ | ⟨hm, c0, x0, mk0, e1, e2, e3, e5, e4⟩
  · have hv0 : v = v0 := (hrd hm).trans hslot
    subst hv0
    refine ⟨v, hd0, .inl ⟨hm, fun τ hs => ?_⟩⟩
    cases hrd' : r.op.reads with
    | true =>
      obtain ⟨v', q1, q2, q3⟩ := read_ext hrd' he
      cases q1
      exact q3 τ hs
    | false =>
      obtain ⟨v', q1, q2, q3⟩ := pure_any hl hm hrd' he
      cases q1
      exact q3 τ
  · refine ⟨v0, hd0, .inr ⟨hm, c0, x0, mk0, e1, ?_, e3, e5, e4⟩⟩
    obtain ⟨b, c, x, y, q1, q2, q3, q4, q5⟩ := hmd hm
    rw [e4 σ] at he
    simp only [Option.some.injEq, Prod.mk.injEq, Out.val.injEq] at he
    obtain ⟨rfl, rfl⟩ := he
    rw [e3] at q1
    cases q1
    rw [AH.get_new, if_pos rfl] at q3
    cases q3
    subst q5
    rw [hslot, e1, e3] at q2
    cases q2
    exact q4

/-! ### What is kept -/

def Keeps (rl : List ROp) (dn : List Nat) (ρ ρ' : Env) : Prop := ∀ p, (∀ j, Wr rl p j → j ∈ dn) → ρ'.get p = ρ.get p

theorem Keeps.refl (dn : List Nat) (ρ : Env) : Keeps rl dn ρ ρ := fun _ _ => rfl
theorem Keeps.trans {dn dn' : List Nat} {ρ ρ' ρ'' : Env} (h : Keeps rl dn ρ ρ') (h' : Keeps rl dn' ρ' ρ'') (hs : ∀ i ∈ dn, i ∈ dn') : Keeps rl dn ρ ρ'' :=
  fun p hp => (h' p fun j hj => hs j (hp j hj)).trans (h p hp)

theorem eput_ne {ρ : Env} {d : Option Pos} {v : AV} {p : Pos} (h : d ≠ some p) : (eput ρ d v).get p = ρ.get p := by
  cases d with
  | none => rfl
  | some q => simp only [eput]; rw [Tr.get_set_ne]; rintro rfl; exact h rfl

theorem eput_eq {ρ : Env} {v : AV} {p : Pos} : (eput ρ (some p) v).get p = some v := by simp [eput, Tr.get_set_same]

theorem Keeps.put {i : Nat} {r : ROp} {dn : List Nat} {ρ : Env} {v : AV} (hr : rl[i]? = some r) (hi : i ∉ dn) : Keeps rl dn ρ (eput ρ r.dst v) :=
  fun p hp => eput_ne fun hd => hi (hp i ⟨r, hr, hd⟩)

theorem keep_runs {prev : Option Nat} {k : Env → AH → Res} {res : AX × Env × AH} : ∀ {l dn dn' : List Nat} {ρ : Env} {σ : AH}, evRuns tbl call rl k l ρ σ = some res →
    okRuns pl tab rl prev dn l = some dn' → ∃ ρ' σ', k ρ' σ' = some res ∧ Keeps rl dn ρ ρ' ∧ ∀ i ∈ dn, i ∈ dn'
  | [], dn, dn', ρ, σ, h, hk => by
    simp only [okRuns, Option.some.injEq] at hk
    subst hk
    exact ⟨ρ, σ, h, .refl _ _, fun _ h => h⟩
  | i :: l, dn, dn', ρ, σ, h, hk => by
    simp only [okRuns, cond_eq_ite] at hk
    split at hk
    · rename_i hrun
      obtain ⟨r, b, v, σ', hr, hw, hf, ht, hk'⟩ := evOne_inv (k := evRuns tbl call rl k l) h
      have hi : i ∉ dn := by
        unfold okRun at hrun
        rw [hr] at hrun
        simp only [Bool.and_eq_true, Bool.not_eq_true'] at hrun
        intro hm
        rw [memN_iff.2 hm] at hrun
        simp at hrun
      obtain ⟨ρ', σ'', h1, h2, h3⟩ := keep_runs hk' hk
      exact ⟨ρ', σ'', h1, (Keeps.put hr hi).trans h2 (fun j hj => List.mem_cons_of_mem _ hj), fun j hj => h3 j (List.mem_cons_of_mem _ hj)⟩
    · cases hk

theorem okEff_out {prev : Option Nat} {dn : List Nat} {e : Nat} (h : okEff pl tab rl prev dn e = true) : ∃ r, rl[e]? = some r ∧ e ∉ dn ∧ okUse tab rl e dn r = true ∧
    (∀ p ∈ pl.getD e [], p ∈ dn) ∧ okPrev tab prev e = true ∧ r.op.madeBy = false := by
  unfold okEff at h
  split at h
  · rename_i r hr
    simp only [Bool.and_eq_true, Bool.not_eq_true', List.all_eq_true] at h
    obtain ⟨⟨⟨⟨h1, h2⟩, h3⟩, h4⟩, h5⟩ := h
    refine ⟨r, hr, fun hm => (by rw [memN_iff.2 hm] at h1; cases h1), h2, fun p hp => memN_iff.1 (h3 p hp), h4, h5⟩
  · cases h

theorem okRun_out {prev : Option Nat} {dn : List Nat} {i : Nat} (h : okRun pl tab rl prev dn i = true) : ∃ r, rl[i]? = some r ∧ r.op.loud = false ∧ i ∉ dn ∧
    okUse tab rl i dn r = true ∧ (∀ p ∈ pl.getD i [], p ∈ dn) ∧ okPrev tab prev i = true ∧ (r.op.madeBy = true → r.dst.isSome = true) := by
  unfold okRun at h
  split at h
  · rename_i r hr
    simp only [Bool.and_eq_true, Bool.not_eq_true', List.all_eq_true, Bool.or_eq_true] at h
    obtain ⟨⟨⟨⟨⟨h0, h1⟩, h2⟩, h3⟩, h4⟩, h5⟩ := h
    refine ⟨r, hr, h0, fun hm => (by rw [memN_iff.2 hm] at h1; cases h1), h2, fun p hp => memN_iff.1 (h3 p hp), h4, fun hm => ?_⟩
    rcases h5 with h5 | h5
    · rw [hm] at h5; cases h5
    · exact h5
  · cases h

theorem keep_plan {x : AX} {σE : AH} : ∀ {l : List Stage} {prev : Option Nat} {dn : List Nat} {ρ : Env} {σ : AH}, evPlan tbl call rl l ρ σ = some (x, ρE, σE) →
    okPlan pl tab rl prev dn l = true → Keeps rl dn ρ ρE
  | [], prev, dn, ρ, σ, h, hk => by simp [okPlan] at hk
  | s :: l, prev, dn, ρ, σ, h, hk => by
    simp only [okPlan, Bool.and_eq_true] at hk
    obtain ⟨_, hk⟩ := hk
    split at hk
    · cases hk
    · rename_i dn' hruns
      simp only [evPlan] at h
      obtain ⟨h, _⟩ := evChks_inv h
      obtain ⟨ρ', σ', h1, h2, h3⟩ := keep_runs h hruns
      split at hk
      · rename_i he
        rw [he] at h1
        simp only [Bool.and_eq_true] at hk
        have hl : l = [] := List.isEmpty_iff.1 hk.1
        subst hl
        simp only [evPlan, Option.some.injEq, Prod.mk.injEq] at h1
        obtain ⟨_, rfl, _⟩ := h1
        exact h2
      · rename_i e he
        rw [he] at h1
        simp only [Bool.and_eq_true] at hk
        obtain ⟨hE, hk⟩ := hk
        obtain ⟨r, hr, hn, _⟩ := okEff_out hE
        obtain ⟨r', b, v, σ'', hr', _, _, _, hk'⟩ := evOne_inv h1
        have ih := keep_plan hk' hk
        refine h2.trans (((Keeps.put hr' hn)).trans ih fun j hj => List.mem_cons_of_mem _ hj) h3

/-! ### Slots, names -/

theorem memN_cons (i j : Nat) (dn : List Nat) : memN j (i :: dn) = (j == i || memN j dn) := by
  simp only [memN, cond_eq_ite]
  by_cases h : j = i
  · subst h; simp
  · have : Nat.beq j i = false := by
      cases hb : Nat.beq j i with
      | false => rfl
      | true => exact absurd (Nat.eq_of_beq_eq_true hb) h
    simp [this, h]

theorem Mix.put (hnd : nodupD rl 0 rl = true) {D : Nat → Bool} {ρ : Env} {i : Nat} {r : ROp} {v : AV} (h : Mix rl ρ0 ρE D ρ) (hr : rl[i]? = some r) (hd : DstIs ρE r v) :
    Mix rl ρ0 ρE (fun j => j == i || D j) (eput ρ r.dst v) := by
  intro p
  by_cases hp : r.dst = some p
  · have hw : Wr rl p i := ⟨r, hr, hp⟩
    refine ⟨fun j hj => ?_, fun hno => absurd hw (hno i)⟩
    have : j = i := by
      have h1 := hj.idx hnd
      rw [hw.idx hnd] at h1
      simpa using h1.symm
    subst this
    rw [hp, eput_eq]
    simp [hd p hp]
  · refine ⟨fun j hj => ?_, fun hno => by rw [eput_ne hp]; exact (h p).2 hno⟩
    have hne : j ≠ i := by
      rintro rfl
      obtain ⟨r', h1, h2⟩ := hj
      rw [hr] at h1
      cases h1
      exact hp h2
    rw [eput_ne hp, (h p).1 j hj]
    simp [hne]

theorem Mix.putL (hnd : nodupD rl 0 rl = true) {dn : List Nat} {ρ : Env} {i : Nat} {r : ROp} {v : AV} (h : Mix rl ρ0 ρE (fun j => memN j dn) ρ) (hr : rl[i]? = some r)
    (hd : DstIs ρE r v) : Mix rl ρ0 ρE (fun j => memN j (i :: dn)) (eput ρ r.dst v) := by
  have := h.put hnd hr hd
  have e : (fun j => memN j (i :: dn)) = fun j => j == i || memN j dn := funext fun j => memN_cons i j dn
  rw [e]
  exact this

/-- the name of the block that an operation makes -/
def BL (rl : List ROp) (ρE : Env) (i : Nat) (b : Pos) : Prop := ∃ r d v, rl[i]? = some r ∧ r.op.madeBy = true ∧ r.dst = some d ∧ ρE.get d = some v ∧ v.blk = some b

structure Names (rl : List ROp) (ρE : Env) (base : Nat) (dn : List Nat) (σ : AH) : Prop where
  bounds : ∀ i ∈ dn, ∀ b, BL rl ρE i b → base ≤ b.nat ∧ b.nat < σ.nx.nat
  inj : ∀ i ∈ dn, ∀ j ∈ dn, ∀ b, BL rl ρE i b → BL rl ρE j b → i = j

structure Ext (σ τ : AH) : Prop where
  sub : Sub σ τ
  old : ∀ b : Pos, b.nat < σ.nx.nat → τ.get b = σ.get b
  nx : σ.nx.nat ≤ τ.nx.nat
  fresh : ∀ b : Pos, τ.nx.nat ≤ b.nat → τ.get b = none
  rob : ∀ b l, τ.get b = some (.cells true l) → σ.get b = some (.cells true l)

theorem Ext.refl {σ : AH} (h : ∀ b : Pos, σ.nx.nat ≤ b.nat → σ.get b = none) : Ext σ σ := ⟨fun _ _ e => e, fun _ _ => rfl, Nat.le_refl _, h, fun _ _ e => e⟩
theorem Ext.trans {σ τ υ : AH} (h : Ext σ τ) (k : Ext τ υ) : Ext σ υ :=
  ⟨fun b y e => k.sub b y (h.sub b y e), fun b hb => (k.old b (Nat.lt_of_lt_of_le hb h.nx)).trans (h.old b hb), Nat.le_trans h.nx k.nx, k.fresh, fun b l e => h.rob b l (k.rob b l e)⟩

theorem Ext.new {σ : AH} (h : ∀ b : Pos, σ.nx.nat ≤ b.nat → σ.get b = none) (x : AB) (hwr : x.wr = true) : Ext σ (σ.new x) := by
  refine ⟨sub_new h x, fun b hb => get_new_ne (by rintro rfl; omega), ?_, fun b hb => ?_, fun b l e => ?_⟩
  · rw [AH.nx_new, Pos.nat_succ]; omega
  · rw [AH.nx_new, Pos.nat_succ] at hb
    rw [get_new_ne (by rintro rfl; omega)]
    exact h b (by omega)
  · rw [AH.get_new] at e
    split at e
    · cases e; simp [AB.wr] at hwr
    · exact e

theorem quiet_ext {r : ROp} {ρ : Env} {σ σ' : AH} {v : AV} (hf : ∀ b : Pos, σ.nx.nat ≤ b.nat → σ.get b = none) (hl : r.op.loud = false)
    (h : evOp tbl call ρ σ r.op = some (.val v, σ')) : Ext σ σ' := by
  cases hm : r.op.madeBy with
  | true =>
    obtain ⟨x, mk, _, rfl, hwr, _⟩ := made_any hm h
    exact .new hf x hwr
  | false =>
    cases hr : r.op.reads with
    | true => obtain ⟨_, _, rfl, _⟩ := read_ext hr h; exact .refl hf
    | false => obtain ⟨_, _, rfl, _⟩ := pure_any hl hm hr h; exact .refl hf

theorem runs_out (hnd : nodupD rl 0 rl = true) (htab : ∀ i j, j ∈ tab.getD i [] → Lead pl j i) {prev : Option Nat} {k : Env → AH → Res} {res : AX × Env × AH} {base : Nat} :
    ∀ {l dn dn' : List Nat} {ρ : Env} {σ : AH}, evRuns tbl call rl k l ρ σ = some res → okRuns pl tab rl prev dn l = some dn' →
    (∀ ρ' σ', k ρ' σ' = some res → Keeps rl dn' ρ' ρE) → Mix rl ρ0 ρE (fun j => memN j dn) ρ → (∀ b : Pos, σ.nx.nat ≤ b.nat → σ.get b = none) → base ≤ σ.nx.nat →
    Names rl ρE base dn σ → ∃ ρ' σ', k ρ' σ' = some res ∧ Mix rl ρ0 ρE (fun j => memN j dn') ρ' ∧ Ext σ σ' ∧ Names rl ρE base dn' σ' ∧ (∀ i ∈ dn, i ∈ dn') ∧
      ∀ i ∈ dn', i ∉ dn → QF tbl call rl pl ρ0 ρE i σ' ∧ okPrev tab prev i = true ∧ ∀ b, BL rl ρE i b → σ.nx.nat ≤ b.nat
  | [], dn, dn', ρ, σ, h, hk, hE, hM, hf, hb, hN => by
    simp only [okRuns, Option.some.injEq] at hk
    subst hk
    exact ⟨ρ, σ, h, hM, .refl hf, hN, fun _ h => h, fun i h1 h2 => absurd h1 h2⟩
  | i :: l, dn, dn', ρ, σ, h, hk, hE, hM, hf, hb, hN => by
    simp only [okRuns, cond_eq_ite] at hk
    split at hk
    · rename_i hrun
      obtain ⟨r', h0, hl, hi, hu, hp, hprev, hmd⟩ := okRun_out hrun
      obtain ⟨r, b, v, σ1, hr, hw, hfa, htr, hk'⟩ := evOne_inv (k := evRuns tbl call rl k l) h
      have e0 : r = r' := by rw [hr] at h0; exact Option.some.inj h0
      subst e0
      obtain ⟨ρ2, σ2, q1, q2, q3⟩ := keep_runs hk' hk
      have hKE : Keeps rl (i :: dn) (eput ρ r.dst v) ρE := q2.trans (hE _ _ q1) q3
      have hd : DstIs ρE r v := by
        intro p hp
        rw [hKE p ?_, hp, eput_eq]
        intro j hj
        have h1 := hj.idx hnd
        rw [Wr.idx hnd ⟨r, hr, hp⟩] at h1
        have : i = j := by simpa using h1
        simp [this]
      have hext : Ext σ σ1 := by
        cases b with
        | true => exact quiet_ext hf hl (htr rfl)
        | false => obtain ⟨_, rfl⟩ := hfa rfl; exact .refl hf
      have hqf := QF.run hnd htab hr hl hmd hu hM hw hfa htr hd
      have hbl : ∀ c, BL rl ρE i c → c = σ.nx ∧ σ1.nx.nat = σ.nx.nat + 1 := by
        rintro c ⟨s, d, u, e1, e2, e3, e4, e5⟩
        rw [hr] at e1
        cases e1
        rw [hd d e3] at e4
        cases e4
        cases b with
        | false => rw [(hfa rfl).1] at e5; cases e5
        | true =>
          obtain ⟨x, mk, y1, y2, _, _, y4, _⟩ := made_any e2 (htr rfl)
          cases y1
          rw [y4] at e5
          cases e5
          rw [y2, AH.nx_new, Pos.nat_succ]
          exact ⟨rfl, rfl⟩
      have hN1 : Names rl ρE base (i :: dn) σ1 := by
        refine ⟨fun j hj c hc => ?_, fun j hj k hk c h1 h2 => ?_⟩
        · rcases List.mem_cons.1 hj with rfl | hj
          · obtain ⟨rfl, hn⟩ := hbl c hc; omega
          · have := hN.bounds j hj c hc; have := hext.nx; omega
        · rcases List.mem_cons.1 hj with e1 | g1 <;> rcases List.mem_cons.1 hk with e2 | g2
          · exact e1.trans e2.symm
          · rw [e1] at h1; obtain ⟨rfl, hn⟩ := hbl c h1; have := hN.bounds k g2 _ h2; omega
          · rw [e2] at h2; obtain ⟨rfl, hn⟩ := hbl c h2; have := hN.bounds j g1 _ h1; omega
          · exact hN.inj j g1 k g2 c h1 h2
      obtain ⟨ρ', σ', h1, h2, h3, h4, h5, h6⟩ := runs_out hnd htab hk' hk hE (hM.putL hnd hr hd) hext.fresh (Nat.le_trans hb hext.nx) hN1
      refine ⟨ρ', σ', h1, h2, hext.trans h3, h4, fun j hj => h5 j (List.mem_cons_of_mem _ hj), fun j hj hnj => ?_⟩
      by_cases hji : j = i
      · subst hji
        exact ⟨hqf.sub h3.sub, hprev, fun b hb => by rw [(hbl b hb).1]; exact Nat.le_refl _⟩
      · obtain ⟨g1, g2, g3⟩ := h6 j hj (by simp [hji, hnj])
        exact ⟨g1, g2, fun b hb => Nat.le_trans hext.nx (g3 b hb)⟩
    · cases hk

/-- each after its forerunners -/
def Ord (pl : List (List Nat)) : List Nat → Prop
  | [] => True
  | i :: dn => (∀ p ∈ pl.getD i [], p ∈ dn) ∧ Ord pl dn

theorem ord_runs {prev : Option Nat} : ∀ {l dn dn' : List Nat}, Ord pl dn → okRuns pl tab rl prev dn l = some dn' → Ord pl dn'
  | [], dn, dn', h, hk => by
    simp only [okRuns, Option.some.injEq] at hk
    subst hk
    exact h
  | i :: l, dn, dn', h, hk => by
    simp only [okRuns, cond_eq_ite] at hk
    split at hk
    · rename_i hrun
      obtain ⟨r, _, _, _, _, hp, _⟩ := okRun_out hrun
      exact ord_runs (dn := i :: dn) ⟨hp, h⟩ hk
    · cases hk

/-- a place in a plan: before an effect, or at the end -/
structure AtB (tbl : Disp) (call : Call) (rl : List ROp) (pl tab : List (List Nat)) (ρ0 ρE : Env) (σE : AH) (base : Nat) (D : Nat → Bool)
    (eff : Option Nat) (l : List Stage) (prev : Option Nat) (dn : List Nat) (ρ : Env) (σ : AH) : Prop where
  mix : Mix rl ρ0 ρE (fun j => memN j dn) ρ
  names : Names rl ρE base dn σ
  qf : ∀ i ∈ dn, D i = false → QF tbl call rl pl ρ0 ρE i σ
  ord : Ord pl dn
  next : match eff with
    | none => ρ = ρE ∧ σ = σE ∧ ∀ i, i < rl.length → i ∈ dn
    | some e => okEff pl tab rl prev dn e = true ∧ okPlan pl tab rl (some e) (e :: dn) l = true ∧ evOne tbl call rl e ρ σ (evPlan tbl call rl l) = some (.norm, ρE, σE)

theorem adv (hnd : nodupD rl 0 rl = true) (htab : ∀ i j, j ∈ tab.getD i [] → Lead pl j i) {base : Nat} {D : Nat → Bool} {L : List Stage} {prev : Option Nat} {dn : List Nat}
    {ρ : Env} {σ σE : AH} (hk : okPlan pl tab rl prev dn L = true) (h : evPlan tbl call rl L ρ σ = some (.norm, ρE, σE)) (hM : Mix rl ρ0 ρE (fun j => memN j dn) ρ)
    (hf : ∀ b : Pos, σ.nx.nat ≤ b.nat → σ.get b = none) (hb : base ≤ σ.nx.nat) (hN : Names rl ρE base dn σ)
    (hq : ∀ i ∈ dn, D i = false → ∃ τ, QF tbl call rl pl ρ0 ρE i τ) (ho : Ord pl dn) (hp : ∀ e, prev = some e → D e = true) (hD : Down pl D) :
    ∃ eff l dn' ρ' σ', AtB tbl call rl pl tab ρ0 ρE σE base D eff l prev dn' ρ' σ' ∧ Ext σ σ' ∧ (∀ i ∈ dn, i ∈ dn') ∧
      ∀ i ∈ dn', i ∉ dn → ∀ b, BL rl ρE i b → σ.nx.nat ≤ b.nat := by
  cases L with
  | nil => simp [okPlan] at hk
  | cons s l =>
    have hkeep := hk
    simp only [okPlan, Bool.and_eq_true, List.all_eq_true] at hk
    obtain ⟨⟨hchk, hcov⟩, hk⟩ := hk
    split at hk
    · cases hk
    · rename_i dn' hruns
      simp only [evPlan] at h
      obtain ⟨h, hlook⟩ := evChks_inv h
      have hE : ∀ ρ' σ', (match s.eff with
          | some i => evOne tbl call rl i ρ' σ' (evPlan tbl call rl l)
          | none => evPlan tbl call rl l ρ' σ') = some (.norm, ρE, σE) → Keeps rl dn' ρ' ρE := by
        intro ρ' σ' h1
        split at hk
        · rename_i he
          rw [he] at h1
          simp only [Bool.and_eq_true] at hk
          have hl : l = [] := List.isEmpty_iff.1 hk.1
          subst hl
          simp only [evPlan, Option.some.injEq, Prod.mk.injEq] at h1
          obtain ⟨_, rfl, _⟩ := h1
          exact .refl _ _
        · rename_i e he
          rw [he] at h1
          simp only [Bool.and_eq_true] at hk
          obtain ⟨r, hr, hn, _⟩ := okEff_out hk.1
          obtain ⟨r', b, v, σ'', hr', _, _, _, hk'⟩ := evOne_inv h1
          exact (Keeps.put hr' hn).trans (keep_plan hk' hk.2) fun j hj => List.mem_cons_of_mem _ hj
      obtain ⟨ρ', σ', h1, h2, h3, h4, h5, h6⟩ := runs_out hnd htab h hruns hE hM hf hb hN
      refine ⟨s.eff, l, dn', ρ', σ', ⟨h2, h4, ?_, ord_runs ho hruns, ?_⟩, h3, h5, fun i hi hni => (h6 i hi hni).2.2⟩
      · intro i hi hDi
        by_cases hid : i ∈ dn
        · obtain ⟨τ, hτ⟩ := hq i hid hDi
          have hc := hcov i hid
          unfold covered at hc
          split at hc
          · rename_i r hr
            simp only [Bool.or_eq_true, Bool.and_eq_true, Bool.not_eq_true'] at hc
            rcases hc with (hc | hc) | hc
            · exact hτ.pure hr hc.1.1 hc.1.2
            · have hm := memN_iff.1 hc
              exact (QF.looked hnd htab hτ (hchk i hm) hM (hlook i hm)).sub h3.sub
            · exfalso
              cases prev with
              | none => cases hc
              | some e =>
                have he := hp e rfl
                simp only [Bool.or_eq_true] at hc
                rcases hc with hc | hc
                · rw [Nat.eq_of_beq_eq_true hc, he] at hDi; cases hDi
                · rw [htab _ _ (memN_iff.1 hc) D hD he] at hDi; cases hDi
          · cases hc
        · exact (h6 i hi hid).1
      · split at hk
        · rename_i he
          rw [he] at h1
          simp only [Bool.and_eq_true, List.all_eq_true] at hk
          have hl : l = [] := List.isEmpty_iff.1 hk.1
          subst hl
          simp only [evPlan, Option.some.injEq, Prod.mk.injEq] at h1
          simp only [he]
          exact ⟨h1.2.1, h1.2.2, fun i hi => memN_iff.1 (hk.2 i (List.mem_range.2 hi))⟩
        · rename_i e he
          rw [he] at h1
          simp only [Bool.and_eq_true] at hk
          simp only [he]
          exact ⟨hk.1, hk.2, h1⟩

/-- what is not done yet comes after the effect -/
theorem future (htab : ∀ i j, j ∈ tab.getD i [] → Lead pl j i) : ∀ {L : List Stage} {e : Nat} {dn : List Nat}, okPlan pl tab rl (some e) dn L = true → ∀ i, i < rl.length → i ∉ dn → Lead pl e i
  | [], e, dn, h => by simp [okPlan] at h
  | s :: l, e, dn, hk => by
    intro i hi hni
    simp only [okPlan, Bool.and_eq_true] at hk
    obtain ⟨_, hk⟩ := hk
    split at hk
    · cases hk
    · rename_i dn' hruns
      have hrun : ∀ {l dn dn' : List Nat}, okRuns pl tab rl (some e) dn l = some dn' → ∀ i ∈ dn', i ∉ dn → Lead pl e i := by
        intro l
        induction l with
        | nil =>
          intro dn dn' h i h1 h2
          simp only [okRuns, Option.some.injEq] at h
          subst h
          exact absurd h1 h2
        | cons j l ih =>
          intro dn dn' h i h1 h2
          simp only [okRuns, cond_eq_ite] at h
          split at h
          · rename_i hr
            obtain ⟨r, _, _, _, _, _, hp, _⟩ := okRun_out hr
            by_cases hij : i = j
            · subst hij; exact htab _ _ (memN_iff.1 hp)
            · exact ih h i h1 (by simp [hij, h2])
          · cases h
      by_cases hid : i ∈ dn'
      · exact hrun hruns i hid hni
      · split at hk
        · simp only [Bool.and_eq_true, List.all_eq_true] at hk
          exact absurd (memN_iff.1 (hk.2 i (List.mem_range.2 hi))) hid
        · rename_i e' he
          simp only [Bool.and_eq_true] at hk
          obtain ⟨r, hr, hn, hu, hp, hprev, _⟩ := okEff_out hk.1
          have h1 : Lead pl e e' := htab _ _ (memN_iff.1 hprev)
          by_cases hie : i = e'
          · subst hie; exact h1
          · have h2 := future htab hk.2 i hi (by simp [hie, hid])
            exact fun D hD hDi => h1 D hD (h2 D hD hDi)

end plan
end Go.Proofs.YtgaoddafkjdecaaGreat.EV
