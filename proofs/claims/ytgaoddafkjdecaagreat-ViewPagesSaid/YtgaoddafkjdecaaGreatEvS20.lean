/-
  EV, part S20: regions that draw their order. Own work of this claim.
-/
import Derived.Test.YtgaoddafkjdecaaGreatEvS19
set_option linter.unusedVariables false
set_option linter.unusedSimpArgs false
namespace Go.Proofs.YtgaoddafkjdecaaGreat.EV

section
variable {P : Program} {ms : List String} {w : World} {μ : Mu} {σ σ' : AH} {nt : Nat} {ρ ρ' : Env} {a : Act} {ops : Array Oper} {o : Oper} {out : Out} {tbl : Disp} {call : Call}

theorem made_sound (hR : Rel μ σ w) (hA : RA μ nt ρ a) {aop : AOp} (hc : cOp P ms o.op = some aop) (hm : aop.madeBy = true)
    (hev : evOp tbl call ρ σ aop = some (out, σ')) : QuietM P o a μ σ w out σ' := by
  cases hop : o.op <;> rw [hop] at hc <;> simp only [cOp, reduceCtorEq] at hc
  case alloc e =>
    split at hc
    · rename_i z hz; cases hc; exact q_alloc hR hop hz hev
    · cases hc
  case box e x =>
    split at hc
    · rename_i n y hn hy; cases hc; exact q_box hR hA hop hy hev
    · cases hc
  case buildSlice t len ps =>
    split at hc
    · rename_i e he
      split at hc
      · rename_i sz z hs hz
        split at hc
        · rename_i l hl
          simp only [cond_eq_ite] at hc
          split at hc
          · rename_i hle; cases hc; exact q_bslice hR hA hop (sliceElem_spec he) hz hs (Nat.le_of_ble_eq_true hle) hl hev
          · cases hc
        · cases hc
      · cases hc
    · cases hc
  case convert s d x =>
    split at hc
    · rename_i y hy
      split at hc
      · cases hc; simp [AOp.madeBy] at hm
      · cases hc; simp [AOp.madeBy] at hm
      · rename_i e hs hd
        split at hc
        · rename_i he; cases hc; exact q_cvSB hR hA hop hy hs hd he hev
        · cases hc
      · split at hc
        · cases hc; simp [AOp.madeBy] at hm
        · cases hc
      · split at hc
        · simp only [cond_eq_ite] at hc
          split at hc
          · cases hc; simp [AOp.madeBy] at hm
          · cases hc
        · cases hc
      · cases hc; simp [AOp.madeBy] at hm
      · cases hc
    · cases hc
  case makeMap t r =>
    cases r <;> simp only [reduceCtorEq, Option.some.injEq] at hc
    subst hc
    exact q_mkMap hR hop hev
  case makeSlice t l c =>
    split at hc
    · rename_i e he
      split at hc
      · rename_i sz bytes z l' c' h1 h2 h3 h4 h5; cases hc; exact q_mkSlice hR hA hop h4 h5 (sliceElem_spec he) h1 h2 h3 hev
      · cases hc
    · cases hc
  case makeFunc fn fs cs =>
    cases fn <;> simp only [reduceCtorEq] at hc
    split at hc
    · cases hc; simp [AOp.madeBy] at hm
    · cases hc
  case call c =>
    exfalso
    unfold cCall at hc
    (repeat' split at hc) <;> first
      | (cases hc; done)
      | (simp only [cond_eq_ite] at hc; (repeat' split at hc) <;> first | (cases hc; done) | (cases hc; simp [AOp.madeBy] at hm; done))
      | (cases hc; simp [AOp.madeBy] at hm; done)
  all_goals
    exfalso
    (repeat' split at hc) <;> first
      | (cases hc; done)
      | (simp only [cond_eq_ite] at hc; (repeat' split at hc) <;> first | (cases hc; done) | (cases hc; simp [AOp.madeBy] at hm; done))
      | (cases hc; simp [AOp.madeBy] at hm; done)

theorem Rel.ext {τ : AH} (h : Rel μ σ w) (e : Ext σ τ) : Rel μ τ w := by
  have back : ∀ {b x p}, τ.get b = some x → μ b = some p → σ.get b = some x := by
    intro b x p h1 h2
    rw [← e.old b (h.dom b p h2).1]
    exact h1
  exact ⟨e.fresh, fun b p hb => ⟨Nat.lt_of_lt_of_le (h.dom b p hb).1 e.nx, (h.dom b p hb).2⟩, fun b x p h1 h2 => h.blk b x p (back h1 h2) h2,
    fun b x p c y q h1 h2 h3 h4 h5 h6 => h.inj b x p c y q (back h1 h3) h2 h3 (back h4 h5) h5 h6⟩

theorem Step.ext {μ0 : Mu} {σ0 : AH} {w0 : World} {τ : AH} (h : Step μ0 σ0 w0 μ σ w) (e : Ext σ τ) : Step μ0 σ0 w0 μ τ w := by
  refine h.trans ⟨Mu.le_refl μ, h.rel.ext e, ⟨rfl, rfl, rfl, Nat.le_refl _, fun _ _ _ => rfl, ?_, e.nx, fun b l hb => e.sub _ _ hb, e.rob⟩, fun _ _ => rfl⟩
  rintro i hi ⟨b, x, p, h1, h2, h3, h4⟩
  exact ⟨b, x, p, by rw [← e.old b (h.rel.dom b p h3).1]; exact h1, h2, h3, h4⟩

theorem cOpers_get : ∀ {l : List Oper} {rl : List ROp}, cOpers P ms ops nt l = some rl → rl.length = l.length ∧ ∀ (i : Nat) (r : ROp), rl[i]? = some r →
    ∃ o, l[i]? = some o ∧ cOper P ms ops nt o = some r
  | [], _, h => by simp [cOpers] at h; subst h; simp
  | o :: l, _, h => by
    simp only [cOpers] at h
    split at h
    · rename_i r rs h1 h2
      cases h
      obtain ⟨h3, h4⟩ := cOpers_get h2
      refine ⟨by simp [h3], fun i s hs => ?_⟩
      cases i with
      | zero => simp at hs; subst hs; exact ⟨o, by simp, h1⟩
      | succ i => simp at hs; simpa using h4 i s hs
    · cases h

theorem filter_less {p q : Nat → Bool} {i : Nat} : ∀ {l : List Nat}, i ∈ l → p i = true → q i = false → (∀ j, q j = true → p j = true) → (l.filter q).length < (l.filter p).length := by
  have le : ∀ (l : List Nat), (∀ j, q j = true → p j = true) → (l.filter q).length ≤ (l.filter p).length := by
    intro l h
    induction l with
    | nil => simp
    | cons a l ih =>
      simp only [List.filter_cons]
      cases hq : q a with
      | true => simp [h a hq, ih]
      | false => cases p a <;> simp [ih] <;> omega
  intro l
  induction l with
  | nil => simp
  | cons a l ih =>
    intro hi hp hq h
    simp only [List.filter_cons]
    have hle := le l h
    by_cases hia : i = a
    · subst hia
      rw [hp, hq]
      simp
      omega
    · have hi' : i ∈ l := by simpa [hia] using hi
      have := ih hi' hp hq h
      cases hqa : q a with
      | true => simp [h a hqa, this]
      | false => cases p a <;> simp <;> omega

/-- which operations are listed -/
def Dl (listed : Array Bool) (i : Nat) : Bool := listed.getD i false

theorem getD_flip {listed : Array Bool} {i n : Nat} (hs : listed.size = n) (hi : i < n) : listed.getD i true = listed.getD i false := by
  have : i < listed.size := by omega
  simp [this]

theorem Dl_set {listed : Array Bool} {n i : Nat} (hs : listed.size = n) (hi : i < n) : Dl (listed.setIfInBounds i true) = fun j => j == i || Dl listed j := by
  funext j
  unfold Dl
  by_cases h : j = i
  · subst h
    have : j < listed.size := by omega
    simp [this]
  · rw [getD_set_ne false (Ne.symm h)]
    simp [h]

variable {rl : List ROp} {ρ0 ρE : Env} {pl tab : List (List Nat)} {σ0 σE : AH} {μ0 : Mu} {w0 : World}

theorem ready_iff (hpl : pl = ops.toList.map predsOf) {listed : Array Bool} (hs : listed.size = ops.size) {i : Nat} :
    i ∈ Region.ready .any ops listed ↔ i < ops.size ∧ Dl listed i = false ∧ ∀ p ∈ pl.getD i [], Dl listed p = true := by
  rw [mem_ready]
  have hp : ∀ o, ops[i]? = some o → pl.getD i [] = predsOf o := by
    intro o ho
    rw [hpl]
    simp [List.getD, ho]
  constructor
  · rintro ⟨h0, o, ho, h1⟩
    have hi : i < ops.size := (Array.getElem?_eq_some_iff.1 ho).1
    refine ⟨hi, ?_, ?_⟩
    · unfold Dl; rw [← getD_flip hs hi]; exact h0
    · rw [hp o ho]
      intro p hpm
      simp only [predsOf, List.mem_map, List.mem_filter] at hpm
      obtain ⟨e, ⟨h2, h3⟩, rfl⟩ := hpm
      exact h1 e (by simpa using h2) h3
  · rintro ⟨hi, h0, h1⟩
    refine ⟨by rw [getD_flip hs hi]; exact h0, ops[i], by simp [hi], ?_⟩
    intro e he hb
    refine h1 e.on ?_
    rw [hp ops[i] (by simp [hi])]
    simp only [predsOf, List.mem_map, List.mem_filter]
    exact ⟨e, ⟨by simpa using he, hb⟩, rfl⟩

theorem ord_done {D : Nat → Bool} {n : Nat} (h : ∀ i, i < n → D i = false → ¬ ∀ p ∈ pl.getD i [], D p = true) : ∀ {dn : List Nat}, Ord pl dn → (∀ i ∈ dn, i < n) → ∀ i ∈ dn, D i = true
  | [], _, _, i, hi => by simp at hi
  | j :: dn, ho, hn, i, hi => by
    have ih := ord_done h ho.2 (fun i hi => hn i (List.mem_cons_of_mem _ hi))
    rcases List.mem_cons.1 hi with rfl | hi
    · cases hD : D i with
      | true => rfl
      | false => exact absurd (fun p hp => ih p (ho.1 p hp)) (h i (hn i (by simp)) hD)
    · exact ih i hi

/-- where a region that draws its order stands -/
structure Inv (P : Program) (ops : Array Oper) (nt : Nat) (tbl : Disp) (call : Call) (rl : List ROp) (pl tab : List (List Nat)) (ρ0 ρE : Env) (σE : AH) (μ0 : Mu) (σ0 : AH) (w0 : World) (listed : Array Bool)
    (eff : Option Nat) (l : List Stage) (prev : Option Nat) (dn : List Nat) (ρ : Env) (σ : AH) (a : Act) (w : World) (μ : Mu) : Prop where
  size : listed.size = ops.size
  down : Down pl (Dl listed)
  sub : ∀ i, Dl listed i = true → i ∈ dn
  lt : ∀ i ∈ dn, i < ops.size
  at_ : AtB tbl call rl pl tab ρ0 ρE σE σ0.nx.nat (Dl listed) eff l prev dn ρ σ
  env : ∃ ρm, Mix rl ρ0 ρE (Dl listed) ρm ∧ RA μ nt ρm a
  step : Step μ0 σ0 w0 μ σ w
  names : ∀ i ∈ dn, Dl listed i = false → ∀ b, BL rl ρE i b → μ b = none

theorem RA.of_get {ρ ρ' : Env} (h : RA μ nt ρ a) (e : ∀ p, ρ'.get p = ρ.get p) : RA μ nt ρ' a := ⟨h.size, h.defers, fun i => by rw [e]; exact h.get i⟩

theorem any_sound (hC : CallOK P call) (hD : DispOK P ms tbl) (hcs : cOpers P ms ops nt ops.toList = some rl) (hnd : nodupD rl 0 rl = true)
    (htab : ∀ i j, j ∈ tab.getD i [] → Lead pl j i) (hpl : pl = ops.toList.map predsOf) : ∀ (fuel : Nat) (listed : Array Bool)
    (eff : Option Nat) (l : List Stage) (prev : Option Nat) (dn : List Nat) (ρ : Env) (σ : AH) (a : Act) (w : World) (μ : Mu),
    Inv P ops nt tbl call rl pl tab ρ0 ρE σE μ0 σ0 w0 listed eff l prev dn ρ σ a w μ → ((List.range ops.size).filter fun i => !Dl listed i).length ≤ fuel →
    wpAny P .any ops (Fin nt μ0 σ0 w0 .norm ρE σE) fuel listed a w := by
  have hlen : rl.length = ops.size := by simpa using (cOpers_get hcs).1
  have hops : ∀ (i : Nat) (r : ROp), rl[i]? = some r → ∃ o, ops[i]? = some o ∧ cOper P ms ops nt o = some r := by
    intro i r hr
    simpa using (cOpers_get hcs).2 i r hr
  intro fuel
  have fin : ∀ (listed : Array Bool) (eff : Option Nat) (l : List Stage) (prev : Option Nat) (dn : List Nat) (ρ : Env) (σ : AH) (a : Act) (w : World) (μ : Mu),
      Inv P ops nt tbl call rl pl tab ρ0 ρE σE μ0 σ0 w0 listed eff l prev dn ρ σ a w μ → Region.ready .any ops listed = [] → Fin nt μ0 σ0 w0 .norm ρE σE .normal a w := by
    intro listed eff l prev dn ρ σ a w μ hI hr
    have hno : ∀ i, i < ops.size → Dl listed i = false → ¬ ∀ p ∈ pl.getD i [], Dl listed p = true := by
      intro i hi h0 h1
      have := (ready_iff hpl hI.size).2 ⟨hi, h0, h1⟩
      rw [hr] at this
      cases this
    have hdn := ord_done hno hI.at_.ord hI.lt
    have hnext := hI.at_.next
    cases eff with
    | some e =>
      exfalso
      obtain ⟨he, _, _⟩ := hnext
      obtain ⟨r, hr', hn, _, hp, _⟩ := okEff_out he
      obtain ⟨o, ho, _⟩ := hops e r hr'
      have hi : e < ops.size := (Array.getElem?_eq_some_iff.1 ho).1
      have h0 : Dl listed e = false := by
        cases h : Dl listed e with
        | false => rfl
        | true => exact absurd (hI.sub e h) hn
      exact hno e hi h0 fun p hpp => hdn p (hp p hpp)
    | none =>
      obtain ⟨rfl, rfl, hall⟩ := hnext
      obtain ⟨ρm, hm, hra⟩ := hI.env
      refine ⟨μ, hI.step, hra.of_get fun p => ?_, rfl⟩
      by_cases hw : ∃ j, Wr rl p j
      · obtain ⟨j, hj⟩ := hw
        obtain ⟨r, hr', _⟩ := id hj
        have hj' : Dl listed j = true := hdn j (hall j (List.getElem?_eq_some_iff.1 hr').1)
        rw [(hm p).1 j hj, if_pos hj']
      · have hw' : ∀ j, ¬ Wr rl p j := fun j h => hw ⟨j, h⟩
        rw [(hm p).2 hw', (hI.at_.mix p).2 hw']
  induction fuel with
  | zero =>
    intro listed eff l prev dn ρ σ a w μ hI hcnt
    have hr : Region.ready .any ops listed = [] := by
      cases hrd : Region.ready .any ops listed with
      | nil => rfl
      | cons i t =>
        exfalso
        have hi := (ready_iff hpl hI.size).1 (show i ∈ Region.ready .any ops listed by rw [hrd]; simp)
        have : i ∈ (List.range ops.size).filter fun i => !Dl listed i := by simp [hi.1, hi.2.1]
        have := List.length_pos_of_mem this
        omega
    exact ⟨hr, fin _ _ _ _ _ _ _ _ _ _ hI hr⟩
  | succ fuel ih =>
    intro listed eff l prev dn ρ σ a w μ hI hcnt
    refine ⟨fin _ _ _ _ _ _ _ _ _ _ hI, fun i hi => ?_⟩
    obtain ⟨hin, h0, hp⟩ := (ready_iff hpl hI.size).1 hi
    obtain ⟨ρm, hmix, hra⟩ := hI.env
    have hval : Valid rl pl ρ0 ρE i ρm := ⟨Dl listed, hI.down, h0, hp, hmix⟩
    have hset := Dl_set hI.size hin
    have hdown : Down pl (Dl (listed.setIfInBounds i true)) := by
      rw [hset]
      intro k hk p hpk
      simp only [Bool.or_eq_true, beq_iff_eq] at hk ⊢
      rcases hk with rfl | hk
      · exact .inr (hp p hpk)
      · exact .inr (hI.down k hk p hpk)
    have hcnt' : ((List.range ops.size).filter fun j => !Dl (listed.setIfInBounds i true) j).length ≤ fuel := by
      have := filter_less (p := fun j => !Dl listed j) (q := fun j => !Dl (listed.setIfInBounds i true) j) (i := i) (l := List.range ops.size) (by simpa using hin)
        (by simp [h0]) (by simp [hset]) (by intro j; simp [hset])
      omega
    have hstep := hI.step
    by_cases hid : i ∈ dn
    · -- an operation without effect
      obtain ⟨r, hr, hl, hmd, hq⟩ := hI.at_.qf i hid h0
      obtain ⟨o, ho, hco⟩ := hops i r hr
      obtain ⟨s1, s2, s3, s4⟩ := cOper_spec hco
      obtain ⟨b, hw, hfa, htr⟩ := hq ρm hval
      -- how it goes on
      have go : ∀ (v : AV) (μ' : Mu) (w' : World) (v' : Value), DstIs ρE r v → Step μ0 σ0 w0 μ' σ w' → RA μ' nt ρm a → RV μ' v v' →
          (∀ j ∈ dn, j ≠ i → Dl listed j = false → ∀ c, BL rl ρE j c → μ' c = none) →
          wpAny P .any ops (Fin nt μ0 σ0 w0 .norm ρE σE) fuel (listed.setIfInBounds i true) (a.put o.dst v') w' := by
        intro v μ' w' v' hd hst hra' hrv hz
        refine ih _ eff l prev dn ρ σ _ w' μ' ⟨by simpa using hI.size, hdown, ?_, hI.lt, ?_, ?_, hst, ?_⟩ hcnt'
        · intro j hj
          rw [hset] at hj
          simp only [Bool.or_eq_true, beq_iff_eq] at hj
          rcases hj with rfl | hj
          · exact hid
          · exact hI.sub j hj
        · refine ⟨hI.at_.mix, hI.at_.names, fun j hj hDj => ?_, hI.at_.ord, hI.at_.next⟩
          rw [hset] at hDj
          simp only [Bool.or_eq_false_iff] at hDj
          exact hI.at_.qf j hj hDj.2
        · refine ⟨eput ρm r.dst v, ?_, ?_⟩
          · rw [hset]; exact hmix.put hnd hr hd
          · rw [s3]; exact hra'.putD s4 hrv
        · intro j hj hDj c hc
          rw [hset] at hDj
          simp only [Bool.or_eq_false_iff, beq_eq_false_iff_ne] at hDj
          exact hz j hj hDj.1 hDj.2 c hc
      cases b with
      | false =>
        refine oper_sound (out := .val unA) (σ' := σ) hC hD hstep.rel hra ho hco hw (fun h => by cases h) ?_ (fun h => by cases h) (fun h => by cases h)
        intro _
        exact go unA μ w undef (hfa rfl) hstep hra (RV_unA μ) fun j hj _ hDj c hc => hI.names j hj hDj c hc
      | true =>
        obtain ⟨v, hd, ⟨hm, hev⟩ | ⟨hm, c, x, mk, rfl, hcx, hblk, hre, hev⟩⟩ := htr rfl
        · refine oper_sound hC hD hstep.rel hra ho hco hw (fun _ => hev σ fun _ _ e => e) (fun h => by cases h) ?_ (fun _ v e => by cases e)
          intro _ v1 e1 μ' w' v' hst hrv
          cases e1
          refine go v μ' w' v' hd (hstep.trans hst) (hra.mono hst.le) hrv fun j hj _ hDj c hc => ?_
          rw [hst.old c (hI.at_.names.bounds j hj c hc).2]
          exact hI.names j hj hDj c hc
        · have hbl : BL rl ρE i c := by
            obtain ⟨d, hd'⟩ := Option.isSome_iff_exists.1 (hmd hm)
            exact ⟨r, d, mk c, hr, hm, hd', hd d hd', hblk c⟩
          have hn := hI.names i hid h0 c hbl
          have hqm := made_sound hstep.rel hra s1 hm (hev σ)
          obtain ⟨x', mk', e1, e2, _, e4, hmakes⟩ := hqm
          have ex : x' = x := by
            have h := congrArg (fun τ : AH => τ.get σ.nx) e2
            simp only [AH.get_new, if_true] at h
            exact (Option.some.inj h).symm
          subst ex
          have emk : mk' c = mk c := by
            rw [e4 σ.nx c, hre σ.nx c]
            simp only [Out.val.injEq] at e1
            rw [e1]
          obtain ⟨w', v', p, hdo, ⟨hrel, hfr⟩, hrv⟩ := hmakes.step hstep.rel hcx hn
          have hwp : wpOp P ops (Fin nt μ0 σ0 w0 .norm ρE σE) i (wpAny P .any ops (Fin nt μ0 σ0 w0 .norm ρE σE) fuel (listed.setIfInBounds i true)) a w := by
            have hwant := wants_spec hra s2 hw
            unfold wpOp
            simp only [ho, hwant, if_true]
            refine .inl (hdo.wp ?_)
            rw [emk] at hrv
            refine go (mk c) (μ.up c p) w' v' hd ⟨Mu.le_trans hstep.le (Mu.le_up hn), hrel, hstep.fr.trans hfr, fun b hb => ?_⟩ (hra.mono (Mu.le_up hn)) hrv ?_
            · have := (hI.at_.names.bounds i hid c hbl).1
              unfold Mu.up
              rw [if_neg (by rintro rfl; omega)]
              exact hstep.old b hb
            · intro j hj hji hDj d hdj
              unfold Mu.up
              rw [if_neg (by rintro rfl; exact hji (hI.at_.names.inj j hj i hid d hdj hbl))]
              exact hI.names j hj hDj d hdj
          exact hwp
    · -- the effect
      have hnext := hI.at_.next
      cases eff with
      | none =>
        obtain ⟨_, _, hall⟩ := hnext
        exact absurd (hall i (by omega)) hid
      | some e =>
        obtain ⟨hE, hplan, hone⟩ := hnext
        obtain ⟨r, hr, hne, hu, hpe, _, hmf⟩ := okEff_out hE
        by_cases hie : i = e
        · subst hie
          obtain ⟨o, ho, hco⟩ := hops i r hr
          obtain ⟨s1, s2, s3, s4⟩ := cOper_spec hco
          obtain ⟨r', b, v, σ', hr', hw, hfa, htr, hk⟩ := evOne_inv hone
          have er : r' = r := by rw [hr] at hr'; exact (Option.some.inj hr').symm
          subst er
          have ha := agree hnd htab hval hI.at_.mix hu
          have hd : DstIs ρE r' v := by
            intro p hp
            rw [keep_plan hk hplan p ?_, hp, eput_eq]
            intro j hj
            have h1 := hj.idx hnd
            rw [Wr.idx hnd ⟨r', hr, hp⟩] at h1
            have : i = j := by simpa using h1
            simp [this]
          have hnobl : ∀ c, ¬ BL rl ρE i c := by
            rintro c ⟨s, d, u, e1, e2, _⟩
            rw [hr] at e1
            cases e1
            rw [hmf] at e2
            cases e2
          have go : ∀ (μ' : Mu) (w' : World) (v' : Value), Step μ σ w μ' σ' w' → RV μ' v v' →
              wpAny P .any ops (Fin nt μ0 σ0 w0 .norm ρE σE) fuel (listed.setIfInBounds i true) (a.put o.dst v') w' := by
            intro μ' w' v' hst hrv
            have hN : Names rl ρE σ0.nx.nat (i :: dn) σ' := by
              refine ⟨fun j hj c hc => ?_, fun j hj k hk c h1 h2 => ?_⟩
              · rcases List.mem_cons.1 hj with rfl | hj
                · exact absurd hc (hnobl c)
                · have := hI.at_.names.bounds j hj c hc; have := hst.fr.nx; omega
              · rcases List.mem_cons.1 hj with e1 | g1 <;> rcases List.mem_cons.1 hk with e2 | g2
                · exact e1.trans e2.symm
                · rw [e1] at h1; exact absurd h1 (hnobl c)
                · rw [e2] at h2; exact absurd h2 (hnobl c)
                · exact hI.at_.names.inj j g1 k g2 c h1 h2
            obtain ⟨eff', l', dn', ρ', σ'', hB, hext, hsub, hnew⟩ := adv hnd htab (D := Dl (listed.setIfInBounds i true)) hplan hk (hI.at_.mix.putL hnd hr hd) hst.rel.fresh
              (Nat.le_trans hstep.fr.nx hst.fr.nx) hN
              (fun j hj hDj => by
                rw [hset] at hDj
                simp only [Bool.or_eq_false_iff, beq_eq_false_iff_ne] at hDj
                rcases List.mem_cons.1 hj with e1 | g1
                · exact absurd e1 hDj.1
                · exact ⟨σ, hI.at_.qf j g1 hDj.2⟩)
              ⟨hpe, hI.at_.ord⟩ (fun e he => by cases he; rw [hset]; simp) hdown
            refine ih _ eff' l' (some i) dn' ρ' σ'' _ w' μ' ⟨by simpa using hI.size, hdown, ?_, ?_, hB, ?_, (hstep.trans hst).ext hext, ?_⟩ hcnt'
            · intro j hj
              rw [hset] at hj
              simp only [Bool.or_eq_true, beq_iff_eq] at hj
              rcases hj with rfl | hj
              · exact hsub j (by simp)
              · exact hsub j (List.mem_cons_of_mem _ (hI.sub j hj))
            · intro j hj
              by_cases hjd : Dl (listed.setIfInBounds i true) j = false
              · obtain ⟨s, hs, _⟩ := hB.qf j hj hjd
                obtain ⟨o', ho', _⟩ := hops j s hs
                exact (Array.getElem?_eq_some_iff.1 ho').1
              · have hjd : Dl (listed.setIfInBounds i true) j = true := by simpa using hjd
                unfold Dl at hjd
                rcases Nat.lt_or_ge j ops.size with h | h
                · exact h
                · have : (listed.setIfInBounds i true).size ≤ j := by simp [hI.size]; omega
                  rw [Array.getD, dif_neg (by omega)] at hjd
                  cases hjd
            · refine ⟨eput ρm r'.dst v, ?_, ?_⟩
              · rw [hset]; exact hmix.put hnd hr hd
              · rw [s3]; exact (hra.mono hst.le).putD s4 hrv
            · intro j hj hDj c hc
              rw [hset] at hDj
              simp only [Bool.or_eq_false_iff, beq_eq_false_iff_ne] at hDj
              by_cases hjd : j ∈ dn
              · rw [hst.old c (hI.at_.names.bounds j hjd c hc).2]
                exact hI.names j hjd hDj.2 c hc
              · have hge := hnew j hj (by simp [hDj.1, hjd]) c hc
                cases hμ : μ' c with
                | none => rfl
                | some p => have := (hst.rel.dom c p hμ).1; omega
          cases b with
          | false =>
            obtain ⟨rfl, rfl⟩ := hfa rfl
            refine oper_sound (out := .val unA) (σ' := σ') hC hD hstep.rel hra ho hco (by rw [uses_wants ha]; exact hw) (fun h => by cases h) ?_ (fun h => by cases h) (fun h => by cases h)
            intro _
            exact go μ w undef (Step.refl hstep.rel) (RV_unA μ)
          | true =>
            refine oper_sound hC hD hstep.rel hra ho hco (by rw [uses_wants ha]; exact hw) (fun _ => by rw [uses_evOp ha]; exact htr rfl) (fun h => by cases h) ?_ (fun _ v e => by cases e)
            intro _ v1 e1 μ' w' v' hst hrv
            cases e1
            exact go μ' w' v' hst hrv
        · exfalso
          have hlead := future htab hplan i (by omega) (by simp [hie, hid])
          have := lead_in hI.down hp (fun h => hie h.symm) hlead
          exact hne (hI.sub e this)

theorem drawn_sound (hC : CallOK P call) (hD : DispOK P ms tbl) (hmo : P.follows .mixedOrders = true) {plan : List Stage} {id : Nat}
    (hc : cOpers P ms ops nt ops.toList = some rl) (hok : planOk ops rl plan = true) (hev : evPlan tbl call rl plan ρ σ = some (.norm, ρ', σ')) (hR : Rel μ σ w) (hA : RA μ nt ρ a) :
    (Code.region id ops true).wp P (Fin nt μ σ w .norm ρ' σ') a w := by
  refine wp_region_any hmo ?_
  simp only [planOk, Bool.and_eq_true] at hok
  obtain ⟨hnd, hplan⟩ := hok
  have htab := reachTab_ok (pl := ops.toList.map predsOf) (ops.toList.map predsOf) [] [] rfl rfl (by intro i j hj; simp at hj)
  have hst : Step μ σ w μ σ { w with drawn := w.drawn + 1 } := Step.draw hR _
  have hD0 : ∀ i, Dl (Array.replicate ops.size false) i = false := by
    intro i
    unfold Dl
    rcases Nat.lt_or_ge i ops.size with h | h <;> simp [Array.getD, h]
  have hdown : Down (ops.toList.map predsOf) (Dl (Array.replicate ops.size false)) := by
    intro i hi
    rw [hD0] at hi
    cases hi
  have hmix : ∀ ρE, Mix rl ρ ρE (fun j => memN j []) ρ := fun ρE p => ⟨fun j hj => by simp [memN], fun _ => rfl⟩
  obtain ⟨eff, l, dn', ρ1, σ1, hB, hext, _, hnew⟩ := adv (ρ0 := ρ) (D := Dl (Array.replicate ops.size false)) (base := σ.nx.nat) hnd htab hplan hev (hmix ρ') hR.fresh (Nat.le_refl _)
    ⟨by simp, by simp⟩ (by simp) trivial (by simp) hdown
  refine any_sound hC hD hc hnd htab rfl ops.size _ eff l none dn' ρ1 σ1 a _ μ ⟨by simp, hdown, ?_, ?_, hB, ⟨ρ, ?_, hA⟩, hst.ext hext, ?_⟩ ?_
  · intro i hi; rw [hD0] at hi; cases hi
  · intro j hj
    obtain ⟨s, hs, _⟩ := hB.qf j hj (hD0 j)
    obtain ⟨o', ho', _⟩ := (cOpers_get hc).2 j s hs
    have := (List.getElem?_eq_some_iff.1 ho').1
    simpa using this
  · intro p
    exact ⟨fun j hj => by rw [hD0]; simp, fun _ => rfl⟩
  · intro j hj _ c hcj
    have hge := hnew j hj (by simp) c hcj
    cases hμ : μ c with
    | none => rfl
    | some p => have := (hR.dom c p hμ).1; omega
  · refine Nat.le_trans (List.length_filter_le _ _) (by simp)

end
end Go.Proofs.YtgaoddafkjdecaaGreat.EV
