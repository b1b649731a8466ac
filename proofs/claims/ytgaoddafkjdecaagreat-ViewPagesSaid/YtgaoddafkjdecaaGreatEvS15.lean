/-
  EV, part S15: every operation; calls. Own work of this claim.
-/
import Derived.Test.YtgaoddafkjdecaaGreatEvS14
set_option linter.unusedVariables false
set_option linter.unusedSimpArgs false
namespace Go.Proofs.YtgaoddafkjdecaaGreat.EV

/-- how a call ends -/
def RelOut (μ : Mu) : Out → Ending → Prop
  | .val v, e => ∃ v', e = .returned v' ∧ RV μ v v'
  | .pan v, e => ∃ v', e = .panicked [{ v := v', recovered := false }] ∧ RV μ v v'

/-- a function that can be entered -/
def Ent (P : Program) (f : FuncId) : Prop := ∃ fn, P.funcs[f]? = some fn ∧ fn.body.isSome = true ∧ (fn.name == "runtime.NumGoroutine") = false

def CallOK (P : Program) (call : Call) : Prop :=
  ∀ (f : FuncId) (args : List AV) (σ : AH) (out : Out) (σ' : AH), call (tp f) args σ = some (out, σ') → Ent P f ∧
    ∀ (μ : Mu) (w : World) (cargs : Array Value), Rel μ σ w → RVs μ args cargs.toList →
      Calls P f cargs w fun e w' => ∃ μ', Step μ σ w μ' σ' w' ∧ RelOut μ' out e

/-- the methods that the table tells are those of the program's types -/
def DispOK (P : Program) (ms : List String) (tbl : Disp) : Prop :=
  ∀ (t m : Nat) (name : String) (p : Pos), tbl t m = some p → ms[m]? = some name → ∃ f, p = tp f ∧
    ∀ (v : Value) (w : World), (method (P.types.size + Made.depth) t v name).run P w = .ok (f, v) w

def AOp.calls : AOp → Bool
  | .callF _ _ | .callV _ _ | .callI _ _ _ | .panic _ => true
  | _ => false

section
variable {P : Program} {ms : List String} {w : World} {μ : Mu} {σ σ' : AH} {nt : Nat} {ρ : Env} {a : Act} {o : Oper} {out : Out} {tbl : Disp} {call : Call}

theorem arr2 {α : Type} {x : Array α} {p q : α} (h : x.toList = [p, q]) : x = #[p, q] := Array.ext' h
theorem arr1 {α : Type} {x : Array α} {p : α} (h : x.toList = [p]) : x = #[p] := Array.ext' h
theorem arr0 {α : Type} {x : Array α} {p : α} {l : List α} (h : x.toList = p :: l) : x[0]? = some p := by rw [← Array.getElem?_toList, h]; rfl

theorem sliceElem_spec {t e : TypeId} (h : sliceElem P t = some e) : P.underlying t = some (.slice e) := by
  unfold sliceElem at h
  split at h
  · rename_i e' he; cases h; exact he
  · cases h

theorem callee_sound (hR : Rel μ σ w) (hA : RA μ nt ρ a) {c : _root_.Go.Call} (hop : o.op = .call c) {b : Builtin} (hb : c.callee = .builtin b) {aop : AOp} (hc : cCall P ms c = some aop)
    (hev : evOp tbl call ρ σ aop = some (out, σ')) : Quiet P o a μ σ w out σ' := by
  unfold cCall at hc
  rw [hb] at hc
  simp only at hc
  split at hc
  · -- append
    rename_i x y s t hargs htys
    split at hc
    · rename_i x' y' e hx hy he
      split at hc
      · rename_i sz bytes k hsz hbt ht
        split at hc
        · rename_i z hz
          cases hc
          exact q_appendZ hR hA hop hb (arr2 hargs) (arr2 htys) hx hy (sliceElem_spec he) ht hsz hbt hz hev
        · cases hc
      · rename_i sz bytes d hd hsz hbt ht
        split at hc
        · rename_i z hz
          simp only [cond_eq_ite] at hc
          split at hc
          · cases hc
            exact q_append hR hA hop hb (arr2 hargs) (arr2 htys) hx hy (sliceElem_spec he) ht (fun k e => hd k e) hsz hbt hz hev
          · cases hc
        · cases hc
      · cases hc
    · cases hc
  · -- copy
    rename_i x y s l hargs htys
    split at hc
    · rename_i x' y' e hx hy he
      split at hc
      · rename_i sz hsz
        cases hc
        exact q_copy hR hA hop hb (arr2 hargs) (arr0 htys) hx hy (sliceElem_spec he) hsz hev
      · cases hc
    · cases hc
  · -- clear
    rename_i x s l hargs htys
    split at hc
    · rename_i x' e hx he
      split at hc
      · rename_i sz z hsz hz
        cases hc
        exact q_clear hR hA hop hb (arr1 hargs) (arr0 htys) hx (sliceElem_spec he) hz hev
      · cases hc
    · cases hc
  · -- len
    rename_i x s l hargs htys
    split at hc
    · rename_i x' hx hs
      cases hc
      exact q_len hR hA hop hb (arr1 hargs) (arr0 htys) hx hs (.inl ⟨rfl, rfl⟩) hev
    · rename_i x' e hx hs
      cases hc
      exact q_len hR hA hop hb (arr1 hargs) (arr0 htys) hx hs (.inr (.inl ⟨rfl, _, rfl⟩)) hev
    · rename_i x' e f hx hs
      cases hc
      exact q_len hR hA hop hb (arr1 hargs) (arr0 htys) hx hs (.inr (.inr ⟨rfl, _, _, rfl⟩)) hev
    · rename_i x' n e hx hs
      cases hc
      refine Quiet.same (v' := .int .i64 n) hR (val_inv hev) (by simp [AO.ev, RV]) (builtin1 hop hb (arr1 hargs) (f := Builtin.len_) (fun _ _ _ _ => rfl) ?_)
      unfold Builtin.len_
      simp only [arr0 htys, List.getElem?_toArray, List.getElem?_cons_zero, Sem.run_bind, run_underlying hs, Result.andThen_ok, goInt]
      rfl
    · cases hc
  · -- cap
    rename_i x s l hargs htys
    split at hc
    · rename_i x' e hx hs
      cases hc
      exact q_cap hR hA hop hb (arr1 hargs) (arr0 htys) hx hs hev
    · cases hc
  · -- min
    rename_i x y l hargs
    split at hc
    · rename_i x' y' hx hy
      cases hc
      exact q_min hR hA hop hb (arr2 hargs) hx hy hev
    · cases hc
  · -- max
    rename_i x y l hargs
    split at hc
    · rename_i x' y' hx hy
      cases hc
      exact q_max hR hA hop hb (arr2 hargs) hx hy hev
    · cases hc
  · -- delete
    rename_i m k s l hargs htys
    split at hc
    · rename_i m' k' kt e hm hk hs
      split at hc
      · rename_i str ik hkk
        cases hc
        exact q_delete hR hA hop hb (arr2 hargs) (arr0 htys) hm hk hs hkk hev
      · cases hc
    · cases hc
  · cases hc

theorem isAgg_inv {t : TypeId} {b : Bool} (h : isAggT P t = some b) : ∃ d, P.underlying t = some d := by
  unfold isAggT at h
  cases hu : P.underlying t with
  | none => rw [hu] at h; cases h
  | some d => exact ⟨d, rfl⟩

theorem quiet_sound (hR : Rel μ σ w) (hA : RA μ nt ρ a) {aop : AOp} (hc : cOp P ms o.op = some aop) (hq : aop.calls = false)
    (hev : evOp tbl call ρ σ aop = some (out, σ')) : Quiet P o a μ σ w out σ' := by
  cases hop : o.op <;> rw [hop] at hc <;> simp only [cOp, reduceCtorEq] at hc
  case move x =>
    split at hc
    · rename_i y hy; cases hc; exact q_move hR hA (.inl hop) hy hev
    · cases hc
  case assign x =>
    split at hc
    · rename_i y hy; cases hc; exact q_move hR hA (.inr hop) hy hev
    · cases hc
  case pick c x y =>
    split at hc
    · rename_i c' x' y' h1 h2 h3; cases hc; exact q_pick hR hA hop h1 h2 h3 hev
    · cases hc
  case alloc e =>
    split at hc
    · rename_i z hz; cases hc; exact (q_alloc hR hop hz hev).quiet hR
    · cases hc
  case box e x =>
    split at hc
    · rename_i n y hn hy; cases hc; exact (q_box hR hA hop hy hev).quiet hR
    · cases hc
  case build t ps =>
    split at hc
    · rename_i fs z ht hz
      split at hc
      · rename_i l hl
        simp only [cond_eq_ite] at hc
        split at hc
        · rename_i hall; cases hc; exact q_build_struct hR hA hop ht hz hall hl hev
        · cases hc
      · cases hc
    · rename_i n e z ht hz
      split at hc
      · rename_i sz hs
        split at hc
        · rename_i l hl; cases hc; exact q_build_array hR hA hop ht hz hs hl hev
        · cases hc
      · cases hc
    · cases hc
  case buildSlice t len ps =>
    split at hc
    · rename_i e he
      split at hc
      · rename_i sz z hs hz
        split at hc
        · rename_i l hl
          simp only [cond_eq_ite] at hc
          split at hc
          · rename_i hle; cases hc; exact (q_bslice hR hA hop (sliceElem_spec he) hz hs (Nat.le_of_ble_eq_true hle) hl hev).quiet hR
          · cases hc
        · cases hc
      · cases hc
    · cases hc
  case load t x =>
    split at hc
    · rename_i n y hg hn hy; cases hc; exact q_loadN hR hA hop hy hg hn hev
    · rename_i n y hg hn hy; cases hc; exact q_load1 hR hA hop hy hg hev
    · cases hc
  case store t x y =>
    split at hc
    · rename_i n x' y' hn hx hy; cases hc; exact q_store hR hA hop hx hy hn hev
    · cases hc
  case nilCheck x =>
    split at hc
    · rename_i y hy; cases hc; exact q_nilck hR hA hop hy hev
    · cases hc
  case binOp op t x y t' =>
    split at hc
    · rename_i x' y' hx hy
      split at hc
      iterate 6 (cases hc; exact q_bin hR hA hop hx hy hev)
      · split at hc
        · rename_i k hk; cases hc; exact q_eq hR hA (neg := false) (by simpa using hop) hk hx hy hev
        · cases hc
      · split at hc
        · rename_i k hk; cases hc; exact q_eq hR hA (neg := true) (by simpa using hop) hk hx hy hev
        · cases hc
      · cases hc; exact q_bin hR hA hop hx hy hev
    · cases hc
  case unOp op t x =>
    split at hc
    · rename_i y hy; cases hc; exact q_un hR hA hop hy hev
    · cases hc
  case convert s d x =>
    split at hc
    · rename_i y hy
      split at hc
      · rename_i k k' hs hd; cases hc; exact q_cvII hR hA hop hy hs hd hev
      · rename_i k hs hd; cases hc; exact q_cvIF hR hA hop hy hs hd hev
      · rename_i e hs hd
        split at hc
        · rename_i he; cases hc; exact (q_cvSB hR hA hop hy hs hd he hev).quiet hR
        · cases hc
      · rename_i e hs hd
        split at hc
        · rename_i he; cases hc; exact q_cvBS hR hA hop hy hs hd he hev
        · cases hc
      · rename_i e' e hs hd
        split at hc
        · rename_i he
          simp only [cond_eq_ite] at hc
          split at hc
          · rename_i hsd
            have := eq_of_beq hsd
            subst this
            cases hc
            exact q_cvBB hR hA hop hy hd he hev
          · cases hc
        · cases hc
      · rename_i hs hd; cases hc; exact q_cvSS hR hA hop hy hs hd hev
      · cases hc
    · cases hc
  case makeInterface t x =>
    split at hc
    · cases hc
    · rename_i y d hd hy hu; cases hc; exact q_mkI hR hA hop hy hu (fun m e => hd m e) hev
    · cases hc
  case makeFunc fn fs cs =>
    cases fn <;> simp only [reduceCtorEq] at hc
    split at hc
    · rename_i a' b' h1 h2; cases hc; exact q_mkF hR hA hop h1 h2 hev
    · cases hc
  case makeMap t r =>
    cases r <;> simp only [reduceCtorEq, Option.some.injEq] at hc
    subst hc
    exact (q_mkMap hR hop hev).quiet hR
  case makeSlice t l c =>
    split at hc
    · rename_i e he
      split at hc
      · rename_i sz bytes z l' c' h1 h2 h3 h4 h5; cases hc; exact (q_mkSlice hR hA hop h4 h5 (sliceElem_spec he) h1 h2 h3 hev).quiet hR
      · cases hc
    · cases hc
  case slice t x lo hi mx =>
    split at hc
    · rename_i x' lo' hi' mx' hx hlo hhi hmx
      simp only [cond_eq_ite] at hc
      split at hc
      · cases hc
      · rename_i hsome
        have hsome : (mx'.isSome && hi'.isNone) = false := Bool.eq_false_iff.2 hsome
        split at hc
        · rename_i ht; cases hc; exact q_slice_str hR hA hop hx hlo hhi hmx ht hev
        · rename_i e ht
          split at hc
          · rename_i sz hs; cases hc; exact q_slice_slc hR hA hop hx hlo hhi hmx hsome ht hs hev
          · cases hc
        · rename_i n e ht
          split at hc
          · rename_i sz hs; cases hc; exact q_slice_arr hR hA hop hx hlo hhi hmx hsome ht hs hev
          · cases hc
        · cases hc
    · cases hc
  case fieldAddr s x i =>
    split at hc
    · rename_i fs y hs hy
      split at hc
      · rename_i fd hf
        split at hc
        · rename_i n hn; cases hc; exact q_fieldA hR hA hop hy hs hf hn hev
        · cases hc
      · cases hc
    · cases hc
  case field s x i =>
    split at hc
    · rename_i fs y hs hy
      split at hc
      · rename_i fd hf
        split at hc
        · rename_i n g hn hg; cases hc; exact q_fieldV hR hA hop hy hs hf hn hg hev
        · cases hc
      · cases hc
    · cases hc
  case indexAddr t x i =>
    split at hc
    · rename_i n e x' i' ht hx hi
      split at hc
      · rename_i sz hs; cases hc; exact q_idxA_arr hR hA hop hx hi ht hs hev
      · cases hc
    · rename_i e x' i' ht hx hi
      split at hc
      · rename_i sz hs; cases hc; exact q_idxA_slc hR hA hop hx hi ht hs hev
      · cases hc
    · cases hc
  case index t x i =>
    split at hc
    · rename_i n e x' i' ht hx hi
      split at hc
      · rename_i sz g hs hg; cases hc; exact q_idxV_arr hR hA hop hx hi ht hs hg hev
      · cases hc
    · rename_i x' i' ht hx hi; cases hc; exact q_idxV_str hR hA hop hx hi ht hev
    · cases hc
  case lookup t x i ok =>
    split at hc
    · rename_i kt e x' i' ht hx hi
      split at hc
      · rename_i str ik inf hk he
        split at hc
        · rename_i zv hzv
          split at hc
          · rename_i z hz; cases hc; exact q_lookup hR hA hop hx hi ht hk he hzv hz hev
          · cases hc
        · cases hc
      · cases hc
    · cases hc
  case mapUpdate t m k v =>
    split at hc
    · rename_i kt e m' k' v' ht hm hk' hv
      split at hc
      · rename_i str ik hk; cases hc; exact q_mapUpd hR hA hop hm hk' hv ht hk hev
      · cases hc
    · cases hc
  case extract t i =>
    split at hc
    · rename_i y hy; cases hc; exact q_extract hR hA hop hy hev
    · cases hc
  case panic x =>
    split at hc
    · cases hc; simp [AOp.calls] at hq
    · cases hc
  case call c =>
    cases hcal : c.callee with
    | builtin b => exact callee_sound hR hA hop hcal hc hev
    | invoke r m =>
      unfold cCall at hc
      rw [hcal] at hc
      simp only at hc
      split at hc
      · split at hc
        · cases hc; simp [AOp.calls] at hq
        · cases hc
      · cases hc
    | value f =>
      unfold cCall at hc
      rw [hcal] at hc
      cases f <;> simp only [reduceCtorEq] at hc
      case tmp t =>
        split at hc
        · cases hc; simp [AOp.calls] at hq
        · cases hc
      case func f =>
        split at hc
        · rename_i fn l hf hl
          simp only [cond_eq_ite] at hc
          split at hc
          · split at hc
            · cases hc
            · cases hc; simp [AOp.calls] at hq
          · rename_i hbody
            have hbody : fn.body.isNone = true := by simpa using hbody
            split at hc
            · rename_i x'
              split at hc
              · rename_i hnext
                have hnext : Extern.findNext fn = none := Option.isNone_iff_eq_none.1 hnext
                have hargs : ∃ x, c.args = #[x] ∧ cOpd x = some x' := by
                  generalize hal : c.args.toList = al at hl
                  cases al with
                  | nil => simp [cOpds] at hl
                  | cons x r =>
                    simp only [cOpds] at hl
                    split at hl
                    · rename_i y t h1 h2
                      simp only [Option.some.injEq, List.cons.injEq] at hl
                      obtain ⟨rfl, rfl⟩ := hl
                      cases r with
                      | nil => exact ⟨x, arr1 hal, h1⟩
                      | cons x2 r2 =>
                        simp only [cOpds] at h2
                        split at h2 <;> cases h2
                    · cases hl
                obtain ⟨x, hargs, hx⟩ := hargs
                split at hc
                · rename_i hn; cases hc; exact q_fbits hR hA hop hcal hargs hf hbody hnext (eq_of_beq hn) hx hev
                · split at hc
                  · rename_i hn; cases hc; exact q_ffrom hR hA hop hcal hargs hf hbody hnext (eq_of_beq hn) hx hev
                  · cases hc
              · cases hc
            · cases hc
        · cases hc

theorem idxOf_get : ∀ {l : List String} {m : String} {i : Nat}, l.idxOf? m = some i → l[i]? = some m
  | [], m, i, h => by simp at h
  | x :: l, m, i, h => by
    rw [List.idxOf?_cons] at h
    split at h
    · rename_i hx
      cases h
      have := eq_of_beq hx
      simp [this]
    · cases hl : l.idxOf? m with
      | none => rw [hl] at h; cases h
      | some j =>
        rw [hl] at h
        simp at h
        subst h
        simpa using idxOf_get hl

/-! ### Calls -/

theorem enter_run {f : FuncId} (h : Ent P f) (args : Array Value) : (callFunc f args).run P w = .ok (.enter f args) w := by
  obtain ⟨fn, hf, hb, hn⟩ := h
  have h1 : fn.name ≠ "runtime.NumGoroutine" := by simpa using hn
  have h2 : fn.body.isNone = false := by cases hx : fn.body <;> simp_all
  simp [callFunc, hf, h1]
  intro h
  simp [h] at hb

theorem tail_args (x : Value) (l : Array Value) : (#[x] ++ l).extract 1 (#[x] ++ l).size = l := by
  apply Array.ext
  · simp
  · intro i h1 h2
    rw [Array.getElem_extract, Array.getElem_append_right (by simp)]
    simp

/-- any operation -/
theorem op_sound (hC : CallOK P call) (hD : DispOK P ms tbl) (hR : Rel μ σ w) (hA : RA μ nt ρ a) {aop : AOp} (hc : cOp P ms o.op = some aop)
    (hev : evOp tbl call ρ σ aop = some (out, σ')) {K : Act → World → Prop} {Q : Exit → Act → World → Prop}
    (hK : ∀ v, out = .val v → ∀ μ' w' v', Step μ σ w μ' σ' w' → RV μ' v v' → K (a.put o.dst v') w')
    (hQ : ∀ v, out = .pan v → ∀ μ' w' v', Step μ σ w μ' σ' w' → RV μ' v v' → Q (.panic [{ v := v', recovered := false }]) a w') : o.wp P a w K Q := by
  cases hq : aop.calls with
  | false =>
    obtain ⟨v, μ', w', v', rfl, hst, hrv, hdo⟩ := quiet_sound hR hA hc hq hev
    exact hdo.wp (hK v rfl μ' w' v' hst hrv)
  | true =>
    have entered : ∀ {f : FuncId} {args : List AV} {cargs : Array Value}, call (tp f) args σ = some (out, σ') → RVs μ args cargs.toList →
        (execOp a.eval o).run P w = (callFunc f cargs).run P w → o.wp P a w K Q := by
      intro f args cargs hcall hr hrun
      obtain ⟨hent, hcl⟩ := hC f args σ out σ' hcall
      unfold Oper.wp
      rw [hrun, enter_run hent]
      refine (hcl μ w cargs hR hr).mono ?_
      rintro e w' ⟨μ', hst, ho⟩
      cases out with
      | val v => obtain ⟨v', rfl, hv⟩ := ho; exact hK v rfl μ' w' v' hst hv
      | pan v => obtain ⟨v', rfl, hv⟩ := ho; exact hQ v rfl μ' w' v' hst hv
    cases hop : o.op <;> rw [hop] at hc <;> simp only [cOp, reduceCtorEq] at hc
    case panic x =>
      split at hc
      · rename_i y hy
        cases hc
        have ry := opd_RV hA hy
        simp only [evOp] at hev
        split at hev
        · rename_i t v hv
          simp only [Option.some.injEq, Prod.mk.injEq] at hev
          obtain ⟨rfl, rfl⟩ := hev
          rw [hv] at ry
          have ry' := ry
          simp only [RV] at ry'
          obtain ⟨z, ez, _⟩ := ry'
          have hrun : (execOp a.eval o).run P w = .halt (.panic (a.eval x)) w := by
            simp only [execOp, hop, Instr.panic, ez]
            rfl
          unfold Oper.wp
          rw [hrun]
          exact hQ _ rfl μ w _ (Step.refl hR) ry
        · cases hev
      · cases hc
    case call c =>
      cases hcal : c.callee with
      | builtin b =>
        exfalso
        unfold cCall at hc
        rw [hcal] at hc
        simp only at hc
        split at hc <;> (repeat' split at hc) <;> first
          | (cases hc; done)
          | (simp only [cond_eq_ite] at hc; split at hc <;> cases hc; simp [AOp.calls] at hq; done)
          | (cases hc; simp [AOp.calls] at hq; done)
      | invoke r m =>
        unfold cCall at hc
        rw [hcal] at hc
        simp only at hc
        split at hc
        · rename_i r' l hr hl
          split at hc
          · rename_i i hi
            cases hc
            have rr := opd_RV hA hr
            simp only [evOp] at hev
            split at hev
            · rename_i t v hv
              rw [hv] at rr
              simp only [RV] at rr
              obtain ⟨z, ez, rz⟩ := rr
              split at hev
              · rename_i p hp
                have hname : ms[i]? = some m := idxOf_get hi
                obtain ⟨f, rfl, hmeth⟩ := hD t i m p hp hname
                refine entered (f := f) (cargs := #[z] ++ c.args.map a.eval) hev ?_ ?_
                · simp only [Array.toList_append, Array.toList_map]
                  exact ⟨z, _, rfl, rz, opds_RVs hA hl⟩
                · simp only [execOp, hop, resolve, hcal, invoke, Sem.run_bind, Sem.run_pure, Result.andThen_ok]
                  have h0 : (#[a.eval r] ++ c.args.map a.eval)[0]? = some (Value.iface t z) := by
                    rw [← Array.getElem?_toList, Array.toList_append, ez]
                    rfl
                  have h1 : (#[a.eval r] ++ c.args.map a.eval).extract 1 (#[a.eval r] ++ c.args.map a.eval).size = c.args.map a.eval := tail_args _ _
                  rw [h0, h1]
                  simp only [callMethod, Sem.run_bind, run_program, Result.andThen_ok, hmeth]
              · cases hev
            · cases hev
          · cases hc
        · cases hc
      | value f =>
        unfold cCall at hc
        rw [hcal] at hc
        cases f <;> simp only [reduceCtorEq] at hc
        case tmp t =>
          split at hc
          · rename_i l hl
            cases hc
            have rx := opd_RV hA (x := .tmp t) (y := .tmp (tp t)) rfl
            simp only [evOp] at hev
            split at hev
            · rename_i f fs cs hf
              rw [hf] at rx
              simp only [RV] at rx
              obtain ⟨n, va, vc, rfl, ex, r1, r2⟩ := rx
              refine entered (f := n) (cargs := va ++ c.args.map a.eval ++ vc) hev ?_ ?_
              · simp only [Array.toList_append, Array.toList_map]
                exact (r1.append (opds_RVs hA hl)).append r2
              · simp only [execOp, hop, resolve, hcal, ex, Deferred.ofValue, invoke, Sem.run_bind, Sem.run_pure, Result.andThen_ok]
            · cases hev
          · cases hc
        case func f =>
          split at hc
          · rename_i fn l hf hl
            simp only [cond_eq_ite] at hc
            split at hc
            · split at hc
              · cases hc
              · cases hc
                simp only [evOp] at hev
                refine entered (f := f) (cargs := c.args.map a.eval) hev ?_ (exec_callF hop hcal)
                simp only [Array.toList_map]
                exact opds_RVs hA hl
            · split at hc
              · split at hc
                · split at hc
                  · cases hc; simp [AOp.calls] at hq
                  · split at hc
                    · cases hc; simp [AOp.calls] at hq
                    · cases hc
                · cases hc
              · cases hc
          · cases hc
    case makeFunc fn fs cs =>
      cases fn <;> simp only [reduceCtorEq] at hc
      split at hc
      · cases hc; simp [AOp.calls] at hq
      · cases hc
    case makeMap t r =>
      cases r <;> simp only [reduceCtorEq, Option.some.injEq] at hc
      subst hc
      simp [AOp.calls] at hq
    all_goals
      exfalso
      (repeat' split at hc) <;> first
        | (cases hc; done)
        | (simp only [cond_eq_ite] at hc; (repeat' split at hc) <;> first | (cases hc; done) | (cases hc; simp [AOp.calls] at hq; done))
        | (cases hc; simp [AOp.calls] at hq; done)

end
end Go.Proofs.YtgaoddafkjdecaaGreat.EV
