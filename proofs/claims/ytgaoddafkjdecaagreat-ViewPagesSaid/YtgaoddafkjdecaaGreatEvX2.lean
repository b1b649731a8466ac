/-
  EV, part X2: rows of elements in a block; laws for going through compiled code by hand. Own work of this claim.
-/
import Derived.Test.YtgaoddafkjdecaaGreatEvX1
set_option linter.unusedVariables false
set_option linter.unusedSimpArgs false
namespace Go.Proofs.YtgaoddafkjdecaaGreat.EV

/-! ### Rows -/
section rows
variable {α : Type}

theorem rflat_len {es : List (List α)} {sz : Nat} (h : ∀ e ∈ es, e.length = sz) : es.flatten.length = es.length * sz := by
  induction es with
  | nil => simp
  | cons e es ih =>
    simp only [List.flatten_cons, List.length_append, List.length_cons]
    rw [h e (by simp), ih fun x hx => h x (by simp [hx]), Nat.succ_mul, Nat.add_comm]

theorem rflat_drop {es : List (List α)} {sz : Nat} (h : ∀ e ∈ es, e.length = sz) : ∀ i, es.flatten.drop (i * sz) = (es.drop i).flatten := by
  induction es with
  | nil => simp
  | cons e es ih =>
    intro i
    cases i with
    | zero => simp
    | succ i =>
      have he := h e (by simp)
      rw [List.flatten_cons, List.drop_append, List.drop_of_length_le (by rw [he, Nat.succ_mul]; omega), List.nil_append, he,
        show (i + 1) * sz - sz = i * sz by rw [Nat.succ_mul]; omega, ih (fun x hx => h x (by simp [hx]))]
      simp

theorem rflat_take {es : List (List α)} {sz : Nat} (h : ∀ e ∈ es, e.length = sz) : ∀ i, es.flatten.take (i * sz) = (es.take i).flatten := by
  induction es with
  | nil => simp
  | cons e es ih =>
    intro i
    cases i with
    | zero => simp
    | succ i =>
      have he := h e (by simp)
      rw [List.flatten_cons, List.take_append, List.take_of_length_le (by rw [he, Nat.succ_mul]; omega), he,
        show (i + 1) * sz - sz = i * sz by rw [Nat.succ_mul]; omega, ih (fun x hx => h x (by simp [hx]))]
      simp

def rows (pre : List α) (es : List (List α)) (post : List α) : List α := pre ++ (es.flatten ++ post)

theorem rows_len {pre post : List α} {es : List (List α)} {sz : Nat} (h : ∀ e ∈ es, e.length = sz) : (rows pre es post).length = pre.length + (es.length * sz + post.length) := by
  simp [rows, rflat_len h]

/-- m elements from element i on -/
theorem rows_take {pre post : List α} {es : List (List α)} {sz i m : Nat} (h : ∀ e ∈ es, e.length = sz) (hi : i + m ≤ es.length) :
    ltake (m * sz) (ldrop (pre.length + i * sz) (rows pre es post)) = some ((es.drop i).take m).flatten := by
  have h2 : ∀ e ∈ es.drop i, e.length = sz := fun e he => h e (List.mem_of_mem_drop he)
  have e1 : ldrop (pre.length + i * sz) (rows pre es post) = (es.drop i).flatten ++ post := by
    rw [ldrop_eq, rows, List.drop_append, List.drop_of_length_le (by omega), List.nil_append, show pre.length + i * sz - pre.length = i * sz by omega,
      List.drop_append, rflat_drop h, rflat_len h, show i * sz - es.length * sz = 0 by
        have := Nat.mul_le_mul_right sz (show i ≤ es.length by omega); omega]
    simp
  have hl : m * sz ≤ (es.drop i).flatten.length := by
    rw [rflat_len h2]; exact Nat.mul_le_mul_right _ (by simp; omega)
  rw [e1, ltake_eq, if_pos (by simp only [List.length_append]; omega), List.take_append_of_le_length hl, rflat_take h2]

theorem rows_one {pre post : List α} {es : List (List α)} {sz i : Nat} (h : ∀ e ∈ es, e.length = sz) {e : List α} (hi : es[i]? = some e) :
    ltake sz (ldrop (pre.length + i * sz) (rows pre es post)) = some e := by
  have hlt := (List.getElem?_eq_some_iff.1 hi).1
  have := rows_take (pre := pre) (post := post) (m := 1) h (show i + 1 ≤ es.length by omega)
  rw [Nat.one_mul] at this
  rw [this]
  have : (es.drop i).take 1 = [e] := by
    obtain ⟨hl, rfl⟩ := List.getElem?_eq_some_iff.1 hi
    rw [List.drop_eq_getElem_cons hl, List.take_succ_cons, List.take_zero]
  rw [this]; simp

theorem rows_put {pre post : List α} {es vs : List (List α)} {sz i : Nat} (h : ∀ e ∈ es, e.length = sz) (hv : ∀ e ∈ vs, e.length = sz) (hi : i + vs.length ≤ es.length) :
    lput (pre.length + i * sz) vs.flatten (rows pre es post) = some (rows pre (es.take i ++ vs ++ es.drop (i + vs.length)) post) := by
  have hm : i * sz + vs.length * sz ≤ es.length * sz := by rw [← Nat.add_mul]; exact Nat.mul_le_mul_right _ hi
  rw [lput_eq, if_pos (by rw [rows_len h, rflat_len hv]; omega)]
  congr 1
  rw [rflat_len hv]
  unfold rows
  rw [List.take_append, List.take_of_length_le (by omega), show pre.length + i * sz - pre.length = i * sz by omega, List.take_append_of_le_length (by rw [rflat_len h]; omega), rflat_take h,
    List.drop_append, List.drop_of_length_le (show pre.length ≤ pre.length + i * sz + vs.length * sz by omega), List.nil_append,
    show pre.length + i * sz + vs.length * sz - pre.length = (i + vs.length) * sz by rw [Nat.add_mul]; omega, List.drop_append, rflat_drop h, rflat_len h,
    show (i + vs.length) * sz - es.length * sz = 0 by rw [Nat.add_mul]; omega]
  simp [List.append_assoc]

theorem rows_set {pre post : List α} {es : List (List α)} {sz i : Nat} (h : ∀ e ∈ es, e.length = sz) {v : List α} (hv : v.length = sz) (hi : i < es.length) :
    lput (pre.length + i * sz) v (rows pre es post) = some (rows pre (es.set i v) post) := by
  have := rows_put (pre := pre) (post := post) (vs := [v]) (i := i) h (by simpa using hv) (by simp; omega)
  simp only [List.flatten_cons, List.flatten_nil, List.append_nil, List.length_singleton] at this
  rw [this, List.set_eq_take_append_cons_drop, if_pos hi]
  simp
end rows

/-! ### Compiled code, by hand -/
section
variable {tbl : Disp} {call : Call} {ρ : Env} {σ : AH} {rounds : Nat}

theorem evOps_nil : evOps tbl call [] ρ σ = some (.norm, ρ, σ) := rfl

/-- what an operation of a region does, and the going on -/
noncomputable def thenOp (tbl : Disp) (call : Call) (ρ : Env) (d : Option Pos) (l : List ROp) : Option (Out × AH) → Res
  | some (.val v, σ) => evOps tbl call l (eput ρ d v) σ
  | some (.pan v, σ) => some (.pan v, ρ, σ)
  | none => none

theorem thenOp_val (ρ : Env) (d : Option Pos) (l : List ROp) (v : AV) (σ : AH) : thenOp tbl call ρ d l (some (.val v, σ)) = evOps tbl call l (eput ρ d v) σ := rfl
theorem thenOp_pan (ρ : Env) (d : Option Pos) (l : List ROp) (v : AV) (σ : AH) : thenOp tbl call ρ d l (some (.pan v, σ)) = some (.pan v, ρ, σ) := rfl

theorem evOps_op (d : Option Pos) (op : AOp) (l : List ROp) : evOps tbl call (⟨d, op, none⟩ :: l) ρ σ = thenOp tbl call ρ d l (evOp tbl call ρ σ op) := by
  rw [evOps_cons]
  simp only [wants]
  cases evOp tbl call ρ σ op with
  | none => rfl
  | some x =>
    obtain ⟨o, τ⟩ := x
    cases o with
    | val v => simp only [setD_eq]; rfl
    | pan v => rfl

/-- a guarded operation -/
noncomputable def thenG (tbl : Disp) (call : Call) (ρ : Env) (σ : AH) (d : Option Pos) (op : AOp) (want : Bool) (l : List ROp) : AV → Res
  | .bool b => bif b == want then thenOp tbl call ρ d l (evOp tbl call ρ σ op) else evOps tbl call l (eput ρ d unA) σ
  | .tup [] => evOps tbl call l (eput ρ d unA) σ
  | _ => none
theorem thenG_tt (d : Option Pos) (op : AOp) (l : List ROp) : thenG tbl call ρ σ d op true l (.bool true) = thenOp tbl call ρ d l (evOp tbl call ρ σ op) := rfl
theorem thenG_ff (d : Option Pos) (op : AOp) (l : List ROp) : thenG tbl call ρ σ d op false l (.bool false) = thenOp tbl call ρ d l (evOp tbl call ρ σ op) := rfl
theorem thenG_tf (d : Option Pos) (op : AOp) (l : List ROp) : thenG tbl call ρ σ d op true l (.bool false) = evOps tbl call l (eput ρ d unA) σ := rfl
theorem thenG_ft (d : Option Pos) (op : AOp) (l : List ROp) : thenG tbl call ρ σ d op false l (.bool true) = evOps tbl call l (eput ρ d unA) σ := rfl
theorem thenG_un (d : Option Pos) (op : AOp) (want : Bool) (l : List ROp) : thenG tbl call ρ σ d op want l unA = evOps tbl call l (eput ρ d unA) σ := rfl
theorem evOps_guard (d : Option Pos) (op : AOp) (p : Pos) (want : Bool) (l : List ROp) :
    evOps tbl call (⟨d, op, some (p, want)⟩ :: l) ρ σ = thenG tbl call ρ σ d op want l (AO.ev ρ (.tmp p)) := by
  rw [evOps_cons]
  simp only [wants]
  generalize AO.ev ρ (.tmp p) = v
  unfold thenG
  split
  · rename_i h
    split at h
    · rename_i b
      simp only [Option.some.injEq] at h
      simp only [h, cond_true]
      cases evOp tbl call ρ σ op with
      | none => rfl
      | some x =>
        obtain ⟨o, τ⟩ := x
        cases o with
        | val v => simp only [setD_eq]; rfl
        | pan v => rfl
    · simp at h
    · cases h
  · rename_i h
    split at h
    · rename_i b
      simp only [Option.some.injEq] at h
      simp only [h, cond_false, setD_eq]
    · simp only [setD_eq]
    · cases h
  · rename_i h
    split at h
    · cases h
    · cases h
    · split <;> simp_all

@[simp] theorem eput_some (ρ : Env) (p : Pos) (v : AV) : eput ρ (some p) v = ρ.set (some v) p := rfl
@[simp] theorem eput_none (ρ : Env) (v : AV) : eput ρ none v = ρ := rfl

theorem evTmp (ρ : Env) (p : Pos) : AO.ev ρ (.tmp p) = (ρ.get p).getD unA := AO.ev_tmp ρ p
theorem evConst (ρ : Env) (v : AV) : AO.ev ρ (.const v) = v := rfl

theorem evCode_region (ops : List ROp) : evCode tbl call rounds (.region ops) ρ σ = evOps tbl call ops ρ σ := rfl
theorem evCode_drawn (ops : List ROp) (plan : List Stage) : evCode tbl call rounds (.drawn ops plan) ρ σ = evPlan tbl call ops plan ρ σ := rfl
theorem evCode_skip : evCode tbl call rounds .skip ρ σ = some (.norm, ρ, σ) := rfl
theorem evCode_ret : evCode tbl call rounds .ret ρ σ = some (.ret, ρ, σ) := rfl
theorem evCode_exit (i : Nat) : evCode tbl call rounds (.exit i) ρ σ = some (.exit i, ρ, σ) := rfl

/-- going on behind what ended as it should -/
noncomputable def thenC (tbl : Disp) (call : Call) (rounds : Nat) (c : ACode) : Res → Res
  | some (.norm, ρ, σ) => evCode tbl call rounds c ρ σ
  | r => r
theorem thenC_norm (c : ACode) (ρ : Env) (σ : AH) : thenC tbl call rounds c (some (.norm, ρ, σ)) = evCode tbl call rounds c ρ σ := rfl
theorem thenC_ret (c : ACode) (ρ : Env) (σ : AH) : thenC tbl call rounds c (some (.ret, ρ, σ)) = some (.ret, ρ, σ) := rfl
theorem thenC_exit (c : ACode) (i : Nat) (ρ : Env) (σ : AH) : thenC tbl call rounds c (some (.exit i, ρ, σ)) = some (.exit i, ρ, σ) := rfl
theorem thenC_pan (c : ACode) (v : AV) (ρ : Env) (σ : AH) : thenC tbl call rounds c (some (.pan v, ρ, σ)) = some (.pan v, ρ, σ) := rfl

theorem evCode_seq (a b : ACode) : evCode tbl call rounds (.seq a b) ρ σ = thenC tbl call rounds b (evCode tbl call rounds a ρ σ) := by
  simp only [evCode]
  split
  · rename_i h; rw [h]; rfl
  · rename_i h
    cases hr : evCode tbl call rounds a ρ σ with
    | none => rfl
    | some x =>
      obtain ⟨x, ρ1, σ1⟩ := x
      cases x with
      | norm => exact absurd hr (h _ _)
      | _ => rfl

/-- a branch -/
noncomputable def onBool (tbl : Disp) (call : Call) (rounds : Nat) (t e : ACode) (ρ : Env) (σ : AH) : AV → Res
  | .bool true => evCode tbl call rounds t ρ σ
  | .bool false => evCode tbl call rounds e ρ σ
  | _ => none
theorem onBool_true (t e : ACode) : onBool tbl call rounds t e ρ σ (.bool true) = evCode tbl call rounds t ρ σ := rfl
theorem onBool_false (t e : ACode) : onBool tbl call rounds t e ρ σ (.bool false) = evCode tbl call rounds e ρ σ := rfl
theorem evCode_cond (c : AO) (t e : ACode) : evCode tbl call rounds (.cond c t e) ρ σ = onBool tbl call rounds t e ρ σ (c.ev ρ) := by
  simp only [evCode, onBool]
  rfl

noncomputable def inBlk (id : Nat) : Res → Res
  | some (.exit j, ρ, σ) => bif Nat.beq j id then some (.norm, ρ, σ) else some (.exit j, ρ, σ)
  | r => r
theorem evCode_block (id : Nat) (b : ACode) : evCode tbl call rounds (.block id b) ρ σ = inBlk id (evCode tbl call rounds b ρ σ) := by
  simp only [evCode]
  split
  · rename_i h; rw [h]; rfl
  · rename_i h
    cases hr : evCode tbl call rounds b ρ σ with
    | none => rfl
    | some x =>
      obtain ⟨x, ρ1, σ1⟩ := x
      cases x with
      | exit j => exact absurd hr (h _ _ _)
      | _ => rfl
@[simp] theorem inBlk_norm (id : Nat) (ρ : Env) (σ : AH) : inBlk id (some (.norm, ρ, σ)) = some (.norm, ρ, σ) := rfl
@[simp] theorem inBlk_ret (id : Nat) (ρ : Env) (σ : AH) : inBlk id (some (.ret, ρ, σ)) = some (.ret, ρ, σ) := rfl
@[simp] theorem inBlk_pan (id : Nat) (v : AV) (ρ : Env) (σ : AH) : inBlk id (some (.pan v, ρ, σ)) = some (.pan v, ρ, σ) := rfl
@[simp] theorem inBlk_exit (id : Nat) (ρ : Env) (σ : AH) : inBlk id (some (.exit id, ρ, σ)) = some (.norm, ρ, σ) := by simp [inBlk]
theorem inBlk_other {id j : Nat} (h : j ≠ id) (ρ : Env) (σ : AH) : inBlk id (some (.exit j, ρ, σ)) = some (.exit j, ρ, σ) := by
  have : Nat.beq j id = false := by rw [← Bool.not_eq_true]; exact fun e => h (Nat.eq_of_beq_eq_true e)
  simp [inBlk, this]

/-- rounds of a loop -/
noncomputable def evRnd (tbl : Disp) (call : Call) (rounds : Nat) (b : ACode) (n : Nat) (ρ : Env) (σ : AH) : Res := evLoop (evCode tbl call rounds b) n ρ σ
theorem evCode_loop (b : ACode) : evCode tbl call rounds (.loop b) ρ σ = evRnd tbl call rounds b rounds ρ σ := rfl
noncomputable def thenL (tbl : Disp) (call : Call) (rounds : Nat) (b : ACode) (n : Nat) : Res → Res
  | some (.norm, ρ, σ) => evRnd tbl call rounds b n ρ σ
  | r => r
theorem thenL_norm (b : ACode) (n : Nat) (ρ : Env) (σ : AH) : thenL tbl call rounds b n (some (.norm, ρ, σ)) = evRnd tbl call rounds b n ρ σ := rfl
theorem thenL_ret (b : ACode) (n : Nat) (ρ : Env) (σ : AH) : thenL tbl call rounds b n (some (.ret, ρ, σ)) = some (.ret, ρ, σ) := rfl
theorem thenL_exit (b : ACode) (n i : Nat) (ρ : Env) (σ : AH) : thenL tbl call rounds b n (some (.exit i, ρ, σ)) = some (.exit i, ρ, σ) := rfl
theorem thenL_pan (b : ACode) (n : Nat) (v : AV) (ρ : Env) (σ : AH) : thenL tbl call rounds b n (some (.pan v, ρ, σ)) = some (.pan v, ρ, σ) := rfl
theorem evRnd_succ (b : ACode) (n : Nat) : evRnd tbl call rounds b (n + 1) ρ σ = thenL tbl call rounds b n (evCode tbl call rounds b ρ σ) := by
  show (match evCode tbl call rounds b ρ σ with
    | some (.norm, ρ, σ) => evRnd tbl call rounds b n ρ σ
    | r => r) = _
  split
  · rename_i h; rw [h]; rfl
  · rename_i h
    cases hr : evCode tbl call rounds b ρ σ with
    | none => rfl
    | some x =>
      obtain ⟨x, ρ1, σ1⟩ := x
      cases x with
      | norm => exact absurd hr (h _ _)
      | _ => rfl

theorem evPlan_nil (ops : List ROp) : evPlan tbl call ops [] ρ σ = some (.norm, ρ, σ) := rfl
/-- an operation of a plan -/
noncomputable def thenV (tbl : Disp) (call : Call) (ops : List ROp) (eff : Option Nat) (plan : List Stage) (l : List Nat) (ρ : Env) (d : Option Pos) : Option (Out × AH) → Res
  | some (.val v, σ) => evRuns tbl call ops (fun ρ σ => match eff with
      | some i => evOne tbl call ops i ρ σ (evPlan tbl call ops plan)
      | none => evPlan tbl call ops plan ρ σ) l (eput ρ d v) σ
  | _ => none
noncomputable def thenE (tbl : Disp) (call : Call) (ops : List ROp) (plan : List Stage) (ρ : Env) (d : Option Pos) : Option (Out × AH) → Res
  | some (.val v, σ) => evPlan tbl call ops plan (eput ρ d v) σ
  | _ => none
/-- a stage's runs, then its effect -/
noncomputable def evSt (tbl : Disp) (call : Call) (ops : List ROp) (eff : Option Nat) (plan : List Stage) (l : List Nat) (ρ : Env) (σ : AH) : Res :=
  evRuns tbl call ops (fun ρ σ => match eff with
      | some i => evOne tbl call ops i ρ σ (evPlan tbl call ops plan)
      | none => evPlan tbl call ops plan ρ σ) l ρ σ
theorem evPlan_cons (ops : List ROp) (l : List Nat) (eff : Option Nat) (plan : List Stage) : evPlan tbl call ops (⟨[], l, eff⟩ :: plan) ρ σ = evSt tbl call ops eff plan l ρ σ := rfl
theorem evPlan_chk (ops : List ROp) (c l : List Nat) (eff : Option Nat) (plan : List Stage) : evPlan tbl call ops (⟨c, l, eff⟩ :: plan) ρ σ =
  evChks tbl call ops ρ σ (evSt tbl call ops eff plan l ρ σ) c := rfl
theorem evSt_nil (ops : List ROp) (plan : List Stage) : evSt tbl call ops none plan [] ρ σ = evPlan tbl call ops plan ρ σ := rfl
theorem thenV_val (ops : List ROp) (eff : Option Nat) (plan : List Stage) (l : List Nat) (ρ : Env) (d : Option Pos) (v : AV) (σ : AH) :
  thenV tbl call ops eff plan l ρ d (some (.val v, σ)) = evSt tbl call ops eff plan l (eput ρ d v) σ := rfl
theorem thenE_val (ops : List ROp) (plan : List Stage) (ρ : Env) (d : Option Pos) (v : AV) (σ : AH) :
  thenE tbl call ops plan ρ d (some (.val v, σ)) = evPlan tbl call ops plan (eput ρ d v) σ := rfl
theorem evOne_any {ops : List ROp} {i : Nat} {d : Option Pos} {op : AOp} (h : nthR i ops = some ⟨d, op, none⟩) (k : Env → AH → Res) :
    evOne tbl call ops i ρ σ k = match evOp tbl call ρ σ op with
      | some (.val v, σ) => k (eput ρ d v) σ
      | _ => none := by
  unfold evOne
  rw [h]
  simp only [wants]
  cases evOp tbl call ρ σ op with
  | none => rfl
  | some x =>
    obtain ⟨o, τ⟩ := x
    cases o with
    | val v => simp only [setD_eq]
    | pan v => rfl
theorem evOne_guard {ops : List ROp} {i : Nat} {d : Option Pos} {op : AOp} {p : Pos} {want : Bool} (h : nthR i ops = some ⟨d, op, some (p, want)⟩) (k : Env → AH → Res) :
    evOne tbl call ops i ρ σ k = match AO.ev ρ (.tmp p) with
      | .bool b => bif b == want then (match evOp tbl call ρ σ op with
        | some (.val v, σ) => k (eput ρ d v) σ
        | _ => none) else k (eput ρ d unA) σ
      | .tup [] => k (eput ρ d unA) σ
      | _ => none := by
  unfold evOne
  rw [h]
  simp only [wants]
  generalize AO.ev ρ (.tmp p) = v
  split
  · rename_i hh
    split at hh
    · rename_i b
      simp only [Option.some.injEq] at hh
      simp only [hh, cond_true]
      cases evOp tbl call ρ σ op with
      | none => rfl
      | some x =>
        obtain ⟨o, τ⟩ := x
        cases o with
        | val v => simp only [setD_eq]
        | pan v => rfl
    · simp at hh
    · cases hh
  · rename_i hh
    split at hh
    · rename_i b
      simp only [Option.some.injEq] at hh
      simp only [hh, cond_false, setD_eq]
    · simp only [setD_eq]
    · cases hh
  · rename_i hh
    split at hh
    · cases hh
    · cases hh
    · split <;> simp_all
/-- a guarded operation of a plan, as a value of the guard -/
noncomputable def thenVG (tbl : Disp) (call : Call) (ops : List ROp) (eff : Option Nat) (plan : List Stage) (l : List Nat) (ρ : Env) (σ : AH) (d : Option Pos) (op : AOp) (want : Bool) : AV → Res
  | .bool b => bif b == want then thenV tbl call ops eff plan l ρ d (evOp tbl call ρ σ op) else evSt tbl call ops eff plan l (eput ρ d unA) σ
  | .tup [] => evSt tbl call ops eff plan l (eput ρ d unA) σ
  | _ => none
theorem thenVG_tt (ops : List ROp) (eff : Option Nat) (plan : List Stage) (l : List Nat) (d : Option Pos) (op : AOp) : thenVG tbl call ops eff plan l ρ σ d op true (.bool true) = thenV tbl call ops eff plan l ρ d (evOp tbl call ρ σ op) := rfl
theorem thenVG_ff (ops : List ROp) (eff : Option Nat) (plan : List Stage) (l : List Nat) (d : Option Pos) (op : AOp) : thenVG tbl call ops eff plan l ρ σ d op false (.bool false) = thenV tbl call ops eff plan l ρ d (evOp tbl call ρ σ op) := rfl
theorem thenVG_tf (ops : List ROp) (eff : Option Nat) (plan : List Stage) (l : List Nat) (d : Option Pos) (op : AOp) : thenVG tbl call ops eff plan l ρ σ d op true (.bool false) = evSt tbl call ops eff plan l (eput ρ d unA) σ := rfl
theorem thenVG_ft (ops : List ROp) (eff : Option Nat) (plan : List Stage) (l : List Nat) (d : Option Pos) (op : AOp) : thenVG tbl call ops eff plan l ρ σ d op false (.bool true) = evSt tbl call ops eff plan l (eput ρ d unA) σ := rfl
theorem thenVG_un (ops : List ROp) (eff : Option Nat) (plan : List Stage) (l : List Nat) (d : Option Pos) (op : AOp) (want : Bool) : thenVG tbl call ops eff plan l ρ σ d op want unA = evSt tbl call ops eff plan l (eput ρ d unA) σ := rfl
noncomputable def runOp (tbl : Disp) (call : Call) (ops : List ROp) (eff : Option Nat) (plan : List Stage) (l : List Nat) (i : Nat) (ρ : Env) (σ : AH) : Option ROp → Res
  | some ⟨d, op, none⟩ => thenV tbl call ops eff plan l ρ d (evOp tbl call ρ σ op)
  | some ⟨d, op, some (p, want)⟩ => thenVG tbl call ops eff plan l ρ σ d op want (AO.ev ρ (.tmp p))
  | none => evSt tbl call ops eff plan (i :: l) ρ σ
noncomputable def effOp (tbl : Disp) (call : Call) (ops : List ROp) (plan : List Stage) (i : Nat) (ρ : Env) (σ : AH) : Option ROp → Res
  | some ⟨d, op, none⟩ => thenE tbl call ops plan ρ d (evOp tbl call ρ σ op)
  | _ => evSt tbl call ops (some i) plan [] ρ σ
theorem runOp_some (ops : List ROp) (eff : Option Nat) (plan : List Stage) (l : List Nat) (i : Nat) (d : Option Pos) (op : AOp) :
  runOp tbl call ops eff plan l i ρ σ (some ⟨d, op, none⟩) = thenV tbl call ops eff plan l ρ d (evOp tbl call ρ σ op) := rfl
theorem runOp_guard (ops : List ROp) (eff : Option Nat) (plan : List Stage) (l : List Nat) (i : Nat) (d : Option Pos) (op : AOp) (p : Pos) (want : Bool) :
  runOp tbl call ops eff plan l i ρ σ (some ⟨d, op, some (p, want)⟩) = thenVG tbl call ops eff plan l ρ σ d op want (AO.ev ρ (.tmp p)) := rfl
theorem effOp_some (ops : List ROp) (plan : List Stage) (i : Nat) (d : Option Pos) (op : AOp) :
  effOp tbl call ops plan i ρ σ (some ⟨d, op, none⟩) = thenE tbl call ops plan ρ d (evOp tbl call ρ σ op) := rfl
theorem evSt_cons (ops : List ROp) (eff : Option Nat) (plan : List Stage) (i : Nat) (l : List Nat) :
    evSt tbl call ops eff plan (i :: l) ρ σ = runOp tbl call ops eff plan l i ρ σ (nthR i ops) := by
  unfold runOp
  split
  · rename_i d op h
    show evOne tbl call ops i ρ σ _ = _
    rw [evOne_any h]
    rfl
  · rename_i d op p want h
    show evOne tbl call ops i ρ σ _ = _
    rw [evOne_guard h]
    rfl
  · rfl
theorem evSt_eff (ops : List ROp) (plan : List Stage) (i : Nat) :
    evSt tbl call ops (some i) plan [] ρ σ = effOp tbl call ops plan i ρ σ (nthR i ops) := by
  unfold effOp
  split
  · rename_i d op h
    show evOne tbl call ops i ρ σ _ = _
    rw [evOne_any h]
    rfl
  · rfl
theorem nthR_zero (a : ROp) (l : List ROp) : nthR 0 (a :: l) = some a := rfl
theorem nthR_succ (n : Nat) (a : ROp) (l : List ROp) : nthR (n + 1) (a :: l) = nthR n l := rfl

theorem fN_k {β : Type} (n : Nat) (k : Nat → β) : fN n k = k n := fN_eq n k

/-- the end of a function -/
noncomputable def fnEnd (rs : List RVar) : Res → Option (Out × AH)
  | some (.norm, ρ, σ) | some (.ret, ρ, σ) => (match evRes ρ σ rs with
    | some l => some (.val (packRes l), σ)
    | none => none)
  | some (.pan v, _, σ) => some (.pan v, σ)
  | _ => none

/-- the slots at the beginning -/
noncomputable def envOf (n : Nat) (ρ : Env) : List AV → Env
  | [] => ρ
  | a :: l => envOf (n + 1) (ρ.set (some a) (tp n)) l

theorem bindArgs_eq (k : Env → Option (Out × AH)) : ∀ (args : List AV) (n : Nat) (ρ : Env), bindArgs n args ρ k = k (envOf n ρ args)
  | [], _, _ => rfl
  | a :: args, n, ρ => by
    simp only [bindArgs, Tr.setK_eq]
    exact bindArgs_eq k args (n + 1) _

theorem evFn_eq (fn : AFn) (args : List AV) (h : args.length = fn.nparams) :
    evFn tbl call rounds fn args σ = fnEnd fn.results (evCode tbl call rounds fn.body (envOf 0 .lf args) σ) := by
  unfold evFn
  rw [h, Nat.beq_refl]
  simp only [cond_true, bindArgs_eq, fnEnd]
  rfl

theorem evBook_fn {B : Book} {n : Nat} {f : Pos} {args : List AV} {fn : AFn} (hp : B.prims.get f = none) (hf : B.fns.get f = some fn) :
    B.call rounds (n + 1) f args σ = evFn B.tbl (B.call rounds n) rounds fn args σ := by
  show (match B.prims.get f with
      | some p => p (B.call rounds n) args σ
      | none => match B.fns.get f with
        | some fn => evFn B.tbl (B.call rounds n) rounds fn args σ
        | none => none) = _
  rw [hp, hf]

theorem evBook_prim {B : Book} {n : Nat} {f : Pos} {args : List AV} {p : Prim} (hp : B.prims.get f = some p) :
    B.call rounds (n + 1) f args σ = p (B.call rounds n) args σ := by
  show (match B.prims.get f with
      | some p => p (B.call rounds n) args σ
      | none => match B.fns.get f with
        | some fn => evFn B.tbl (B.call rounds n) rounds fn args σ
        | none => none) = _
  rw [hp]
end

end Go.Proofs.YtgaoddafkjdecaaGreat.EV
