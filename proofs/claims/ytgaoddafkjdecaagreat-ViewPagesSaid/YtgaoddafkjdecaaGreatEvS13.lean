/-
  EV, part S13: len, cap, min, max, the bits of floats, maps. Own work of this claim.
-/
import Derived.Test.YtgaoddafkjdecaaGreatEvS12
set_option linter.unusedVariables false
set_option linter.unusedSimpArgs false
namespace Go.Proofs.YtgaoddafkjdecaaGreat.EV

section
variable {P : Program} {ms : List String} {w : World} {μ : Mu} {σ σ' : AH} {nt : Nat} {ρ : Env} {a : Act} {o : Oper} {out : Out} {tbl : Disp} {call : Call}

theorem builtin1 {c : _root_.Go.Call} {b : Builtin} {x : Operand} (ho : o.op = .call c) (hc : c.callee = .builtin b) (hargs : c.args = #[x]) {f : Array TypeId → TypeId → Array Value → Sem Value}
    (hb : ∀ ts t cs vs, builtin b ts t cs vs = do pure (.value (← f ts t vs))) {v : Value} {w' : World} (h : (f c.argTypes o.type #[a.eval x]).run P w = .ok v w') : Does P o a w v w' := by
  refine .inl ?_
  rw [exec_builtin ho hc, hargs, hb]
  rw [show (#[x].map a.eval) = #[a.eval x] from by simp]
  simp only [Sem.run_bind, h, Result.andThen_ok]
  rfl

theorem builtin2 {c : _root_.Go.Call} {b : Builtin} {x y : Operand} (ho : o.op = .call c) (hc : c.callee = .builtin b) (hargs : c.args = #[x, y]) {f : Array TypeId → TypeId → Array Value → Sem Value}
    (hb : ∀ ts t cs vs, builtin b ts t cs vs = do pure (.value (← f ts t vs))) {v : Value} {w' : World} (h : (f c.argTypes o.type #[a.eval x, a.eval y]).run P w = .ok v w') : Does P o a w v w' := by
  refine .inl ?_
  rw [exec_builtin ho hc, hargs, hb]
  rw [show (#[x, y].map a.eval) = #[a.eval x, a.eval y] from by simp]
  simp only [Sem.run_bind, h, Result.andThen_ok]
  rfl

theorem REs.length {l : List (AV × AV)} {es : List MapEntry} (h : REs μ l es) : l.length = es.length := by
  induction l generalizing es with
  | nil => simp [REs] at h; simp [h]
  | cons x l ih =>
    obtain ⟨k, v⟩ := x
    simp only [REs] at h
    obtain ⟨e, r, rfl, _, _, h3⟩ := h
    simp [ih h3]

theorem q_len (hR : Rel μ σ w) (hA : RA μ nt ρ a) {c : _root_.Go.Call} {s : TypeId} {d : TypeDesc} {k : Nat} {x : Operand} {x' : AO} (ho : o.op = .call c)
    (hc : c.callee = .builtin .len) (hargs : c.args = #[x]) (hat : c.argTypes[0]? = some s) (hx : cOpd x = some x') (hs : P.underlying s = some d)
    (hd : (k = 0 ∧ d = .string) ∨ (k = 1 ∧ ∃ e, d = .slice e) ∨ (k = 2 ∧ ∃ e f, d = .map e f))
    (hev : evOp tbl call ρ σ (.len k x') = some (out, σ')) : Quiet P o a μ σ w out σ' := by
  have rx := opd_RV hA hx
  have fin := fun {v w'} h => builtin1 (P := P) (w := w) (a := a) ho hc hargs (f := Builtin.len_) (fun _ _ _ _ => rfl) (v := v) (w' := w') h
  simp only [evOp, fN_eq] at hev
  split at hev
  · rename_i b hb
    split at hev
    · rename_i es hes
      rw [hb] at rx
      simp only [RV] at rx
      obtain ⟨p, hp, ex⟩ := rx
      obtain ⟨ces, clk, h1, hbo, h2⟩ := hR.blk b _ p hes hp
      refine Quiet.same (v' := .int .i64 es.length) hR (val_inv hev) (by simp [RV]) (fin ?_)
      have hlen := h2.length
      simp at hlen
      rcases hd with ⟨h, _⟩ | ⟨h, _⟩ | ⟨_, e, f, rfl⟩
      · omega
      · omega
      · unfold Builtin.len_
        have hg : (getObj p.blk).run P w = .ok (.map ces clk) w := by simp [getObj, Sem.run, h1]
        simp only [hat, List.getElem?_toArray, List.getElem?_cons_zero, Sem.run_bind, run_underlying hs, Result.andThen_ok, ex, hg, goInt, hlen]
        rfl
    · cases hev
  · rename_i hb
    rw [hb] at rx
    simp only [RV] at rx
    refine Quiet.same (v' := .int .i64 0) hR (val_inv hev) (by simp [RV]) (fin ?_)
    rcases hd with ⟨h, _⟩ | ⟨h, _⟩ | ⟨_, e, f, rfl⟩
    · omega
    · omega
    · unfold Builtin.len_
      simp only [hat, List.getElem?_toArray, List.getElem?_cons_zero, Sem.run_bind, run_underlying hs, Result.andThen_ok, rx, goInt]
      rfl
  · rename_i l hb
    rw [hb] at rx
    simp only [RV] at rx
    obtain ⟨s', ex, rfl⟩ := rx
    refine Quiet.same (v' := .int .i64 s'.size) hR (val_inv hev) ?_ (fin ?_)
    · have : (s'.data.toList.map (·.toNat)).length = s'.size := by rw [List.length_map, Array.length_toList]; rfl
      simp only [RV, this]; rfl
    · rcases hd with ⟨_, rfl⟩ | ⟨h, _⟩ | ⟨h, _⟩
      · unfold Builtin.len_
        simp only [hat, List.getElem?_toArray, List.getElem?_cons_zero, Sem.run_bind, run_underlying hs, Result.andThen_ok, ex, goInt]
        rfl
      · omega
      · omega
  · rename_i hb
    rw [hb] at rx
    simp only [RV] at rx
    refine Quiet.same (v' := .int .i64 0) hR (val_inv hev) (by simp [RV]) (fin ?_)
    rcases hd with ⟨h, _⟩ | ⟨_, e, rfl⟩ | ⟨h, _⟩
    · omega
    · unfold Builtin.len_
      simp only [hat, List.getElem?_toArray, List.getElem?_cons_zero, Sem.run_bind, run_underlying hs, Result.andThen_ok, rx, goInt]
      rfl
    · omega
  · rename_i b q n cc hb
    rw [hb] at rx
    obtain ⟨p, ad, cap, hp, ex, had⟩ := RV_slc rx
    refine Quiet.same (v' := .int .i64 n) hR (val_inv hev) (by simp [RV]) (fin ?_)
    rcases hd with ⟨h, _⟩ | ⟨_, e, rfl⟩ | ⟨h, _⟩
    · omega
    · unfold Builtin.len_
      simp only [hat, List.getElem?_toArray, List.getElem?_cons_zero, Sem.run_bind, run_underlying hs, Result.andThen_ok, ex, goInt]
      rfl
    · omega
  · cases hev

theorem q_cap (hR : Rel μ σ w) (hA : RA μ nt ρ a) {c : _root_.Go.Call} {s e : TypeId} {x : Operand} {x' : AO} (ho : o.op = .call c)
    (hc : c.callee = .builtin .cap) (hargs : c.args = #[x]) (hat : c.argTypes[0]? = some s) (hx : cOpd x = some x') (hs : P.underlying s = some (.slice e))
    (hev : evOp tbl call ρ σ (.cap x') = some (out, σ')) : Quiet P o a μ σ w out σ' := by
  have rx := opd_RV hA hx
  have fin := fun {v w'} h => builtin1 (P := P) (w := w) (a := a) ho hc hargs (f := Builtin.cap_) (fun _ _ _ _ => rfl) (v := v) (w' := w') h
  simp only [evOp, fN_eq] at hev
  split at hev
  · rename_i hb
    rw [hb] at rx
    simp only [RV] at rx
    refine Quiet.same (v' := .int .i64 0) hR (val_inv hev) (by simp [RV]) (fin ?_)
    unfold Builtin.cap_
    simp only [hat, List.getElem?_toArray, List.getElem?_cons_zero, Sem.run_bind, run_underlying hs, Result.andThen_ok, rx, goInt]
    rfl
  · rename_i b q n cc hb
    rw [hb] at rx
    obtain ⟨p, hp, ex⟩ := RV_known rx
    refine Quiet.same (v' := .int .i64 cc) hR (val_inv hev) (by simp [RV]) (fin ?_)
    unfold Builtin.cap_
    simp only [hat, List.getElem?_toArray, List.getElem?_cons_zero, Sem.run_bind, run_underlying hs, Result.andThen_ok, ex, goInt]
    rfl
  · cases hev

theorem q_min (hR : Rel μ σ w) (hA : RA μ nt ρ a) {c : _root_.Go.Call} {x y : Operand} {x' y' : AO} (ho : o.op = .call c)
    (hc : c.callee = .builtin .min) (hargs : c.args = #[x, y]) (hx : cOpd x = some x') (hy : cOpd y = some y')
    (hev : evOp tbl call ρ σ (.min x' y') = some (out, σ')) : Quiet P o a μ σ w out σ' := by
  have rx := opd_RV hA hx
  have ry := opd_RV hA hy
  simp only [evOp] at hev
  split at hev
  · rename_i k i j n h1 h2
    rw [h1] at rx
    rw [h2] at ry
    simp only [RV] at rx ry
    simp only [cond_eq_ite] at hev
    split at hev
    · refine Quiet.same (v' := .int k (if n < i then n else i)) hR (val_inv hev) ?_ (builtin2 ho hc hargs (f := Builtin.min_) (fun _ _ _ _ => rfl) ?_)
      · simp [RV, ilt_eq]
      · unfold Builtin.min_
        rw [rx, ry]
        rfl
    · cases hev
  · cases hev

theorem q_max (hR : Rel μ σ w) (hA : RA μ nt ρ a) {c : _root_.Go.Call} {x y : Operand} {x' y' : AO} (ho : o.op = .call c)
    (hc : c.callee = .builtin .max) (hargs : c.args = #[x, y]) (hx : cOpd x = some x') (hy : cOpd y = some y')
    (hev : evOp tbl call ρ σ (.max x' y') = some (out, σ')) : Quiet P o a μ σ w out σ' := by
  have rx := opd_RV hA hx
  have ry := opd_RV hA hy
  simp only [evOp] at hev
  split at hev
  · rename_i k i j n h1 h2
    rw [h1] at rx
    rw [h2] at ry
    simp only [RV] at rx ry
    simp only [cond_eq_ite] at hev
    split at hev
    · refine Quiet.same (v' := .int k (if n > i then n else i)) hR (val_inv hev) ?_ (builtin2 ho hc hargs (f := Builtin.max_) (fun _ _ _ _ => rfl) ?_)
      · simp [RV, ilt_eq]
      · unfold Builtin.max_
        rw [rx, ry]
        rfl
    · cases hev
  · cases hev

theorem find_bits (fn : Func) (h : fn.name = "math.Float64bits") : Extern.find fn = some Extern.MathFloatBits.float64bits := by
  unfold Extern.find
  have h1 : (Extern.allGenericRows.lookup "math.Float64bits").isNone = true := by kernel_rfl
  have h2 : (Extern.allTypedRows.lookup "math.Float64bits").isNone = true := by kernel_rfl
  have h3 : Extern.allRows.lookup "math.Float64bits" = some Extern.MathFloatBits.float64bits := by kernel_rfl
  rw [h]
  dsimp only
  rw [Option.isNone_iff_eq_none.1 h1, Option.isNone_iff_eq_none.1 h2, h3]
  rfl

theorem find_from (fn : Func) (h : fn.name = "math.Float64frombits") : Extern.find fn = some Extern.MathFloatBits.float64frombits := by
  unfold Extern.find
  have h1 : (Extern.allGenericRows.lookup "math.Float64frombits").isNone = true := by kernel_rfl
  have h2 : (Extern.allTypedRows.lookup "math.Float64frombits").isNone = true := by kernel_rfl
  have h3 : Extern.allRows.lookup "math.Float64frombits" = some Extern.MathFloatBits.float64frombits := by kernel_rfl
  rw [h]
  dsimp only
  rw [Option.isNone_iff_eq_none.1 h1, Option.isNone_iff_eq_none.1 h2, h3]
  rfl

theorem exec_callF {c : _root_.Go.Call} {f : FuncId} (ho : o.op = .call c) (hc : c.callee = .value (.func f)) : (execOp a.eval o).run P w = (callFunc f (c.args.map a.eval)).run P w := by
  simp only [execOp, ho, resolve, hc, Act.eval, Deferred.ofValue, invoke, Sem.run_bind, Sem.run_pure, Result.andThen_ok]
  simp

theorem q_fbits (hR : Rel μ σ w) (hA : RA μ nt ρ a) {c : _root_.Go.Call} {f : FuncId} {fn : Func} {x : Operand} {x' : AO} (ho : o.op = .call c) (hc : c.callee = .value (.func f))
    (hargs : c.args = #[x]) (hf : P.funcs[f]? = some fn) (hb : fn.body.isNone = true) (hn : Extern.findNext fn = none) (hname : fn.name = "math.Float64bits") (hx : cOpd x = some x')
    (hev : evOp tbl call ρ σ (.fbits x') = some (out, σ')) : Quiet P o a μ σ w out σ' := by
  have rx := opd_RV hA hx
  simp only [evOp] at hev
  split at hev
  · rename_i b hb'
    rw [hb'] at rx
    simp only [RV] at rx
    refine Quiet.same (v' := .int .u64 b) hR (val_inv hev) (by simp [RV]) (.of_value ?_)
    rw [exec_callF ho hc, run_callFunc_extern hf (by rw [hname]; decide) hb hn (find_bits fn hname), hargs]
    rw [show (#[x].map a.eval) = #[a.eval x] from by simp, rx]
    rfl
  · cases hev

theorem q_ffrom (hR : Rel μ σ w) (hA : RA μ nt ρ a) {c : _root_.Go.Call} {f : FuncId} {fn : Func} {x : Operand} {x' : AO} (ho : o.op = .call c) (hc : c.callee = .value (.func f))
    (hargs : c.args = #[x]) (hf : P.funcs[f]? = some fn) (hb : fn.body.isNone = true) (hn : Extern.findNext fn = none) (hname : fn.name = "math.Float64frombits") (hx : cOpd x = some x')
    (hev : evOp tbl call ρ σ (.ffrom x') = some (out, σ')) : Quiet P o a μ σ w out σ' := by
  have rx := opd_RV hA hx
  simp only [evOp] at hev
  split at hev
  · rename_i b hb'
    rw [hb'] at rx
    simp only [RV] at rx
    refine Quiet.same (v' := .float .f64 b) hR (val_inv hev) (by simp [RV]) (.of_value ?_)
    rw [exec_callF ho hc, run_callFunc_extern hf (by rw [hname]; decide) hb hn (find_from fn hname), hargs]
    rw [show (#[x].map a.eval) = #[a.eval x] from by simp, rx]
    rfl
  · cases hev

/-! ### Maps -/

theorem keyKind_spec {t : TypeId} {str : Bool} {ik : IntKind} (h : keyKind P t = some (str, ik)) :
    (str = false ∧ P.underlying t = some (.int ik)) ∨ (str = true ∧ P.underlying t = some .string) := by
  unfold keyKind at h
  split at h
  · rename_i k hk; cases h; exact .inl ⟨rfl, hk⟩
  · rename_i hk; cases h; exact .inr ⟨rfl, hk⟩
  · cases h

theorem checkKey_run {t : TypeId} {str : Bool} {ik : IntKind} (hk : keyKind P t = some (str, ik)) {e : Bool} {v : Value} : (Instr.checkKey e 10000 t v).run P w = .ok () w := by
  obtain ⟨n, hn⟩ : ∃ n, 10000 = n + 1 := ⟨9999, rfl⟩
  rw [hn]
  rcases keyKind_spec hk with ⟨_, h⟩ | ⟨_, h⟩
  · simp only [Instr.checkKey, Sem.run_bind, run_underlying h, Result.andThen_ok]; rfl
  · simp only [Instr.checkKey, Sem.run_bind, run_underlying h, Result.andThen_ok]; rfl

theorem ba_beq (a b : Array UInt8) : ((⟨a⟩ : ByteArray) == ⟨b⟩) = (a == b) := rfl

theorem keyEq_now {d : TypeDesc} {str : Bool} {ik : IntKind} (hk : (str = false ∧ d = .int ik) ∨ (str = true ∧ d = .string)) {x y : AV} {b : Bool} (h : keyEq str ik x y = some b)
    {v u : Value} (hx : RV μ x v) (hy : RV μ y u) : Instr.sameNow d v u = some b := by
  unfold keyEq at h
  split at h
  · rename_i j a' j' b'
    simp only [cond_eq_ite, Bool.and_eq_true] at h
    split at h
    · rename_i hc
      simp only [Option.some.injEq] at h
      subst h
      simp only [RV] at hx hy
      subst hx; subst hy
      obtain ⟨⟨h1, h2⟩, h3⟩ := hc
      have h2 := eq_of_beq h2
      have h3 := eq_of_beq h3
      rcases hk with ⟨_, rfl⟩ | ⟨h, _⟩
      · simp [Instr.sameNow, h2, h3, ieq_eq]
      · simp [h] at h1
    · cases h
  · rename_i a' b'
    simp only [cond_eq_ite] at h
    split at h
    · rename_i hc
      simp only [Option.some.injEq] at h
      subst h
      simp only [RV] at hx hy
      obtain ⟨s, rfl, rfl⟩ := hx
      obtain ⟨z, rfl, rfl⟩ := hy
      rcases hk with ⟨h, _⟩ | ⟨_, rfl⟩
      · simp [h] at hc
      · simp only [Instr.sameNow, leqN_bytes, Option.some.injEq]
        cases s; cases z
        rw [ba_beq, Bool.eq_iff_iff]
        simp only [beq_iff_eq]
        exact ⟨fun e => by rw [e], fun e => Array.ext' e⟩
    · cases h
  · cases h

theorem findA_now {d : TypeDesc} {str : Bool} {ik : IntKind} (hk : (str = false ∧ d = .int ik) ∨ (str = true ∧ d = .string)) {x : AV} {v : Value} (hx : RV μ x v) :
    ∀ {l : List (AV × AV)} {es : List MapEntry} {r : Option AV} (i : Nat), REs μ l es → findA str ik x l = some r →
      (r = none ∧ Instr.findNow d v es i = some none) ∨ ∃ y u j, r = some y ∧ RV μ y u ∧ Instr.findNow d v es i = some (some (j, u))
  | [], es, r, i, h, hf => by simp [REs] at h; subst h; simp [findA] at hf; subst hf; exact .inl ⟨rfl, rfl⟩
  | (k, y) :: l, es, r, i, h, hf => by
    simp only [REs] at h
    obtain ⟨e, t, rfl, h1, h2, h3⟩ := h
    simp only [findA] at hf
    split at hf
    · rename_i hke
      cases hf
      have := keyEq_now hk hke hx h1
      exact .inr ⟨y, e.val, i, rfl, h2, by simp [Instr.findNow, this]⟩
    · rename_i hke
      have := keyEq_now hk hke hx h1
      rcases findA_now hk hx (i + 1) h3 hf with ⟨rfl, h⟩ | ⟨z, u, j, rfl, hz, h⟩
      · exact .inl ⟨rfl, by simp [Instr.findNow, this, h]⟩
      · exact .inr ⟨z, u, j, rfl, hz, by simp [Instr.findNow, this, h]⟩
    · cases hf

end
end Go.Proofs.YtgaoddafkjdecaaGreat.EV
