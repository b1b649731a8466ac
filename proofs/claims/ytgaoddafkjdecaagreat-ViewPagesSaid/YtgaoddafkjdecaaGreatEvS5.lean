/-
  EV, part S5: each operation that leaves memory alone answers as the model's. Own work of this claim.
-/
import Derived.Test.YtgaoddafkjdecaaGreatEvS4
set_option linter.unusedVariables false
set_option linter.unusedSimpArgs false
namespace Go.Proofs.YtgaoddafkjdecaaGreat.EV

section
variable {P : Program} {ms : List String} {w : World} {μ : Mu} {σ σ' : AH} {nt : Nat} {ρ : Env} {a : Act} {o : Oper} {out : Out} {tbl : Disp} {call : Call}

theorem cOpd_some {x : Operand} {α : Type} {f : AO → Option α} {r : α} (h : (match cOpd x with | some a => f a | none => none) = some r) :
    ∃ y, cOpd x = some y ∧ f y = some r := by
  cases hx : cOpd x with
  | none => rw [hx] at h; cases h
  | some y => rw [hx] at h; exact ⟨y, rfl, h⟩

theorem Does.of_value {v : Value} (h : (execOp a.eval o).run P w = .ok (.value v) w) : Does P o a w v w := .inl h

theorem q_move (hR : Rel μ σ w) (hA : RA μ nt ρ a) {x : Operand} {y : AO} (ho : o.op = .move x ∨ o.op = .assign x) (hx : cOpd x = some y)
    (hev : evOp tbl call ρ σ (.mv y) = some (out, σ')) : Quiet P o a μ σ w out σ' := by
  refine Quiet.same hR (val_inv hev) (opd_RV hA hx) (.of_value ?_)
  rcases ho with ho | ho <;> simp [execOp, ho]

theorem q_pick (hR : Rel μ σ w) (hA : RA μ nt ρ a) {c x y : Operand} {c' x' y' : AO} (ho : o.op = .pick c x y) (hc : cOpd c = some c') (hx : cOpd x = some x')
    (hy : cOpd y = some y') (hev : evOp tbl call ρ σ (.pick c' x' y') = some (out, σ')) : Quiet P o a μ σ w out σ' := by
  have rc := opd_RV hA hc
  simp only [evOp] at hev
  split at hev
  · rename_i t ht
    rw [ht] at rc
    simp only [RV] at rc
    refine Quiet.same (v' := if t then a.eval x else a.eval y) hR (val_inv hev) ?_ (.of_value ?_)
    · cases t
      · exact opd_RV hA hy
      · exact opd_RV hA hx
    · simp [execOp, ho, asBool, rc]
  · cases hev

theorem q_bin (hR : Rel μ σ w) (hA : RA μ nt ρ a) {op : BinOp} {t t' : TypeId} {x y : Operand} {x' y' : AO} (ho : o.op = .binOp op t x y t') (hx : cOpd x = some x')
    (hy : cOpd y = some y') (hev : evOp tbl call ρ σ (.bin op x' y') = some (out, σ')) : Quiet P o a μ σ w out σ' := by
  have rx := opd_RV hA hx
  have ry := opd_RV hA hy
  obtain ⟨r, hr, hout⟩ := valO_inv hev
  have key : ∃ v', (binOp op t (a.eval x) (a.eval y)).run P w = .ok v' w ∧ RV μ r v' := by
    generalize x'.ev ρ = p at hr rx
    generalize y'.ev ρ = q at hr ry
    cases p <;> cases q <;> simp only [evBin, reduceCtorEq] at hr
    case int.int =>
      simp only [RV] at rx ry
      rw [rx, ry]
      exact bin_int hr t
    case str.str => exact bin_str hr rx ry t
    case flt.flt =>
      simp only [RV] at rx ry
      rw [rx, ry]
      exact bin_flt hr t
  obtain ⟨v', hv, rv⟩ := key
  refine Quiet.same hR hout rv (.of_value ?_)
  have g : eqGuard op t x y (a.eval x) (a.eval y) = pure () := by
    refine not_iface_guard ?_ ?_
    · intro e
      generalize x'.ev ρ = p at hr rx
      generalize y'.ev ρ = q at hr ry
      rw [e] at rx
      cases p <;> simp only [evBin, reduceCtorEq] at hr <;> simp [RV] at rx
    · intro l e
      generalize x'.ev ρ = p at hr rx
      generalize y'.ev ρ = q at hr ry
      rw [e] at rx
      cases p <;> simp only [evBin, reduceCtorEq] at hr <;> simp [RV] at rx
  simp [execOp, ho, g, hv]

theorem q_eq (hR : Rel μ σ w) (hA : RA μ nt ρ a) {neg : Bool} {k : EK} {t t' : TypeId} {x y : Operand} {x' y' : AO} (ho : o.op = .binOp (if neg then .neq else .eql) t x y t')
    (hk : eqKind P t x y = some k) (hx : cOpd x = some x') (hy : cOpd y = some y') (hev : evOp tbl call ρ σ (.eq neg k x' y') = some (out, σ')) : Quiet P o a μ σ w out σ' := by
  have rx := opd_RV hA hx
  have ry := opd_RV hA hy
  simp only [evOp] at hev
  split at hev
  · rename_i b hb
    obtain ⟨h1, h2⟩ := eq_spec (P := P) (w := w) hk hb rx ry
    refine Quiet.same (v' := .bool (bif neg then !b else b)) hR (val_inv hev) (by simp [RV]) (.of_value ?_)
    cases neg
    · simp only [Bool.false_eq_true, if_false] at ho
      simp only [execOp, ho, Sem.run_bind, cond_false]
      simp only [Sem.run_bind] at h1
      rw [h1]; rfl
    · simp only [if_true] at ho
      simp only [execOp, ho, Sem.run_bind, cond_true]
      simp only [Sem.run_bind] at h2
      rw [h2]; rfl
  · cases hev

theorem q_un (hR : Rel μ σ w) (hA : RA μ nt ρ a) {op : UnOp} {t : TypeId} {x : Operand} {x' : AO} (ho : o.op = .unOp op t x) (hx : cOpd x = some x')
    (hev : evOp tbl call ρ σ (.un op x') = some (out, σ')) : Quiet P o a μ σ w out σ' := by
  obtain ⟨r, hr, hout⟩ := valO_inv hev
  obtain ⟨v', hv, rv⟩ := un_spec (P := P) (w := w) hr (opd_RV hA hx)
  exact Quiet.same hR hout rv (.of_value (by simp [execOp, ho, hv]))

theorem q_nilck (hR : Rel μ σ w) (hA : RA μ nt ρ a) {x : Operand} {x' : AO} (ho : o.op = .nilCheck x) (hx : cOpd x = some x')
    (hev : evOp tbl call ρ σ (.nilck x') = some (out, σ')) : Quiet P o a μ σ w out σ' := by
  have rx := opd_RV hA hx
  simp only [evOp] at hev
  split at hev
  · rename_i b q hb
    rw [hb] at rx
    have rx' := rx
    simp only [RV] at rx'
    obtain ⟨p, hp, e⟩ := rx'
    refine Quiet.same hR (val_inv hev) rx (.of_value ?_)
    simp [execOp, ho, e]
  · cases hev

theorem q_mkI (hR : Rel μ σ w) (hA : RA μ nt ρ a) {t : TypeId} {d : TypeDesc} {x : Operand} {x' : AO} (ho : o.op = .makeInterface t x) (hx : cOpd x = some x')
    (hu : P.underlying t = some d) (hd : ∀ m, d ≠ .interface m) (hev : evOp tbl call ρ σ (.mkI t x') = some (out, σ')) : Quiet P o a μ σ w out σ' := by
  refine Quiet.same (v' := .iface t (a.eval x)) hR (val_inv hev) ⟨_, rfl, opd_RV hA hx⟩ (.of_value ?_)
  simp only [execOp, ho, Instr.makeInterface, Sem.run_bind, run_underlying hu, Result.andThen_ok]
  cases d <;> first | rfl | exact absurd rfl (hd _)

theorem q_mkF (hR : Rel μ σ w) (hA : RA μ nt ρ a) {f : FuncId} {fs cs : Array Operand} {fs' cs' : List AO} (ho : o.op = .makeFunc (.func f) fs cs)
    (hf : cOpds fs.toList = some fs') (hc : cOpds cs.toList = some cs') (hev : evOp tbl call ρ σ (.mkF (tp f) fs' cs') = some (out, σ')) : Quiet P o a μ σ w out σ' := by
  refine Quiet.same (v' := .func (.func f) (fs.map a.eval) (cs.map a.eval)) hR (val_inv hev) ?_ (.of_value ?_)
  · exact ⟨f, _, _, rfl, rfl, by simpa using opds_RVs hA hf, by simpa using opds_RVs hA hc⟩
  · simp [execOp, ho, Instr.makeFunc]

theorem q_extract (hR : Rel μ σ w) (hA : RA μ nt ρ a) {t : Operand} {i : Nat} {t' : AO} (ho : o.op = .extract t i) (ht : cOpd t = some t')
    (hev : evOp tbl call ρ σ (.extract t' i) = some (out, σ')) : Quiet P o a μ σ w out σ' := by
  have rt := opd_RV hA ht
  simp only [evOp] at hev
  split at hev
  · rename_i l hl
    rw [hl] at rt
    simp only [RV] at rt
    obtain ⟨vs, e, rl⟩ := rt
    rw [ldrop_eq] at hev
    split at hev
    · rename_i v r hv
      have hi : l[i]? = some v := by rw [← List.head?_drop, hv]; rfl
      obtain ⟨u, hu, ru⟩ := rl.get hi
      refine Quiet.same hR (val_inv hev) ru (.of_value ?_)
      have hu' : vs[i]? = some u := by simpa using hu
      simp [execOp, ho, Instr.extract, e, hu']
    · cases hev
  · cases hev

/-! ### Conversions -/

theorem q_cvII (hR : Rel μ σ w) (hA : RA μ nt ρ a) {s d : TypeId} {k k' : IntKind} {x : Operand} {x' : AO} (ho : o.op = .convert s d x) (hx : cOpd x = some x')
    (hs : P.underlying s = some (.int k')) (hd : P.underlying d = some (.int k)) (hev : evOp tbl call ρ σ (.cvII k x') = some (out, σ')) : Quiet P o a μ σ w out σ' := by
  have rx := opd_RV hA hx
  simp only [evOp] at hev
  split at hev
  · rename_i j n hn
    rw [hn] at rx
    simp only [RV] at rx
    obtain ⟨r, hr, hout⟩ := valO_inv hev
    have := outI_some hr
    subst this
    refine Quiet.same (v' := .int k (k.wrap n)) hR hout (by simp [RV, wrF_eq]) (.of_value ?_)
    simp [execOp, ho, convert, run_underlying hs, run_underlying hd, rx, Conv.intToInt]
  · cases hev

theorem q_cvIF (hR : Rel μ σ w) (hA : RA μ nt ρ a) {s d : TypeId} {k' : IntKind} {x : Operand} {x' : AO} (ho : o.op = .convert s d x) (hx : cOpd x = some x')
    (hs : P.underlying s = some (.int k')) (hd : P.underlying d = some (.float .f64)) (hev : evOp tbl call ρ σ (.cvIF x') = some (out, σ')) : Quiet P o a μ σ w out σ' := by
  have rx := opd_RV hA hx
  simp only [evOp, fN_eq] at hev
  split at hev
  · rename_i j n hn
    rw [hn] at rx
    simp only [RV] at rx
    refine Quiet.same (v' := .float .f64 (FloatKind.f64.nearest n)) hR (val_inv hev) (by simp [RV]) (.of_value ?_)
    simp [execOp, ho, convert, run_underlying hs, run_underlying hd, rx, Conv.intToFloat]
  · cases hev

theorem q_cvSS (hR : Rel μ σ w) (hA : RA μ nt ρ a) {s d : TypeId} {x : Operand} {x' : AO} (ho : o.op = .convert s d x) (hx : cOpd x = some x')
    (hs : P.underlying s = some .string) (hd : P.underlying d = some .string) (hev : evOp tbl call ρ σ (.cvSS x') = some (out, σ')) : Quiet P o a μ σ w out σ' := by
  have rx := opd_RV hA hx
  simp only [evOp] at hev
  split at hev
  · rename_i l hl
    rw [hl] at rx
    have rx' := rx
    simp only [RV] at rx'
    obtain ⟨z, e, _⟩ := rx'
    refine Quiet.same hR (val_inv hev) rx (.of_value ?_)
    simp [execOp, ho, convert, run_underlying hs, run_underlying hd, e]
  · cases hev

/-! ### Places, parts -/

theorem ev_ptr {x : AO} {b : Pos} {q : Nat} {u : Value} (h : x.ev ρ = .ptr b q) (r : RV μ (x.ev ρ) u) : ∃ p, μ b = some p ∧ u = .pointer (some ⟨p.blk, p.base + q, none⟩) := by
  rw [h] at r; exact r

theorem q_fieldA (hR : Rel μ σ w) (hA : RA μ nt ρ a) {s : TypeId} {fs : Array Field} {fd : Field} {x : Operand} {i n : Nat} {x' : AO} (ho : o.op = .fieldAddr s x i)
    (hx : cOpd x = some x') (hs : P.underlying s = some (.struct fs)) (hf : fs[i]? = some fd) (hn : sizeT P fd.type = some (n + 1))
    (hev : evOp tbl call ρ σ (.fieldA fd.offset x') = some (out, σ')) : Quiet P o a μ σ w out σ' := by
  have rx := opd_RV hA hx
  simp only [evOp, fN_eq] at hev
  split at hev
  · rename_i b q hb
    obtain ⟨p, hp, e⟩ := ev_ptr hb rx
    refine Quiet.same (v' := .pointer (some ⟨p.blk, p.base + (q + fd.offset), none⟩)) hR (val_inv hev) ⟨p, hp, rfl⟩ (.of_value ?_)
    simp [execOp, ho, Instr.fieldAt, run_underlying hs, hf, e, Instr.sureAddr, fieldPlace, run_sizeOf hn, Addr.add_lit, Nat.add_assoc]
  · cases hev

theorem part_spec {t : TypeId} {n : Nat} {g : Bool} (hn : sizeT P t = some n) (hg : isAggT P t = some g) {l : List AV} {vs : Array Value} (r : RVs μ l vs.toList) {off : Nat} :
    (g = true → ∀ m, ltake n (ldrop off l) = some m → ∃ v, (part t vs off).run P w = .ok v w ∧ RV μ (.agg m) v) ∧
    (g = false → ∀ x m, ldrop off l = x :: m → ∃ v, (part t vs off).run P w = .ok v w ∧ RV μ x v) := by
  constructor
  · rintro rfl m hm
    obtain ⟨h1, rfl⟩ := ltake_some hm
    refine ⟨.agg (vs.extract off (off + n)), by simp [part, run_isAgg hg, run_sizeOf hn], _, rfl, ?_⟩
    rw [ldrop_eq] at h1 ⊢
    rw [Array.toList_extract, List.extract_eq_take_drop]
    have := (r.drop off).take n
    rwa [show off + n - off = n by omega]
  · rintro rfl x m hm
    rw [ldrop_eq] at hm
    have hi : l[off]? = some x := by rw [← List.head?_drop, hm]; rfl
    obtain ⟨u, hu, ru⟩ := r.get hi
    have hu' : vs[off]? = some u := by simpa using hu
    exact ⟨u, by simp [part, run_isAgg hg, hu'], ru⟩

theorem q_fieldV (hR : Rel μ σ w) (hA : RA μ nt ρ a) {s : TypeId} {fs : Array Field} {fd : Field} {x : Operand} {i n : Nat} {g : Bool} {x' : AO} (ho : o.op = .field s x i)
    (hx : cOpd x = some x') (hs : P.underlying s = some (.struct fs)) (hf : fs[i]? = some fd) (hn : sizeT P fd.type = some n) (hg : isAggT P fd.type = some g)
    (hev : evOp tbl call ρ σ (.fieldV fd.offset n g x') = some (out, σ')) : Quiet P o a μ σ w out σ' := by
  have rx := opd_RV hA hx
  simp only [evOp] at hev
  split at hev
  · rename_i l hl
    rw [hl] at rx
    simp only [RV] at rx
    obtain ⟨vs, e, rl⟩ := rx
    obtain ⟨h1, h2⟩ := part_spec (P := P) (w := w) hn hg rl (off := fd.offset)
    cases g with
    | true =>
      simp only [cond_true] at hev
      split at hev
      · rename_i m hm
        obtain ⟨v, hv, rv⟩ := h1 rfl m hm
        refine Quiet.same hR (val_inv hev) rv (.of_value ?_)
        simp [execOp, ho, Instr.field, run_underlying hs, hf, e, asAgg, hv]
      · cases hev
    | false =>
      simp only [cond_false] at hev
      split at hev
      · rename_i x m hm
        obtain ⟨v, hv, rv⟩ := h2 rfl x m hm
        refine Quiet.same hR (val_inv hev) rv (.of_value ?_)
        simp [execOp, ho, Instr.field, run_underlying hs, hf, e, asAgg, hv]
      · cases hev
  · cases hev

theorem evIx_some {x : AO} {i : Nat} {u : Value} (h : evIx (x.ev ρ) = some i) (r : RV μ (x.ev ρ) u) : ∃ k, u = .int k i := by
  generalize x.ev ρ = p at h r
  cases p <;> simp only [evIx, reduceCtorEq] at h
  rename_i k n
  cases n <;> simp at h
  subst h
  simp only [RV] at r
  exact ⟨k, r⟩

theorem q_idxA_arr (hR : Rel μ σ w) (hA : RA μ nt ρ a) {t e : TypeId} {n sz : Nat} {x i : Operand} {x' i' : AO} (ho : o.op = .indexAddr t x i) (hx : cOpd x = some x') (hi : cOpd i = some i')
    (ht : P.underlying t = some (.array n e)) (hs : sizeT P e = some sz) (hev : evOp tbl call ρ σ (.idxA (some n) sz x' i') = some (out, σ')) : Quiet P o a μ σ w out σ' := by
  have rx := opd_RV hA hx
  have ri := opd_RV hA hi
  simp only [evOp, fN_eq] at hev
  split at hev
  · rename_i m b q j hm hb hj
    cases hm
    obtain ⟨p, hp, ex⟩ := ev_ptr hb rx
    obtain ⟨k, ei⟩ := evIx_some hj ri
    simp only [cond_eq_ite] at hev
    split at hev
    · rename_i hlt
      have hlt : j < n := by simpa [Nat.blt_eq] using hlt
      refine Quiet.same (v' := .pointer (some ⟨p.blk, p.base + (q + j * sz), none⟩)) hR (val_inv hev) ⟨p, hp, rfl⟩ (.of_value ?_)
      have h0 : (0 : Int) ≤ (j : Int) ∧ (j : Int) < (n : Int) := by omega
      simp [execOp, ho, Instr.indexAt, ei, asIntOf, run_underlying ht, ex, Instr.sureAddr, h0, run_sizeOf hs, Addr.add_lit, Nat.add_assoc]
      try (intro hh; omega)
    · cases hev
  · rename_i hm _ _; cases hm
  · cases hev

theorem q_idxA_slc (hR : Rel μ σ w) (hA : RA μ nt ρ a) {t e : TypeId} {sz : Nat} {x i : Operand} {x' i' : AO} (ho : o.op = .indexAddr t x i) (hx : cOpd x = some x') (hi : cOpd i = some i')
    (ht : P.underlying t = some (.slice e)) (hs : sizeT P e = some sz) (hev : evOp tbl call ρ σ (.idxA none sz x' i') = some (out, σ')) : Quiet P o a μ σ w out σ' := by
  have rx := opd_RV hA hx
  have ri := opd_RV hA hi
  simp only [evOp, fN_eq] at hev
  split at hev
  · rename_i hm _ _; cases hm
  · rename_i m b q len c j hm hb hj
    rw [hb] at rx
    simp only [RV] at rx
    obtain ⟨p, hp, ex⟩ := rx
    obtain ⟨k, ei⟩ := evIx_some hj ri
    simp only [cond_eq_ite] at hev
    split at hev
    · rename_i hlt
      have hlt : j < len := by simpa [Nat.blt_eq] using hlt
      have ex' : ∃ cap, a.eval x = .slice (some ⟨p.blk, p.base + q, none⟩) len cap := by
        cases c with
        | known c => exact ⟨c, ex⟩
        | opn s =>
          obtain ⟨ad, cap, ex, hle, heq, hor⟩ := ex
          rcases hor with rfl | h0
          · exact ⟨cap, ex⟩
          · omega
      obtain ⟨cap, ex'⟩ := ex'
      refine Quiet.same (v' := .pointer (some ⟨p.blk, p.base + (q + j * sz), none⟩)) hR (val_inv hev) ⟨p, hp, rfl⟩ (.of_value ?_)
      have h0 : (0 : Int) ≤ (j : Int) ∧ (j : Int) < (len : Int) := by omega
      simp [execOp, ho, Instr.indexAt, ei, asIntOf, run_underlying ht, ex', h0, run_sizeOf hs, Addr.add_lit, Nat.add_assoc]
      try (intro hh; omega)
    · cases hev
  · cases hev

theorem q_idxV_str (hR : Rel μ σ w) (hA : RA μ nt ρ a) {t : TypeId} {x i : Operand} {x' i' : AO} (ho : o.op = .index t x i) (hx : cOpd x = some x') (hi : cOpd i = some i')
    (ht : P.underlying t = some .string) (hev : evOp tbl call ρ σ (.idxV .str x' i') = some (out, σ')) : Quiet P o a μ σ w out σ' := by
  have rx := opd_RV hA hx
  have ri := opd_RV hA hi
  simp only [evOp] at hev
  split at hev
  · rename_i m l j hm hl hj
    rw [hl] at rx
    simp only [RV] at rx
    obtain ⟨s, ex, rfl⟩ := rx
    obtain ⟨k, ei⟩ := evIx_some hj ri
    rw [ldrop_eq] at hev
    split at hev
    · rename_i n r hn
      have hg : (s.data.toList.map (·.toNat))[j]? = some n := by rw [← List.head?_drop, hn]; rfl
      rw [List.getElem?_map] at hg
      cases hc : s.data.toList[j]? with
      | none => rw [hc] at hg; cases hg
      | some c =>
        rw [hc] at hg
        simp at hg
        subst hg
        have hs : s[j]? = some c := by
          have h1 := (List.getElem?_eq_some_iff.1 hc).1
          have hsz : s.size = s.data.toList.length := by rw [Array.length_toList]; rfl
          have hj' : j < s.size := by omega
          rw [getElem?_pos s j hj']
          congr 1
          have h2 := (List.getElem?_eq_some_iff.1 hc).2
          rw [← h2]
          rfl
        refine Quiet.same (v' := .int .u8 c.toNat) hR (val_inv hev) (by simp [RV]) (.of_value ?_)
        have h0 : (0 : Int) ≤ (j : Int) := by omega
        simp [execOp, ho, Instr.index, ei, asIntOf, run_underlying ht, ex, h0, hs]
        try (intro hh; omega)
    · cases hev
  · rename_i hm _ _; cases hm
  · cases hev

theorem q_idxV_arr (hR : Rel μ σ w) (hA : RA μ nt ρ a) {t e : TypeId} {n sz : Nat} {g : Bool} {x i : Operand} {x' i' : AO} (ho : o.op = .index t x i) (hx : cOpd x = some x')
    (hi : cOpd i = some i') (ht : P.underlying t = some (.array n e)) (hs : sizeT P e = some sz) (hg : isAggT P e = some g)
    (hev : evOp tbl call ρ σ (.idxV (.arr n sz g) x' i') = some (out, σ')) : Quiet P o a μ σ w out σ' := by
  have rx := opd_RV hA hx
  have ri := opd_RV hA hi
  simp only [evOp] at hev
  split at hev
  · rename_i hm _ _; cases hm
  · rename_i m z g' l j hm hl hj
    cases hm
    rw [hl] at rx
    simp only [RV] at rx
    obtain ⟨vs, ex, rl⟩ := rx
    obtain ⟨k, ei⟩ := evIx_some hj ri
    simp only [cond_eq_ite] at hev
    split at hev
    · rename_i hlt
      have hlt : j < n := by simpa [Nat.blt_eq] using hlt
      have h0 : (0 : Int) ≤ (j : Int) ∧ (j : Int) < (n : Int) := by omega
      obtain ⟨h1, h2⟩ := part_spec (P := P) (w := w) hs hg rl (off := j * sz)
      cases g with
      | true =>
        simp only [if_true] at hev
        split at hev
        · rename_i m hm
          obtain ⟨v, hv, rv⟩ := h1 rfl m hm
          refine Quiet.same hR (val_inv hev) rv (.of_value ?_)
          simp [execOp, ho, Instr.index, ei, asIntOf, run_underlying ht, ex, h0, run_sizeOf hs, hv]
          try (intro hh; omega)
        · cases hev
      | false =>
        simp only [Bool.false_eq_true, if_false] at hev
        split at hev
        · rename_i x m hm
          obtain ⟨v, hv, rv⟩ := h2 rfl x m hm
          refine Quiet.same hR (val_inv hev) rv (.of_value ?_)
          simp [execOp, ho, Instr.index, ei, asIntOf, run_underlying ht, ex, h0, run_sizeOf hs, hv]
          try (intro hh; omega)
        · cases hev
    · cases hev
  · cases hev

end
end Go.Proofs.YtgaoddafkjdecaaGreat.EV
