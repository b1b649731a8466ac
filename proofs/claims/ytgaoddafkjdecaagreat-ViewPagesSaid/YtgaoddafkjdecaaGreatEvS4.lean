/-
  EV, part S4: the operations that leave memory alone, one by one. Own work of this claim.
-/
import Derived.Test.YtgaoddafkjdecaaGreatEvS3
import Derived.Laws.Strings
set_option linter.unusedVariables false
set_option linter.unusedSimpArgs false
namespace Go.Proofs.YtgaoddafkjdecaaGreat.EV

section
variable {P : Program} {w : World} {μ : Mu}

/-! ### Numbers, texts -/

theorem bits_int {op : BinOp} {k : IntKind} {a b : Int} {r : AV} (h : evBits op k a b = some r) :
    ∃ v', (Op.intBits op k a b).run P w = .ok v' w ∧ RV μ r v' := by
  unfold evBits at h
  cases op <;> simp only [] at h <;> first
    | (cases h; done)
    | (have := outI_some h; subst this; exact ⟨_, rfl, by simp [RV]⟩)

theorem leqN_iff (a b : List Nat) : leqN a b = true ↔ a = b := by
  induction a generalizing b with
  | nil => cases b <;> simp [leqN]
  | cons x a ih => cases b with
    | nil => simp [leqN]
    | cons y b =>
      simp only [leqN, cond_eq_ite]
      split
      · rename_i h; have := Nat.eq_of_beq_eq_true h; subst this; simp [ih]
      · rename_i h
        have : x ≠ y := fun e => h (by subst e; exact Nat.beq_refl x)
        simp [this]

theorem toNat_map_inj {a b : List UInt8} (h : a.map (·.toNat) = b.map (·.toNat)) : a = b := by
  induction a generalizing b with
  | nil => cases b <;> simp_all
  | cons x a ih => cases b with
    | nil => simp at h
    | cons y b =>
      simp at h
      rw [ih h.2, UInt8.toNat_inj.1 h.1]

theorem leqN_bytes (a b : List UInt8) : leqN (a.map (·.toNat)) (b.map (·.toNat)) = (a == b) := by
  rw [Bool.eq_iff_iff, leqN_iff]
  simp only [beq_iff_eq]
  exact ⟨toNat_map_inj, fun h => by rw [h]⟩

theorem lless_bytes (a b : List UInt8) : lless (a.map (·.toNat)) (b.map (·.toNat)) = Op.bytesLess a b := by
  induction a generalizing b with
  | nil => cases b <;> simp [lless, Op.bytesLess]
  | cons x a ih => cases b with
    | nil => simp [lless, Op.bytesLess]
    | cons y b =>
      simp only [List.map_cons, lless, Op.bytesLess, cond_eq_ite, ih]
      by_cases h1 : x.toNat < y.toNat
      · have : (x < y) := UInt8.lt_iff_toNat_lt.2 h1
        simp [Nat.blt_eq, h1, this]
      · have h1' : ¬ (x < y) := fun h => h1 (UInt8.lt_iff_toNat_lt.1 h)
        by_cases h2 : x = y
        · subst h2; simp [Nat.blt_eq]
        · have h2' : x.toNat ≠ y.toNat := fun h => h2 (UInt8.toNat_inj.1 h)
          have h3 : Nat.blt x.toNat y.toNat = false := by rw [Bool.eq_false_iff]; simpa [Nat.blt_eq] using h1
          have h4 : Nat.beq x.toNat y.toNat = false := by rw [Bool.eq_false_iff]; intro h; exact h2' (Nat.eq_of_beq_eq_true h)
          simp [h3, h4, h1', h2]

theorem bytes_toList (s : ByteArray) : s.toList = s.data.toList := ByteArray.toList_eq s

theorem bin_str {op : BinOp} {x y : List Nat} {r : AV} (h : evBin op (.str x) (.str y) = some r) {v u : Value} (hx : RV μ (.str x) v) (hy : RV μ (.str y) u) (t : TypeId) :
    ∃ v', (binOp op t v u).run P w = .ok v' w ∧ RV μ r v' := by
  obtain ⟨s, rfl, rfl⟩ := hx
  obtain ⟨z, rfl, rfl⟩ := hy
  have e : binOp op t (.string s) (.string z) = Op.stringOp op s z := by cases op <;> rfl
  rw [e]
  unfold Op.stringOp
  simp only [bytes_toList]
  cases op <;> simp only [evBin, leqN_bytes, lless_bytes, Option.some.injEq, reduceCtorEq] at h
  case add =>
    simp only [cond_eq_ite] at h
    split at h
    · rename_i hs
      have hs := Nat.le_of_ble_eq_true hs
      simp at h
      subst h
      have hs' : ¬ ((s.size + z.size : Nat) : Int) > IntKind.i64.max := by
        rw [IntKind.max_i64]
        have h1 : s.size = s.data.toList.length := by rw [Array.length_toList]; rfl
        have h2 : z.size = z.data.toList.length := by rw [Array.length_toList]; rfl
        rw [List.length_map, List.length_map] at hs
        omega
      rw [if_neg hs']
      refine ⟨_, rfl, s ++ z, rfl, ?_⟩
      simp [ByteArray.data_append]
    · cases h
  all_goals
    subst h
    exact ⟨_, rfl, by simp [RV]⟩

theorem bin_flt {op : BinOp} {x y : Nat} {r : AV} (h : evBin op (.flt x) (.flt y) = some r) (t : TypeId) :
    ∃ v', (binOp op t (.float .f64 x) (.float .f64 y)).run P w = .ok v' w ∧ RV μ r v' := by
  cases op <;> simp only [evBin, Option.some.injEq, reduceCtorEq] at h
  all_goals
    subst h
    exact ⟨_, by simp [binOp, Op.floatCmp]; rfl, by simp [RV]⟩

theorem bin_int {op : BinOp} {k j : IntKind} {a b : Int} {r : AV} (h : evBin op (.int k a) (.int j b) = some r) (t : TypeId) :
    ∃ v', (binOp op t (.int k a) (.int j b)).run P w = .ok v' w ∧ RV μ r v' := by
  have hkj : ∀ {x : Option AV}, (bif k == j then x else none) = some r → k = j ∧ x = some r := by
    intro x hx
    cases hk : (k == j) with
    | false => rw [hk] at hx; cases hx
    | true => rw [hk] at hx; exact ⟨eq_of_beq hk, hx⟩
  cases op <;> simp only [evBin] at h
  case shl =>
    split at h
    · rename_i n
      simp only [cond_eq_ite] at h
      split at h
      · rename_i hn
        have hn := Nat.le_of_ble_eq_true hn
        have := outI_some h
        subst this
        refine ⟨_, ?_, by rw [RV]⟩
        have h1 : ¬ ((Int.ofNat n) < 0) := by simp
        simp only [binOp, Op.shift, h1, if_false]
        have h2 : min (Int.ofNat n).toNat k.bits = n := by simp; omega
        rw [h2, wrF_eq]
        simp
      · cases h
    · cases h
  case shr =>
    split at h
    · rename_i m n
      simp only [cond_eq_ite] at h
      split at h
      · rename_i hn
        have hn := Nat.le_of_ble_eq_true hn
        have := outI_some h
        subst this
        refine ⟨_, ?_, by rw [RV]⟩
        have h1 : ¬ ((Int.ofNat n) < 0) := by simp
        simp only [binOp, Op.shift, h1, if_false]
        have h2 : min (Int.ofNat n).toNat k.bits = n := by simp; omega
        rw [h2]
        have h3 : (Int.ofNat m).fdiv (2 ^ n) = Int.ofNat (m / 2 ^ n) := by
          rw [Int.fdiv_eq_ediv_of_nonneg _ (by exact Int.pow_nonneg (by decide))]
          simp
        rw [h3]
        rfl
      · cases h
    · cases h
  case quo =>
    split at h
    · rename_i m n
      obtain ⟨rfl, h'⟩ := hkj h
      clear h
      have h := h'
      clear h'
      have := outI_some h
      subst this
      refine ⟨_, ?_, by rw [RV]⟩
      have h1 : ¬ (Int.ofNat (n + 1) = 0) := by simp; omega
      simp only [binOp, ne_eq, not_true_eq_false, if_false, Op.intDiv, h1, wrF_eq]
      rfl
    · cases h
  case rem =>
    split at h
    · rename_i m n
      obtain ⟨rfl, h'⟩ := hkj h
      clear h
      have h := h'
      clear h'
      have := outI_some h
      subst this
      refine ⟨_, ?_, by rw [RV]⟩
      have h1 : ¬ (Int.ofNat (n + 1) = 0) := by simp; omega
      simp only [binOp, ne_eq, not_true_eq_false, if_false, Op.intDiv, h1]
      rfl
    · cases h
  case and | or | xor | andNot =>
    obtain ⟨rfl, h'⟩ := hkj h
    clear h
    have h := h'
    clear h'
    simp only [binOp, ne_eq, not_true_eq_false, if_false]
    exact bits_int h
  case add | sub | mul =>
    obtain ⟨rfl, h'⟩ := hkj h
    clear h
    have h := h'
    clear h'
    have := outI_some h
    subst this
    refine ⟨_, ?_, by rw [RV]⟩
    simp only [binOp, ne_eq, not_true_eq_false, if_false, Op.intArith, wrF_eq]
    rfl
  all_goals
    obtain ⟨rfl, h'⟩ := hkj h
    clear h
    have h := h'
    clear h'
    simp only [Option.some.injEq] at h
    subst h
    refine ⟨_, ?_, by rw [RV]⟩
    simp only [binOp, ne_eq, not_true_eq_false, if_false, Op.intCmp, ilt_eq, ieq_eq]
    first
      | rfl
      | (simp only [bne, ge_iff_le, gt_iff_lt]; rfl)
      | (rw [Sem.run_pure]
         congr 2
         rw [Bool.eq_iff_iff]
         simp)

theorem not_iface_guard {op : BinOp} {t : TypeId} {x y : Operand} {v u : Value} (h1 : v ≠ .nilIface) (h2 : ∀ l, v ≠ .agg l) : eqGuard op t x y v u = pure () := by
  cases v <;> first
    | (exact absurd rfl h1)
    | (exact absurd rfl (h2 _))
    | (cases op <;> rfl)

/-- '==' at what holds no interface value of two kinds -/
def eqlNow : TypeDesc → Value → Value → Option Bool
  | .bool, .bool a, .bool b => some (a == b)
  | .pointer _, .pointer none, .pointer none => some true
  | .pointer _, .pointer none, .pointer (some _) => some false
  | .pointer _, .pointer (some _), .pointer none => some false
  | .slice _, .slice none _ _, .slice none _ _ => some true
  | .slice _, .slice none _ _, .slice (some _) _ _ => some false
  | .slice _, .slice (some _) _ _, .slice none _ _ => some false
  | .map _ _, .map none, .map none => some true
  | .map _ _, .map none, .map (some _) => some false
  | .map _ _, .map (some _), .map none => some false
  | .func _ _ _, .nilFunc, .nilFunc => some true
  | .func _ _ _, .nilFunc, .func _ _ _ => some false
  | .func _ _ _, .func _ _ _, .nilFunc => some false
  | .interface _, .nilIface, .nilIface => some true
  | .interface _, .nilIface, .iface _ _ => some false
  | .interface _, .iface _ _, .nilIface => some false
  | _, _, _ => none

theorem equal_now {t : TypeId} {d : TypeDesc} (hu : P.underlying t = some d) {v u : Value} {b : Bool} (h : eqlNow d v u = some b) :
    (Op.equal t v u).run P w = .ok b w := by
  obtain ⟨n, hn⟩ : ∃ n, Op.maxDepth = n + 1 := ⟨9999, rfl⟩
  unfold Op.equal
  rw [hn]
  simp only [Op.equalIn, Sem.run_bind, run_underlying hu, Result.andThen_ok]
  unfold eqlNow at h
  split at h <;> first
    | (cases h; done)
    | (simp only [Option.some.injEq] at h; subst h; rfl)

/-- '==' and '!=' against nil, and of bools -/
theorem eq_spec {k : EK} {t : TypeId} {x y : Operand} (hk : eqKind P t x y = some k) {p q : AV} {b : Bool} (h : evEq k p q = some b) {v u : Value}
    (hp : RV μ p v) (hq : RV μ q u) : ((do eqGuard .eql t x y v u; binOp .eql t v u).run P w = .ok (.bool b) w) ∧
      ((do eqGuard .neq t x y v u; binOp .neq t v u).run P w = .ok (.bool !b) w) := by
  unfold eqKind at hk
  cases hu : P.underlying t with
  | none => rw [hu] at hk; cases hk
  | some d =>
    rw [hu] at hk
    have fin : ∀ {c : Bool}, eqGuard .eql t x y v u = pure () → eqGuard .neq t x y v u = pure () → binOp .eql t v u = (do pure (.bool (← Op.equal t v u))) →
        binOp .neq t v u = (do pure (.bool (!(← Op.equal t v u)))) → (Op.equal t v u).run P w = .ok c w →
        ((do eqGuard .eql t x y v u; binOp .eql t v u).run P w = .ok (.bool c) w) ∧ ((do eqGuard .neq t x y v u; binOp .neq t v u).run P w = .ok (.bool !c) w) := by
      intro c g1 g2 b1 b2 e
      rw [g1, g2, b1, b2]
      simp [e]
    cases d <;> simp only [] at hk <;> (try (cases hk; done))
    case interface ml =>
      have hkk : k = .iface ∧ ((∃ c, x = .const c) ∨ ∃ c, y = .const c) := by
        split at hk
        · cases hk; exact ⟨rfl, .inl ⟨_, rfl⟩⟩
        · cases hk; exact ⟨rfl, .inr ⟨_, rfl⟩⟩
        · cases hk
      obtain ⟨rfl, hxy⟩ := hkk
      cases p <;> cases q <;> simp only [evEq, Option.some.injEq, reduceCtorEq] at h <;> subst h <;> simp only [RV] at hp hq
      · subst hp; subst hq
        have g : ∀ op, eqGuard op t x y .nilIface .nilIface = pure () := by
          intro op
          rcases hxy with ⟨c, rfl⟩ | ⟨c, rfl⟩
          · exact eqGuard_nil_constL _ _ _ _
          · exact eqGuard_nil_constR _ _ _ _
        exact fin (g _) (g _) rfl rfl (equal_now hu rfl)
      · subst hp; obtain ⟨z, rfl, _⟩ := hq
        exact fin rfl rfl rfl rfl (equal_now hu rfl)
      · obtain ⟨z, rfl, _⟩ := hp; subst hq
        exact fin rfl rfl rfl rfl (equal_now hu rfl)
    all_goals
      cases hk
      cases p <;> cases q <;> simp only [evEq, Option.some.injEq, reduceCtorEq] at h <;> subst h <;> simp only [RV] at hp hq
    case bool.refl.bool.bool => subst hp; subst hq; exact fin rfl rfl rfl rfl (equal_now hu rfl)
    case pointer.refl.nilp.nilp => subst hp; subst hq; exact fin rfl rfl rfl rfl (equal_now hu rfl)
    case pointer.refl.nilp.ptr => subst hp; obtain ⟨_, _, rfl⟩ := hq; exact fin rfl rfl rfl rfl (equal_now hu rfl)
    case pointer.refl.ptr.nilp => obtain ⟨_, _, rfl⟩ := hp; subst hq; exact fin rfl rfl rfl rfl (equal_now hu rfl)
    case slice.refl.nils.nils => subst hp; subst hq; exact fin rfl rfl rfl rfl (equal_now hu rfl)
    case slice.refl.nils.slc =>
      subst hp
      obtain ⟨_, _, hq⟩ := hq
      have : ∃ a n c, u = .slice (some a) n c := by split at hq <;> first | exact ⟨_, _, _, hq⟩ | (obtain ⟨a, c, rfl, _⟩ := hq; exact ⟨_, _, _, rfl⟩)
      obtain ⟨_, _, _, rfl⟩ := this
      exact fin rfl rfl rfl rfl (equal_now hu rfl)
    case slice.refl.slc.nils =>
      subst hq
      obtain ⟨_, _, hp⟩ := hp
      have : ∃ a n c, v = .slice (some a) n c := by split at hp <;> first | exact ⟨_, _, _, hp⟩ | (obtain ⟨a, c, rfl, _⟩ := hp; exact ⟨_, _, _, rfl⟩)
      obtain ⟨_, _, _, rfl⟩ := this
      exact fin rfl rfl rfl rfl (equal_now hu rfl)
    case map.refl.nilm.nilm => subst hp; subst hq; exact fin rfl rfl rfl rfl (equal_now hu rfl)
    case map.refl.nilm.map => subst hp; obtain ⟨_, _, rfl⟩ := hq; exact fin rfl rfl rfl rfl (equal_now hu rfl)
    case map.refl.map.nilm => obtain ⟨_, _, rfl⟩ := hp; subst hq; exact fin rfl rfl rfl rfl (equal_now hu rfl)
    case func.refl.nilf.nilf => subst hp; subst hq; exact fin rfl rfl rfl rfl (equal_now hu rfl)
    case func.refl.nilf.clo => subst hp; obtain ⟨_, _, _, _, rfl, _⟩ := hq; exact fin rfl rfl rfl rfl (equal_now hu rfl)
    case func.refl.clo.nilf => obtain ⟨_, _, _, _, rfl, _⟩ := hp; subst hq; exact fin rfl rfl rfl rfl (equal_now hu rfl)

theorem un_spec {op : UnOp} {x r : AV} (h : evUn op x = some r) {v : Value} (hx : RV μ x v) : ∃ v', (Op.unary op v).run P w = .ok v' w ∧ RV μ r v' := by
  cases op <;> cases x <;> simp only [evUn, Option.some.injEq, reduceCtorEq] at h <;> simp only [RV] at hx
  case not.bool => subst h; subst hx; exact ⟨_, rfl, by simp [RV]⟩
  case neg.int =>
    subst hx
    have := outI_some h
    subst this
    exact ⟨_, rfl, by simp [RV, wrF_eq]⟩
  case xor.int =>
    subst hx
    exact bits_int h
  case neg.flt => subst h; subst hx; exact ⟨_, rfl, by simp [RV]⟩

end
end Go.Proofs.YtgaoddafkjdecaaGreat.EV
