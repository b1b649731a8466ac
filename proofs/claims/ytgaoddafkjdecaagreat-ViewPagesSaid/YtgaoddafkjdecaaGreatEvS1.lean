/-
  EV, part S1: laws of the tries and lists; what it means that abstract values and memory stand for the model's. Own work of this claim.
-/
import Derived.Test.YtgaoddafkjdecaaGreatEvC
import Derived.Test.YtgaoddafkjdecaaGreatEvP
namespace Go.Proofs.YtgaoddafkjdecaaGreat.EV

/-! ### Positions, tries -/

theorem Pos.nat_pos (p : Pos) : 0 < p.nat := by induction p <;> simp [Pos.nat] <;> omega

theorem Pos.nat_inj {p q : Pos} (h : p.nat = q.nat) : p = q := by
  induction p generalizing q with
  | one => cases q with
    | one => rfl
    | o q => simp [Pos.nat] at h; omega
    | i q => simp [Pos.nat] at h; have := q.nat_pos; omega
  | o p ih => cases q with
    | one => simp [Pos.nat] at h; omega
    | o q =>
      have h : 2 * p.nat = 2 * q.nat := by simpa [Pos.nat] using h
      exact congrArg _ (ih (by omega))
    | i q => simp [Pos.nat] at h; omega
  | i p ih => cases q with
    | one => simp [Pos.nat] at h; have := p.nat_pos; omega
    | o q => simp [Pos.nat] at h; omega
    | i q =>
      have h : 2 * p.nat = 2 * q.nat := by simpa [Pos.nat] using h
      exact congrArg _ (ih (by omega))

theorem Pos.nat_succ (p : Pos) : p.succ.nat = p.nat + 1 := by
  induction p with
  | one => rfl
  | o p _ => simp [Pos.succ, Pos.nat]
  | i p ih => simp [Pos.succ, Pos.nat, ih]; omega

theorem tp_nat (n : Nat) : (tp n).nat = n + 1 := by
  induction n with
  | zero => rfl
  | succ n ih => simp [tp, Pos.nat_succ, ih]

theorem tp_inj {m n : Nat} (h : tp m = tp n) : m = n := by
  have := congrArg Pos.nat h
  simp [tp_nat] at this
  exact this

section tries
variable {α β : Type}
@[simp] theorem Tr.get_lf (p : Pos) : (Tr.lf : Tr α).get p = none := by cases p <;> rfl
@[simp] theorem Tr.get_one (v : Option α) (l r : Tr α) : (Tr.nd v l r).get .one = v := rfl
@[simp] theorem Tr.get_o (v : Option α) (l r : Tr α) (p : Pos) : (Tr.nd v l r).get (.o p) = l.get p := rfl
@[simp] theorem Tr.get_i (v : Option α) (l r : Tr α) (p : Pos) : (Tr.nd v l r).get (.i p) = r.get p := rfl
theorem Tr.setK_eq (x : Option α) (p : Pos) : ∀ (t : Tr α) (k : Tr α → β), t.setK x p k = k (t.set x p) := by
  induction p generalizing β with
  | one => intro t k; cases t <;> rfl
  | o p ih =>
    intro t k
    cases t with
    | lf =>
      show Tr.setK x p .lf (fun l => k (.nd none l .lf)) = k (Tr.setK x p .lf (fun l => id (.nd none l .lf)))
      rw [ih, ih]; rfl
    | nd v l r =>
      show Tr.setK x p l (fun l => k (.nd v l r)) = k (Tr.setK x p l (fun l => id (.nd v l r)))
      rw [ih, ih]; rfl
  | i p ih =>
    intro t k
    cases t with
    | lf =>
      show Tr.setK x p .lf (fun r => k (.nd none .lf r)) = k (Tr.setK x p .lf (fun r => id (.nd none .lf r)))
      rw [ih, ih]; rfl
    | nd v l r =>
      show Tr.setK x p r (fun r => k (.nd v l r)) = k (Tr.setK x p r (fun r => id (.nd v l r)))
      rw [ih, ih]; rfl
@[simp] theorem Tr.set_one_lf (x : Option α) : Tr.set x .one .lf = .nd x .lf .lf := rfl
@[simp] theorem Tr.set_one_nd (x v : Option α) (l r : Tr α) : Tr.set x .one (.nd v l r) = .nd x l r := rfl
@[simp] theorem Tr.set_o_lf (x : Option α) (p : Pos) : Tr.set x (.o p) .lf = .nd none (Tr.set x p .lf) .lf := by
  show Tr.setK x p .lf (fun l => id (Tr.nd none l .lf)) = _
  rw [Tr.setK_eq]; rfl
@[simp] theorem Tr.set_o_nd (x v : Option α) (p : Pos) (l r : Tr α) : Tr.set x (.o p) (.nd v l r) = .nd v (Tr.set x p l) r := by
  show Tr.setK x p l (fun l => id (Tr.nd v l r)) = _
  rw [Tr.setK_eq]; rfl
@[simp] theorem Tr.set_i_lf (x : Option α) (p : Pos) : Tr.set x (.i p) .lf = .nd none .lf (Tr.set x p .lf) := by
  show Tr.setK x p .lf (fun r => id (Tr.nd none Tr.lf r)) = _
  rw [Tr.setK_eq]; rfl
@[simp] theorem Tr.set_i_nd (x v : Option α) (p : Pos) (l r : Tr α) : Tr.set x (.i p) (.nd v l r) = .nd v l (Tr.set x p r) := by
  show Tr.setK x p r (fun r => id (Tr.nd v l r)) = _
  rw [Tr.setK_eq]; rfl

theorem Tr.get_set (x : Option α) (p q : Pos) (t : Tr α) : (t.set x p).get q = if q = p then x else t.get q := by
  induction p generalizing q t with
  | one => cases t <;> cases q <;> simp
  | o p ih => cases t <;> cases q <;> simp [ih]
  | i p ih => cases t <;> cases q <;> simp [ih]

theorem Tr.get_set_same (x : Option α) (p : Pos) (t : Tr α) : (t.set x p).get p = x := by simp [Tr.get_set]
theorem Tr.get_set_ne (x : Option α) {p q : Pos} (t : Tr α) (h : q ≠ p) : (t.set x p).get q = t.get q := by simp [Tr.get_set, h]
end tries

@[simp] theorem fN_eq {β : Type} (n : Nat) (k : Nat → β) : fN n k = k n := by cases n <;> rfl
@[simp] theorem fI_eq {β : Type} (x : Int) (k : Int → β) : fI x k = k x := by cases x <;> simp [fI]

/-! ### Lists -/
section lists
variable {α : Type}
theorem ldrop_eq (n : Nat) (l : List α) : ldrop n l = l.drop n := by
  induction n generalizing l with
  | zero => rfl
  | succ n ih => cases l with
    | nil => rfl
    | cons a l => exact ih l

theorem ltake_eq (n : Nat) (l : List α) : ltake n l = if n ≤ l.length then some (l.take n) else none := by
  induction n generalizing l with
  | zero => simp; rfl
  | succ n ih => cases l with
    | nil => simp [ltake]
    | cons a l =>
      have : ltake (n + 1) (a :: l) = Option.rec none (fun r => some (a :: r)) (ltake n l) := rfl
      rw [this, ih]
      by_cases h : n ≤ l.length <;> simp [h]

theorem ltake_some {n : Nat} {l r : List α} (h : ltake n l = some r) : n ≤ l.length ∧ r = l.take n := by
  rw [ltake_eq] at h
  split at h
  · exact ⟨by assumption, by simpa using h.symm⟩
  · simp at h

theorem lover_eq (vs l : List α) : lover vs l = if vs.length ≤ l.length then some (vs ++ l.drop vs.length) else none := by
  induction vs generalizing l with
  | nil => simp [lover]
  | cons v vs ih => cases l with
    | nil => simp [lover]
    | cons a l =>
      have : lover (v :: vs) (a :: l) = Option.rec none (fun r => some (v :: r)) (lover vs l) := rfl
      rw [this, ih]
      by_cases h : vs.length ≤ l.length <;> simp [h]

theorem lput_eq (n : Nat) (vs l : List α) : lput n vs l = if n + vs.length ≤ l.length then some (l.take n ++ (vs ++ l.drop (n + vs.length))) else
    if vs.length = 0 ∧ n ≤ l.length then some l else none := by
  induction n generalizing l with
  | zero =>
    have : lput 0 vs l = lover vs l := rfl
    rw [this, lover_eq]
    by_cases h : vs.length ≤ l.length
    · simp [h]
    · have : vs.length ≠ 0 := by omega
      simp [h, this]
  | succ n ih => cases l with
    | nil => simp [lput]
    | cons a l =>
      have : lput (n + 1) vs (a :: l) = Option.rec none (fun r => some (a :: r)) (lput n vs l) := rfl
      rw [this, ih]
      by_cases h : n + vs.length ≤ l.length
      · have h' : n + 1 + vs.length ≤ l.length + 1 := by omega
        simp only [h, h', if_true, List.length_cons]
        have : n + 1 + vs.length = (n + vs.length) + 1 := by omega
        simp [this]
      · have h' : ¬ n + 1 + vs.length ≤ l.length + 1 := by omega
        simp only [h, h', if_false, List.length_cons]
        by_cases h2 : vs.length = 0 ∧ n ≤ l.length
        · omega
        · have h3 : ¬ (vs.length = 0 ∧ n + 1 ≤ l.length + 1) := by omega
          rw [if_neg h2, if_neg h3]

theorem lput_some {n : Nat} {vs l r : List α} (h : lput n vs l = some r) : n + vs.length ≤ l.length ∧ r = l.take n ++ (vs ++ l.drop (n + vs.length)) := by
  rw [lput_eq] at h
  split at h
  · exact ⟨by assumption, by simpa using h.symm⟩
  · split at h
    · omega
    · simp at h

theorem lput_get {n : Nat} {vs l r : List α} (h : lput n vs l = some r) (j : Nat) :
    r.length = l.length ∧ r[j]? = if n ≤ j ∧ j < n + vs.length then vs[j - n]? else l[j]? := by
  obtain ⟨hl, rfl⟩ := lput_some h
  refine ⟨by simp; omega, ?_⟩
  by_cases h1 : j < n
  · rw [List.getElem?_append_left (by simp; omega), List.getElem?_take_of_lt h1, if_neg (by omega)]
  · rw [List.getElem?_append_right (by simp; omega)]
    have e : j - (List.take n l).length = j - n := by simp; omega
    rw [e]
    by_cases h2 : j < n + vs.length
    · rw [List.getElem?_append_left (by omega), if_pos (by omega)]
    · rw [List.getElem?_append_right (by omega), if_neg (by omega), List.getElem?_drop]
      congr 1
      omega
end lists

/-! ### The relation -/

structure Plc where
  blk : Nat
  base : Nat
  cap : Nat

abbrev Mu := Pos → Option Plc

def Mu.le (μ ν : Mu) : Prop := ∀ b p, μ b = some p → ν b = some p

mutual
def RV (μ : Mu) : AV → Value → Prop
  | .bool b, v => v = .bool b
  | .int k n, v => v = .int k n
  | .flt b, v => v = .float .f64 b
  | .str l, v => ∃ s : ByteArray, v = .string s ∧ s.data.toList.map (·.toNat) = l
  | .nilp, v => v = .pointer none
  | .ptr b o, v => ∃ p, μ b = some p ∧ v = .pointer (some ⟨p.blk, p.base + o, none⟩)
  | .nils, v => v = .slice none 0 0
  | .slc b o len c, v => ∃ p, μ b = some p ∧ match c with
    | .known c => v = .slice (some ⟨p.blk, p.base + o, none⟩) len c
    | .opn sz => ∃ a cap, v = .slice (some a) len cap ∧ len ≤ cap ∧ o + cap * sz = p.cap ∧ (a = ⟨p.blk, p.base + o, none⟩ ∨ cap = 0)
  | .nilm, v => v = .map none
  | .map b, v => ∃ p, μ b = some p ∧ v = .map (some p.blk)
  | .nilf, v => v = .nilFunc
  | .clo f a c, v => ∃ n va vc, tp n = f ∧ v = .func (.func n) va vc ∧ RVs μ a va.toList ∧ RVs μ c vc.toList
  | .nili, v => v = .nilIface
  | .ifc t x, v => ∃ y, v = .iface t y ∧ RV μ x y
  | .agg l, v => ∃ vs, v = .agg vs ∧ RVs μ l vs.toList
  | .tup l, v => ∃ vs, v = .tuple vs ∧ RVs μ l vs.toList
  | .box b, v => ∃ p, μ b = some p ∧ p.base = 0 ∧ v = .pointer (some ⟨p.blk, 0, none⟩)
  | .junk, _ => True
def RVs (μ : Mu) : List AV → List Value → Prop
  | [], vs => vs = []
  | a :: l, vs => ∃ v r, vs = v :: r ∧ RV μ a v ∧ RVs μ l r
end

mutual
theorem RV.mono {μ ν : Mu} (h : μ.le ν) : ∀ (a : AV) (v : Value), RV μ a v → RV ν a v
  | .bool _, _, r | .int _ _, _, r | .flt _, _, r | .str _, _, r | .nilp, _, r | .nils, _, r | .nilm, _, r | .nilf, _, r | .nili, _, r | .junk, _, r => r
  | .ptr _ _, _, r => by
    simp only [RV] at r ⊢
    obtain ⟨p, hp, e⟩ := r
    exact ⟨p, h _ _ hp, e⟩
  | .slc _ _ _ _, _, r => by
    simp only [RV] at r ⊢
    obtain ⟨p, hp, e⟩ := r
    exact ⟨p, h _ _ hp, e⟩
  | .map _, _, r => by
    simp only [RV] at r ⊢
    obtain ⟨p, hp, e⟩ := r
    exact ⟨p, h _ _ hp, e⟩
  | .box _, _, r => by
    simp only [RV] at r ⊢
    obtain ⟨p, hp, e⟩ := r
    exact ⟨p, h _ _ hp, e⟩
  | .clo _ a c, _, r => by
    simp only [RV] at r ⊢
    obtain ⟨n, va, vc, e1, e2, h1, h2⟩ := r
    exact ⟨n, va, vc, e1, e2, RVs.mono h a _ h1, RVs.mono h c _ h2⟩
  | .ifc _ x, _, r => by
    simp only [RV] at r ⊢
    obtain ⟨y, e, h1⟩ := r
    exact ⟨y, e, RV.mono h x _ h1⟩
  | .agg l, _, r => by
    simp only [RV] at r ⊢
    obtain ⟨vs, e, h1⟩ := r
    exact ⟨vs, e, RVs.mono h l _ h1⟩
  | .tup l, _, r => by
    simp only [RV] at r ⊢
    obtain ⟨vs, e, h1⟩ := r
    exact ⟨vs, e, RVs.mono h l _ h1⟩
theorem RVs.mono {μ ν : Mu} (h : μ.le ν) : ∀ (l : List AV) (vs : List Value), RVs μ l vs → RVs ν l vs
  | [], _, r => r
  | a :: l, _, r => by
    simp only [RVs] at r ⊢
    obtain ⟨v, t, e, h1, h2⟩ := r
    exact ⟨v, t, e, RV.mono h a _ h1, RVs.mono h l _ h2⟩
end

theorem RVs.length {μ : Mu} : ∀ {l : List AV} {vs : List Value}, RVs μ l vs → l.length = vs.length
  | [], _, h => by simp [RVs] at h; simp [h]
  | a :: l, _, h => by
    simp only [RVs] at h
    obtain ⟨v, r, rfl, _, h2⟩ := h
    simp [RVs.length h2]

theorem RVs.get {μ : Mu} : ∀ {l : List AV} {vs : List Value}, RVs μ l vs → ∀ {i : Nat} {a : AV}, l[i]? = some a → ∃ v, vs[i]? = some v ∧ RV μ a v
  | [], _, _, i, a, e => by simp at e
  | b :: l, _, h, i, a, e => by
    simp only [RVs] at h
    obtain ⟨v, r, rfl, h1, h2⟩ := h
    cases i with
    | zero => simp at e; subst e; exact ⟨v, by simp, h1⟩
    | succ i => simp at e; obtain ⟨w, hw, hr⟩ := RVs.get h2 e; exact ⟨w, by simpa using hw, hr⟩

theorem RVs.of_get {μ : Mu} : ∀ {l : List AV} {vs : List Value}, l.length = vs.length → (∀ (i : Nat) (a : AV) (v : Value), l[i]? = some a → vs[i]? = some v → RV μ a v) → RVs μ l vs
  | [], vs, e, _ => by cases vs <;> simp_all [RVs]
  | a :: l, vs, e, h => by
    cases vs with
    | nil => simp at e
    | cons v vs =>
      simp only [RVs]
      refine ⟨v, vs, rfl, h 0 a v (by simp) (by simp), RVs.of_get (by simpa using e) fun i b w h1 h2 => h (i + 1) b w (by simpa using h1) (by simpa using h2)⟩

theorem RVs.append {μ : Mu} {l m : List AV} {vs ws : List Value} (h : RVs μ l vs) (k : RVs μ m ws) : RVs μ (l ++ m) (vs ++ ws) := by
  induction l generalizing vs with
  | nil => simp [RVs] at h; subst h; simpa using k
  | cons a l ih =>
    simp only [RVs] at h
    obtain ⟨v, r, rfl, h1, h2⟩ := h
    simp only [List.cons_append, RVs]
    exact ⟨v, _, rfl, h1, ih h2⟩

theorem RVs.take {μ : Mu} {l : List AV} {vs : List Value} (h : RVs μ l vs) (n : Nat) : RVs μ (l.take n) (vs.take n) := by
  induction n generalizing l vs with
  | zero => simp [RVs]
  | succ n ih => cases l with
    | nil => simp [RVs] at h; subst h; simp [RVs]
    | cons a l =>
      simp only [RVs] at h
      obtain ⟨v, r, rfl, h1, h2⟩ := h
      simp only [List.take_succ_cons, RVs]
      exact ⟨v, _, rfl, h1, ih h2⟩

theorem RVs.drop {μ : Mu} {l : List AV} {vs : List Value} (h : RVs μ l vs) (n : Nat) : RVs μ (l.drop n) (vs.drop n) := by
  induction n generalizing l vs with
  | zero => simpa using h
  | succ n ih => cases l with
    | nil => simp [RVs] at h; subst h; simp [RVs]
    | cons a l =>
      simp only [RVs] at h
      obtain ⟨v, r, rfl, h1, h2⟩ := h
      simpa using ih h2

theorem RVs.flat {μ : Mu} {l : List AV} {vs : List Value} (h : RVs μ l vs) (n : Nat) : RVs μ (List.replicate n l).flatten (List.replicate n vs).flatten := by
  induction n with
  | zero => simp [RVs]
  | succ n ih => simp only [List.replicate_succ, List.flatten_cons]; exact h.append ih

/-- what is no aggregate is one cell -/
theorem RV.cells {μ : Mu} {a : AV} {v : Value} (h : RV μ a v) (hk : a.known = true) : RVs μ a.cells v.cells.toList := by
  cases a with
  | agg l => simp only [RV] at h; obtain ⟨vs, rfl, h1⟩ := h; simpa [AV.cells, Value.cells] using h1
  | junk => simp [AV.known] at hk
  | slc b o n c =>
    have h' := h
    simp only [RV] at h
    obtain ⟨p, _, h⟩ := h
    have hv : v.cells.toList = [v] := by
      cases c with
      | known c => simp only at h; subst h; simp [Value.cells]
      | opn c => simp only at h; obtain ⟨a, cap, rfl, _⟩ := h; simp [Value.cells]
    rw [hv]; exact ⟨v, [], rfl, h', rfl⟩
  | _ =>
    have h' := h
    simp only [RV] at h
    have hv : v.cells.toList = [v] := by
      first
        | (subst h; simp [Value.cells]; done)
        | (obtain ⟨_, _, rfl⟩ := h; simp [Value.cells]; done)
        | (obtain ⟨_, _, _, rfl⟩ := h; simp [Value.cells]; done)
        | (obtain ⟨_, rfl, _⟩ := h; simp [Value.cells]; done)
        | (obtain ⟨_, _, _, _, rfl, _⟩ := h; simp [Value.cells]; done)
    rw [hv]
    exact ⟨v, [], rfl, h', rfl⟩

def vOne : Value → Bool
  | .agg _ | .tuple _ => false
  | _ => true

theorem RV.oneCell {μ : Mu} {a : AV} {v : Value} (h : RV μ a v) (ho : a.one = true) : vOne v = true := by
  cases a with
  | agg l => simp [AV.one] at ho
  | tup l => simp [AV.one] at ho
  | junk => simp [AV.one] at ho
  | slc b o n c =>
    simp only [RV] at h
    obtain ⟨p, _, h⟩ := h
    cases c with
    | known c => simp only at h; subst h; rfl
    | opn c => simp only at h; obtain ⟨a, cap, rfl, _⟩ := h; rfl
  | _ =>
    simp only [RV] at h
    first
      | (subst h; rfl)
      | (obtain ⟨_, _, rfl⟩ := h; rfl)
      | (obtain ⟨_, _, _, rfl⟩ := h; rfl)
      | (obtain ⟨_, rfl, _⟩ := h; rfl)
      | (obtain ⟨_, _, _, _, rfl, _⟩ := h; rfl)

theorem okVals_all {l : List AV} (h : okVals l = true) : ∀ a ∈ l, a.one = true := by
  induction l with
  | nil => simp
  | cons a l ih =>
    simp only [okVals, Bool.and_eq_true] at h
    intro b hb
    cases hb with
    | head => exact h.1
    | tail _ hb => exact ih h.2 b hb

theorem RVs.oneCell {μ : Mu} {l : List AV} {vs : List Value} (h : RVs μ l vs) (ho : okVals l = true) : ∀ v ∈ vs, vOne v = true := by
  induction l generalizing vs with
  | nil => simp [RVs] at h; simp [h]
  | cons a l ih =>
    simp only [RVs] at h
    obtain ⟨v, r, rfl, h1, h2⟩ := h
    simp only [okVals, Bool.and_eq_true] at ho
    intro w hw
    cases hw with
    | head => exact h1.oneCell ho.1
    | tail _ hw => exact ih h2 ho.2 w hw

end Go.Proofs.YtgaoddafkjdecaaGreat.EV
