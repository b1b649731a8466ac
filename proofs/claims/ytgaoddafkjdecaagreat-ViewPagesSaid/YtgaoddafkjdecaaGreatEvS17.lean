/-
  EV, part S17: what an operation looks at; operations without effect at another memory. Own work of this claim.
-/
import Derived.Test.YtgaoddafkjdecaaGreatEvS16
set_option linter.unusedVariables false
set_option linter.unusedSimpArgs false
namespace Go.Proofs.YtgaoddafkjdecaaGreat.EV

def AO.uses : AO → List Pos
  | .tmp p => [p]
  | .const _ => []

def usesL : List AO → List Pos
  | [] => []
  | x :: l => x.uses ++ usesL l

def usesO : Option AO → List Pos
  | none => []
  | some x => x.uses

def usesP : List (Nat × Nat × AO) → List Pos
  | [] => []
  | (_, _, x) :: l => x.uses ++ usesP l

def AOp.uses : AOp → List Pos
  | .mv x => x.uses
  | .pick c a b => c.uses ++ a.uses ++ b.uses
  | .alloc _ => []
  | .box _ x => x.uses
  | .build _ ps => usesP ps
  | .bslice _ _ ps => usesP ps
  | .load1 a => a.uses
  | .loadN _ a => a.uses
  | .store _ a x => a.uses ++ x.uses
  | .nilck x => x.uses
  | .bin _ x y => x.uses ++ y.uses
  | .eq _ _ x y => x.uses ++ y.uses
  | .un _ x => x.uses
  | .cvII _ x => x.uses
  | .cvIF x => x.uses
  | .cvSB x => x.uses
  | .cvBS x => x.uses
  | .cvBB x => x.uses
  | .cvSS x => x.uses
  | .mkI _ x => x.uses
  | .mkF _ fs cs => usesL fs ++ usesL cs
  | .mkMap => []
  | .mkSlice _ _ _ l c => l.uses ++ c.uses
  | .slice _ x lo hi mx => x.uses ++ usesO lo ++ usesO hi ++ usesO mx
  | .fieldA _ x => x.uses
  | .fieldV _ _ _ x => x.uses
  | .idxA _ _ x i => x.uses ++ i.uses
  | .idxV _ x i => x.uses ++ i.uses
  | .lookup _ _ _ x i _ => x.uses ++ i.uses
  | .mapUpd _ _ m key v => m.uses ++ key.uses ++ v.uses
  | .extract t _ => t.uses
  | .callF _ as => usesL as
  | .callV x as => x.uses ++ usesL as
  | .callI r _ as => r.uses ++ usesL as
  | .append _ _ x y => x.uses ++ y.uses
  | .appendZ _ _ _ x n => x.uses ++ n.uses
  | .copy _ x y => x.uses ++ y.uses
  | .clearS _ _ x => x.uses
  | .len _ x => x.uses
  | .cap x => x.uses
  | .min x y => x.uses ++ y.uses
  | .max x y => x.uses ++ y.uses
  | .delete _ _ m key => m.uses ++ key.uses
  | .panic x => x.uses
  | .fbits x => x.uses
  | .ffrom x => x.uses

section
variable {tbl : Disp} {call : Call} {ρ ρ' : Env} {σ σ' τ : AH} {out : Out}

theorem ev_congr {x : AO} (h : ∀ p ∈ x.uses, ρ.get p = ρ'.get p) : x.ev ρ = x.ev ρ' := by
  cases x with
  | tmp p => rw [AO.ev_tmp, AO.ev_tmp, h p (by simp [AO.uses])]
  | const v => rfl

theorem evs_congr : ∀ {l : List AO}, (∀ p ∈ usesL l, ρ.get p = ρ'.get p) → AO.evs ρ l = AO.evs ρ' l
  | [], _ => rfl
  | x :: l, h => by
    simp only [AO.evs]
    rw [ev_congr (x := x) fun p hp => h p (by simp [usesL, hp]), evs_congr (l := l) fun p hp => h p (by simp [usesL, hp])]

theorem evParts_congr : ∀ {l : List (Nat × Nat × AO)}, (∀ p ∈ usesP l, ρ.get p = ρ'.get p) → evParts ρ l = evParts ρ' l
  | [], _ => rfl
  | (o, n, x) :: l, h => by
    simp only [evParts]
    rw [ev_congr (x := x) fun p hp => h p (by simp [usesP, hp]), evParts_congr (l := l) fun p hp => h p (by simp [usesP, hp])]

theorem evBd_congr {d : Nat} {x : Option AO} (h : ∀ p ∈ usesO x, ρ.get p = ρ'.get p) : evBd ρ d x = evBd ρ' d x := by
  cases x with
  | none => rfl
  | some x => simp only [evBd]; rw [ev_congr h]

theorem evSlice_congr {k : SK} {x : AO} {lo hi mx : Option AO} (hx : x.ev ρ = x.ev ρ') (hl : ∀ d, evBd ρ d lo = evBd ρ' d lo) (hh : ∀ d, evBd ρ d hi = evBd ρ' d hi)
    (hm : ∀ d, evBd ρ d mx = evBd ρ' d mx) : evSlice ρ k x lo hi mx σ = evSlice ρ' k x lo hi mx σ := by
  have hm' : ∀ y, mx = some y → evIx (y.ev ρ) = evIx (y.ev ρ') := by
    intro y e
    subst e
    exact hm 0
  unfold evSlice
  rw [hx]
  cases mx with
  | none => simp only [hl, hh, hm]
  | some y => simp only [hl, hh, hm, hm' y rfl]

theorem evOp_congr {op : AOp} (h : ∀ p ∈ op.uses, ρ.get p = ρ'.get p) : evOp tbl call ρ σ op = evOp tbl call ρ' σ op := by
  cases op with
  | mv x =>
    have e0 := ev_congr (ρ := ρ) (ρ' := ρ') (x := x) fun p hp => h p (by simp [AOp.uses, hp])
    simp only [evOp, e0]
  | pick c a b =>
    have e0 := ev_congr (ρ := ρ) (ρ' := ρ') (x := c) fun p hp => h p (by simp [AOp.uses, hp])
    have e1 := ev_congr (ρ := ρ) (ρ' := ρ') (x := a) fun p hp => h p (by simp [AOp.uses, hp])
    have e2 := ev_congr (ρ := ρ) (ρ' := ρ') (x := b) fun p hp => h p (by simp [AOp.uses, hp])
    simp only [evOp, e0, e1, e2]
  | alloc z => rfl
  | box n x =>
    have e0 := ev_congr (ρ := ρ) (ρ' := ρ') (x := x) fun p hp => h p (by simp [AOp.uses, hp])
    simp only [evOp, e0]
  | build z ps =>
    have e0 := evParts_congr (ρ := ρ) (ρ' := ρ') (l := ps) fun p hp => h p (by simp [AOp.uses, hp])
    simp only [evOp, e0]
  | bslice n z ps =>
    have e0 := evParts_congr (ρ := ρ) (ρ' := ρ') (l := ps) fun p hp => h p (by simp [AOp.uses, hp])
    simp only [evOp, e0]
  | load1 a =>
    have e0 := ev_congr (ρ := ρ) (ρ' := ρ') (x := a) fun p hp => h p (by simp [AOp.uses, hp])
    simp only [evOp, e0]
  | loadN n a =>
    have e0 := ev_congr (ρ := ρ) (ρ' := ρ') (x := a) fun p hp => h p (by simp [AOp.uses, hp])
    simp only [evOp, e0]
  | store n a x =>
    have e0 := ev_congr (ρ := ρ) (ρ' := ρ') (x := a) fun p hp => h p (by simp [AOp.uses, hp])
    have e1 := ev_congr (ρ := ρ) (ρ' := ρ') (x := x) fun p hp => h p (by simp [AOp.uses, hp])
    simp only [evOp, e0, e1]
  | nilck x =>
    have e0 := ev_congr (ρ := ρ) (ρ' := ρ') (x := x) fun p hp => h p (by simp [AOp.uses, hp])
    simp only [evOp, e0]
  | bin op x y =>
    have e0 := ev_congr (ρ := ρ) (ρ' := ρ') (x := x) fun p hp => h p (by simp [AOp.uses, hp])
    have e1 := ev_congr (ρ := ρ) (ρ' := ρ') (x := y) fun p hp => h p (by simp [AOp.uses, hp])
    simp only [evOp, e0, e1]
  | eq ng k x y =>
    have e0 := ev_congr (ρ := ρ) (ρ' := ρ') (x := x) fun p hp => h p (by simp [AOp.uses, hp])
    have e1 := ev_congr (ρ := ρ) (ρ' := ρ') (x := y) fun p hp => h p (by simp [AOp.uses, hp])
    simp only [evOp, e0, e1]
  | un op x =>
    have e0 := ev_congr (ρ := ρ) (ρ' := ρ') (x := x) fun p hp => h p (by simp [AOp.uses, hp])
    simp only [evOp, e0]
  | cvII k x =>
    have e0 := ev_congr (ρ := ρ) (ρ' := ρ') (x := x) fun p hp => h p (by simp [AOp.uses, hp])
    simp only [evOp, e0]
  | cvIF x =>
    have e0 := ev_congr (ρ := ρ) (ρ' := ρ') (x := x) fun p hp => h p (by simp [AOp.uses, hp])
    simp only [evOp, e0]
  | cvSB x =>
    have e0 := ev_congr (ρ := ρ) (ρ' := ρ') (x := x) fun p hp => h p (by simp [AOp.uses, hp])
    simp only [evOp, e0]
  | cvBS x =>
    have e0 := ev_congr (ρ := ρ) (ρ' := ρ') (x := x) fun p hp => h p (by simp [AOp.uses, hp])
    simp only [evOp, e0]
  | cvBB x =>
    have e0 := ev_congr (ρ := ρ) (ρ' := ρ') (x := x) fun p hp => h p (by simp [AOp.uses, hp])
    simp only [evOp, e0]
  | cvSS x =>
    have e0 := ev_congr (ρ := ρ) (ρ' := ρ') (x := x) fun p hp => h p (by simp [AOp.uses, hp])
    simp only [evOp, e0]
  | mkI t x =>
    have e0 := ev_congr (ρ := ρ) (ρ' := ρ') (x := x) fun p hp => h p (by simp [AOp.uses, hp])
    simp only [evOp, e0]
  | mkF f fs cs =>
    have e0 := evs_congr (ρ := ρ) (ρ' := ρ') (l := fs) fun p hp => h p (by simp [AOp.uses, hp])
    have e1 := evs_congr (ρ := ρ) (ρ' := ρ') (l := cs) fun p hp => h p (by simp [AOp.uses, hp])
    simp only [evOp, e0, e1]
  | mkMap => rfl
  | mkSlice sz bs z l c =>
    have e0 := ev_congr (ρ := ρ) (ρ' := ρ') (x := l) fun p hp => h p (by simp [AOp.uses, hp])
    have e1 := ev_congr (ρ := ρ) (ρ' := ρ') (x := c) fun p hp => h p (by simp [AOp.uses, hp])
    simp only [evOp, e0, e1]
  | slice k x lo hi mx =>
    have e0 := ev_congr (ρ := ρ) (ρ' := ρ') (x := x) fun p hp => h p (by simp [AOp.uses, hp])
    have e1 : ∀ d, evBd ρ d lo = evBd ρ' d lo := fun d => evBd_congr fun p hp => h p (by simp [AOp.uses, hp])
    have e2 : ∀ d, evBd ρ d hi = evBd ρ' d hi := fun d => evBd_congr fun p hp => h p (by simp [AOp.uses, hp])
    have e3 : ∀ d, evBd ρ d mx = evBd ρ' d mx := fun d => evBd_congr fun p hp => h p (by simp [AOp.uses, hp])
    exact evSlice_congr e0 e1 e2 e3
  | fieldA off x =>
    have e0 := ev_congr (ρ := ρ) (ρ' := ρ') (x := x) fun p hp => h p (by simp [AOp.uses, hp])
    simp only [evOp, e0]
  | fieldV off n g x =>
    have e0 := ev_congr (ρ := ρ) (ρ' := ρ') (x := x) fun p hp => h p (by simp [AOp.uses, hp])
    simp only [evOp, e0]
  | idxA n sz x i =>
    have e0 := ev_congr (ρ := ρ) (ρ' := ρ') (x := x) fun p hp => h p (by simp [AOp.uses, hp])
    have e1 := ev_congr (ρ := ρ) (ρ' := ρ') (x := i) fun p hp => h p (by simp [AOp.uses, hp])
    simp only [evOp, e0, e1]
  | idxV k x i =>
    have e0 := ev_congr (ρ := ρ) (ρ' := ρ') (x := x) fun p hp => h p (by simp [AOp.uses, hp])
    have e1 := ev_congr (ρ := ρ) (ρ' := ρ') (x := i) fun p hp => h p (by simp [AOp.uses, hp])
    simp only [evOp, e0, e1]
  | lookup s k z x i ok =>
    have e0 := ev_congr (ρ := ρ) (ρ' := ρ') (x := x) fun p hp => h p (by simp [AOp.uses, hp])
    have e1 := ev_congr (ρ := ρ) (ρ' := ρ') (x := i) fun p hp => h p (by simp [AOp.uses, hp])
    simp only [evOp, e0, e1]
  | mapUpd s k m key v =>
    have e0 := ev_congr (ρ := ρ) (ρ' := ρ') (x := m) fun p hp => h p (by simp [AOp.uses, hp])
    have e1 := ev_congr (ρ := ρ) (ρ' := ρ') (x := key) fun p hp => h p (by simp [AOp.uses, hp])
    have e2 := ev_congr (ρ := ρ) (ρ' := ρ') (x := v) fun p hp => h p (by simp [AOp.uses, hp])
    simp only [evOp, e0, e1, e2]
  | extract t i =>
    have e0 := ev_congr (ρ := ρ) (ρ' := ρ') (x := t) fun p hp => h p (by simp [AOp.uses, hp])
    simp only [evOp, e0]
  | callF f as =>
    have e0 := evs_congr (ρ := ρ) (ρ' := ρ') (l := as) fun p hp => h p (by simp [AOp.uses, hp])
    simp only [evOp, e0]
  | callV x as =>
    have e0 := ev_congr (ρ := ρ) (ρ' := ρ') (x := x) fun p hp => h p (by simp [AOp.uses, hp])
    have e1 := evs_congr (ρ := ρ) (ρ' := ρ') (l := as) fun p hp => h p (by simp [AOp.uses, hp])
    simp only [evOp, e0, e1]
  | callI r n as =>
    have e0 := ev_congr (ρ := ρ) (ρ' := ρ') (x := r) fun p hp => h p (by simp [AOp.uses, hp])
    have e1 := evs_congr (ρ := ρ) (ρ' := ρ') (l := as) fun p hp => h p (by simp [AOp.uses, hp])
    simp only [evOp, e0, e1]
  | append sz bs x y =>
    have e0 := ev_congr (ρ := ρ) (ρ' := ρ') (x := x) fun p hp => h p (by simp [AOp.uses, hp])
    have e1 := ev_congr (ρ := ρ) (ρ' := ρ') (x := y) fun p hp => h p (by simp [AOp.uses, hp])
    simp only [evOp, e0, e1]
  | appendZ sz bs z x n =>
    have e0 := ev_congr (ρ := ρ) (ρ' := ρ') (x := x) fun p hp => h p (by simp [AOp.uses, hp])
    have e1 := ev_congr (ρ := ρ) (ρ' := ρ') (x := n) fun p hp => h p (by simp [AOp.uses, hp])
    simp only [evOp, e0, e1]
  | copy sz x y =>
    have e0 := ev_congr (ρ := ρ) (ρ' := ρ') (x := x) fun p hp => h p (by simp [AOp.uses, hp])
    have e1 := ev_congr (ρ := ρ) (ρ' := ρ') (x := y) fun p hp => h p (by simp [AOp.uses, hp])
    simp only [evOp, e0, e1]
  | clearS sz z x =>
    have e0 := ev_congr (ρ := ρ) (ρ' := ρ') (x := x) fun p hp => h p (by simp [AOp.uses, hp])
    simp only [evOp, e0]
  | len k x =>
    have e0 := ev_congr (ρ := ρ) (ρ' := ρ') (x := x) fun p hp => h p (by simp [AOp.uses, hp])
    simp only [evOp, e0]
  | cap x =>
    have e0 := ev_congr (ρ := ρ) (ρ' := ρ') (x := x) fun p hp => h p (by simp [AOp.uses, hp])
    simp only [evOp, e0]
  | min x y =>
    have e0 := ev_congr (ρ := ρ) (ρ' := ρ') (x := x) fun p hp => h p (by simp [AOp.uses, hp])
    have e1 := ev_congr (ρ := ρ) (ρ' := ρ') (x := y) fun p hp => h p (by simp [AOp.uses, hp])
    simp only [evOp, e0, e1]
  | max x y =>
    have e0 := ev_congr (ρ := ρ) (ρ' := ρ') (x := x) fun p hp => h p (by simp [AOp.uses, hp])
    have e1 := ev_congr (ρ := ρ) (ρ' := ρ') (x := y) fun p hp => h p (by simp [AOp.uses, hp])
    simp only [evOp, e0, e1]
  | delete s k m key =>
    have e0 := ev_congr (ρ := ρ) (ρ' := ρ') (x := m) fun p hp => h p (by simp [AOp.uses, hp])
    have e1 := ev_congr (ρ := ρ) (ρ' := ρ') (x := key) fun p hp => h p (by simp [AOp.uses, hp])
    simp only [evOp, e0, e1]
  | panic x =>
    have e0 := ev_congr (ρ := ρ) (ρ' := ρ') (x := x) fun p hp => h p (by simp [AOp.uses, hp])
    simp only [evOp, e0]
  | fbits x =>
    have e0 := ev_congr (ρ := ρ) (ρ' := ρ') (x := x) fun p hp => h p (by simp [AOp.uses, hp])
    simp only [evOp, e0]
  | ffrom x =>
    have e0 := ev_congr (ρ := ρ) (ρ' := ρ') (x := x) fun p hp => h p (by simp [AOp.uses, hp])
    simp only [evOp, e0]

theorem wants_congr {g : Option (Pos × Bool)} (h : ∀ p b, g = some (p, b) → ρ.get p = ρ'.get p) : wants ρ g = wants ρ' g := by
  cases g with
  | none => rfl
  | some pb =>
    obtain ⟨p, b⟩ := pb
    simp only [wants]
    rw [ev_congr (x := .tmp p) (ρ := ρ) (ρ' := ρ') (fun q hq => by simp [AO.uses] at hq; subst hq; exact h _ _ rfl)]


theorem pure_any {op : AOp} (h1 : op.loud = false) (h2 : op.madeBy = false) (h3 : op.reads = false) (h : evOp tbl call ρ σ op = some (out, σ')) :
    ∃ v, out = .val v ∧ σ' = σ ∧ ∀ τ, evOp tbl call ρ τ op = some (.val v, τ) := by
  cases op <;> simp only [AOp.loud, AOp.madeBy, AOp.reads, reduceCtorEq] at h1 h2 h3 <;> revert h <;> simp only [evOp, val, valO, fN_eq, cond_eq_ite] <;> (repeat' split) <;> intro h <;> first
    | (cases h; done)
    | (cases h; exact ⟨_, rfl, rfl, fun _ => rfl⟩)
    | (cases h; exact ⟨_, rfl, rfl, fun _ => by simp_all⟩)

/-- what is there stays there -/
def Sub (σ τ : AH) : Prop := ∀ b y, σ.get b = some y → τ.get b = some y

theorem Sub.load (h : Sub σ τ) {b : Pos} {q n : Nat} {l : List AV} (e : σ.load b q n = some l) : τ.load b q n = some l := by
  unfold AH.load at e ⊢
  split at e
  · rename_i ro cs hb; rw [h b _ hb]; exact e
  · cases e

theorem Sub.fits (h : Sub σ τ) {b : Pos} {n : Nat} (e : fitsIn σ b n = true) : fitsIn τ b n = true := by
  unfold fitsIn at e ⊢
  split at e
  · rename_i ro cs hb; rw [h b _ hb]; exact e
  · cases e

theorem slice_ext {k : SK} {x : AO} {lo hi mx : Option AO} (h : evSlice ρ k x lo hi mx σ = some (out, σ')) :
    ∃ v, out = .val v ∧ σ' = σ ∧ ∀ τ, Sub σ τ → evSlice ρ k x lo hi mx τ = some (.val v, τ) := by
  revert h
  unfold evSlice
  simp only [val, valO, fN_eq, cond_eq_ite]
  (repeat' split) <;> intro h <;> first
    | (cases h; done)
    | (cases h; exact ⟨_, rfl, rfl, fun _ _ => rfl⟩)
    | (cases h; refine ⟨_, rfl, rfl, fun _ _ => ?_⟩; simp_all; done)
    | (cases h
       rename_i hb
       refine ⟨_, rfl, rfl, fun τ hs => ?_⟩
       rw [if_pos]
       simp only [Bool.and_eq_true, Bool.or_eq_true] at hb ⊢
       exact ⟨hb.1, hb.2.imp id fun h => ⟨h.1, hs.fits h.2⟩⟩)

theorem read_ext {op : AOp} (h3 : op.reads = true) (h : evOp tbl call ρ σ op = some (out, σ')) :
    ∃ v, out = .val v ∧ σ' = σ ∧ ∀ τ, Sub σ τ → evOp tbl call ρ τ op = some (.val v, τ) := by
  cases op <;> simp only [AOp.reads, reduceCtorEq] at h3
  case slice k x lo hi mx => exact slice_ext h
  case load1 x =>
    simp only [evOp, val] at h ⊢
    split at h
    · rename_i b q hx
      split at h
      · rename_i v hv
        cases h
        exact ⟨_, rfl, rfl, fun τ hs => by simp only [hx, hs.load hv]⟩
      · cases h
    · cases h
  case loadN n x =>
    simp only [evOp, val] at h ⊢
    split at h
    · rename_i b q hx
      split at h
      · rename_i v hv
        cases h
        exact ⟨_, rfl, rfl, fun τ hs => by simp only [hx, hs.load hv]⟩
      · cases h
    · cases h
  case cvBS x =>
    simp only [evOp, val] at h ⊢
    split at h
    · rename_i hx
      cases h
      exact ⟨_, rfl, rfl, fun τ hs => by simp only [hx]⟩
    · rename_i b q n c hx
      split at h
      · rename_i v hv
        split at h
        · rename_i l hl
          cases h
          exact ⟨_, rfl, rfl, fun τ hs => by simp only [hx, hs.load hv, hl]⟩
        · cases h
      · cases h
    · cases h
  case cvBB x =>
    simp only [evOp, val] at h ⊢
    split at h
    · rename_i b q n c hx
      split at h
      · rename_i v hv
        cases h
        exact ⟨_, rfl, rfl, fun τ hs => by simp only [hx, hs _ _ hv]⟩
      · cases h
    · cases h
  case lookup s k z x i ok =>
    simp only [evOp, val] at h ⊢
    split at h
    · rename_i hx
      simp only [cond_eq_ite] at h ⊢
      split at h
      · rename_i hk
        cases h
        exact ⟨_, rfl, rfl, fun τ hs => by simp only [hx, hk, if_true]⟩
      · cases h
    · rename_i b hx
      split at h
      · rename_i es hv
        simp only [cond_eq_ite] at h ⊢
        split at h
        · rename_i hk
          split at h
          · rename_i v hf
            cases h
            exact ⟨_, rfl, rfl, fun τ hs => by simp only [hx, hk, if_true, hs _ _ hv, hf]⟩
          · rename_i hf
            cases h
            exact ⟨_, rfl, rfl, fun τ hs => by simp only [hx, hk, if_true, hs _ _ hv, hf]⟩
          · cases h
        · cases h
      · cases h
    · cases h
  case len k x =>
    simp only [evOp, val, fN_eq] at h ⊢
    split at h
    · rename_i b hx
      split at h
      · rename_i es hv
        cases h
        exact ⟨_, rfl, rfl, fun τ hs => by simp only [hx, hs _ _ hv]⟩
      · cases h
    all_goals first
      | (cases h; done)
      | (rename_i hx; cases h; exact ⟨_, rfl, rfl, fun τ hs => by simp only [hx]⟩)

/-- a block is made, whatever else there is -/
theorem made_any {op : AOp} (h3 : op.madeBy = true) (h : evOp tbl call ρ σ op = some (out, σ')) :
    ∃ (x : AB) (mk : Pos → AV), out = .val (mk σ.nx) ∧ σ' = σ.new x ∧ x.wr = true ∧ (∀ τ, evOp tbl call ρ τ op = some (.val (mk τ.nx), τ.new x)) ∧ (∀ b, (mk b).blk = some b) ∧ ∀ b c, mk c = reBlk (mk b) c := by
  cases op <;> simp only [AOp.madeBy, reduceCtorEq] at h3
  case alloc z =>
    simp only [evOp, AH.newK_eq] at h ⊢
    cases h
    exact ⟨_, fun b => .ptr b 0, rfl, rfl, rfl, fun _ => rfl, fun _ => rfl, fun _ _ => rfl⟩
  case box n x =>
    simp only [evOp, AH.newK_eq, cond_eq_ite] at h ⊢
    split at h
    · cases h
    · split at h
      · cases h
        refine ⟨_, fun b => .ptr b 0, rfl, rfl, rfl, fun _ => ?_, fun _ => rfl, fun _ _ => rfl⟩
        simp_all [val]
      · cases h
  case bslice len z ps =>
    simp only [evOp, AH.newK_eq] at h ⊢
    split at h
    · cases h
      refine ⟨_, fun b => .slc b 0 len (.known len), rfl, rfl, rfl, fun _ => ?_, fun _ => rfl, fun _ _ => rfl⟩
      simp_all [val]
    · cases h
  case cvSB x =>
    simp only [evOp, newOpen, fN_eq, AH.newK_eq, cond_eq_ite] at h ⊢
    split at h
    · rename_i l hl
      split at h
      · cases h
        refine ⟨_, fun b => .slc b 0 l.length (.opn 1), rfl, rfl, rfl, fun _ => ?_, fun _ => rfl, fun _ _ => rfl⟩
        simp_all [val]
      · cases h
    · cases h
  case mkMap =>
    simp only [evOp, AH.newK_eq] at h ⊢
    cases h
    exact ⟨_, fun b => .map b, rfl, rfl, rfl, fun _ => rfl, fun _ => rfl, fun _ _ => rfl⟩
  case mkSlice sz bs z l c =>
    simp only [evOp, AH.newK_eq, fN_eq, cond_eq_ite] at h ⊢
    split at h
    · rename_i ln cn h1 h2
      split at h
      · cases h
        refine ⟨_, fun b => .slc b 0 ln (.known cn), rfl, rfl, rfl, fun _ => ?_, fun _ => rfl, fun _ _ => rfl⟩
        simp_all [val]
      · cases h
    · cases h

end
end Go.Proofs.YtgaoddafkjdecaaGreat.EV
