/-
  EV, part T2: the summary of guard.Try. Own work of this claim.
-/
import Derived.Test.YtgaoddafkjdecaaGreatEvS21
import Derived.Test.YtgaoddafkjdecaaGreatEvP
import Derived.Test.YtgaoddafkjdecaaGreatProg
import Derived.WalkKit
import Derived.Defers
import Derived.Recover
set_option linter.unusedVariables false
set_option linter.unusedSimpArgs false
namespace Go.Proofs.YtgaoddafkjdecaaGreat.EV
open Go.Proofs Go.RowKit

set_option maxHeartbeats 1000000
set_option maxRecDepth 100000

theorem catch_idle (p : Addr) (w : World) :
    CallsD Tryz.prog 101 #[.pointer (some p)] .returning w fun e u' w' => e = .returned (.tuple #[]) ∧ u' = .returning ∧ w' = w := by
  refine callsD_of_wpS Tryz.func101 rfl fun c₀ cs hu => ?_
  simp only [Tryz.ntmps101, List.size_toArray, List.length_cons, List.length_nil, Nat.reduceAdd, Nat.reduceSub, Array.replicate_succ,
     Array.replicate_zero, List.push_toArray, List.append_toArray, List.nil_append, List.cons_append]
  apply wpS_seq
  apply wpS_region
  simp [wpOpsS, go_sem, recoverD, hu, Exit.thenS, Act.put]
  refine wpS_of_wp ?_
  go_wp2
  cases c₀
  simp_all [bodyPostS, results, Tryz.results101]

theorem catch_fault (p : Addr) (w : World) (n : Int) (v0 : Value) (hb : p.block < w.heap.size) (hc : w.cell? p = some v0) (hf : w.frozen? p = false) :
    CallsD Tryz.prog 101 #[.pointer (some p)] (.panicking [{ v := .iface 170 (.agg #[.int .i64 n]), recovered := false }]) w fun e u' w' => e = .returned (.tuple #[]) ∧
      u' = .panicking [{ v := .iface 170 (.agg #[.int .i64 n]), recovered := true }] ∧ w' = (w.alloc (.cells #[.int .i64 n] 170)).setCell p (.int .i64 n) := by
  have hc' : ∀ o, (w.alloc o).cell? p = some v0 := fun o => (World.cell?_of_block (w := w) (Below.heap_alloc w o p.block hb)).trans hc
  have hf' : ∀ o, (w.alloc o).frozen? p = false := fun o => (World.frozen?_of_block (w := w) (Below.heap_alloc w o p.block hb)).trans hf
  have hta : ∀ w : World, (Instr.typeAssert (.iface 170 (.agg #[.int .i64 n])) 20 170 true).run Tryz.prog w = .ok (.tuple #[.agg #[.int .i64 n], .bool true]) w := fun _ => by kernel_rfl
  refine callsD_of_wpS Tryz.func101 rfl fun c₀ cs hu => ?_
  simp only [Tryz.ntmps101, List.size_toArray, List.length_cons, List.length_nil, Nat.reduceAdd, Nat.reduceSub, Array.replicate_succ,
     Array.replicate_zero, List.push_toArray, List.append_toArray, List.nil_append, List.cons_append]
  apply wpS_seq
  apply wpS_region
  simp [wpOpsS, go_sem, recoverD, hu, Exit.thenS, Act.put]
  refine wpS_of_wp ?_
  go_wp2
  cases c₀
  simp_all [bodyPostS, results, Tryz.results101]

theorem mkF_run : ∀ (fn : Fn) (first cap : Array Value) (w : World), (Instr.makeFunc fn first cap).run Tryz.prog w = .ok (.func fn first cap) w := fun _ _ _ _ => rfl

theorem try_nil (w : World) : Calls Tryz.prog 63 #[.nilFunc] w fun e w' => e = .returned (.int .i64 0) ∧ w' = w.alloc (.cells #[.int .i64 0] 36) := by
  have hnil : ∀ w : World, (binOp BinOp.eql 1 .nilFunc .nilFunc).run Tryz.prog w = .ok (.bool true) w := fun _ => by kernel_rfl
  go_enter_defers Tryz.func63, Tryz.ntmps63
  go_wp2
  simp [bodyPostD, Leaves, results, Tryz.results63, go_sem]

/-- all but the blocks from w2's end on, and block B, is as it was -/
structure Aft (w2 w' : World) (B : Nat) : Prop where
  os : w'.os = w2.os
  tape : w'.tape = w2.tape
  output : w'.output = w2.output
  size : w2.heap.size ≤ w'.heap.size
  heap : ∀ i, i < w2.heap.size → i ≠ B → w'.heap[i]? = w2.heap[i]?

theorem Aft.set (w2 : World) (B : Nat) (v : Value) : Aft w2 (w2.setCell ⟨B, 0, none⟩ v) B :=
  have h := (Below.refl 0 w2).setCell (p := ⟨B, 0, none⟩) (Nat.zero_le _) v
  ⟨h.os, h.tape, h.output, h.size, fun i _ hi => Below.heap_setCell w2 ⟨B, 0, none⟩ v i hi⟩

theorem Aft.new_set (w2 : World) (B : Nat) (o : Obj) (v : Value) : Aft w2 ((w2.alloc o).setCell ⟨B, 0, none⟩ v) B :=
  have h := ((Below.refl 0 w2).alloc (Nat.zero_le _) o).setCell (p := ⟨B, 0, none⟩) (Nat.zero_le _) v
  ⟨h.os, h.tape, h.output, h.size, fun i h hi => (Below.heap_setCell _ ⟨B, 0, none⟩ v i hi).trans (Below.heap_alloc w2 o i h)⟩

theorem try_call {n : FuncId} {va vc : Array Value} {w : World} (hent : Ent Tryz.prog n) {R : Ending → World → Prop}
    (hcall : Calls Tryz.prog n (va ++ vc) (w.alloc (.cells #[.int .i64 0] 36)) R)
    (hR : ∀ e w2, R e w2 → w2.heap[w.heap.size]? = some (.cells #[.int .i64 0] 36) ∧ ((∃ v, e = .returned v) ∨ ∃ m, e = .panicked [{ v := .iface 170 (.agg #[.int .i64 m]), recovered := false }])) :
    Calls Tryz.prog 63 #[.func (.func n) va vc] w fun e w' => ∃ e2 w2, R e2 w2 ∧ Aft w2 w' w.heap.size ∧ ((∃ v, e2 = .returned v) ∧ e = .returned (.int .i64 0) ∨
      ∃ m, e2 = .panicked [{ v := .iface 170 (.agg #[.int .i64 m]), recovered := false }] ∧ e = .returned (.int .i64 m)) := by
  have hnil : ∀ w : World, (binOp BinOp.eql 1 (.func (.func n) va vc) .nilFunc).run Tryz.prog w = .ok (.bool false) w := fun _ => by kernel_rfl
  have hmf := mkF_run
  go_enter_defers Tryz.func63, Tryz.ntmps63
  go_wp2
  rename_i K1 h1 K0 h0
  rw [enter_run hent, Oper.upon_enter]
  refine hcall.mono ?_
  intro e w2 hr
  obtain ⟨hB, hcase⟩ := hR e w2 hr
  have hlt : w.heap.size < w2.heap.size := (Array.getElem?_eq_some_iff.1 hB).1
  have hcell : w2.cell? ⟨w.heap.size, 0, none⟩ = some (.int .i64 0) := by simp [World.cell?, hB]
  have hfro : w2.frozen? ⟨w.heap.size, 0, none⟩ = false := by simp [World.frozen?, hB]
  rcases hcase with ⟨v, rfl⟩ | ⟨m, rfl⟩
  · refine h0 _ _ ?_
    simp only [wpList, Exit.then]
    refine h1 _ _ ?_
    go_wp2
    refine leaves_cons (f := 101) (args := #[.pointer (some ⟨w.heap.size, 0, none⟩)]) (by simp) (by simp [go_sem]) ?_
    refine (catch_idle _ _).mono ?_
    rintro e u' w3 ⟨rfl, rfl, rfl⟩
    have hc2 : (w2.setCell ⟨w.heap.size, 0, none⟩ (.int .i64 0)).cell? ⟨w.heap.size, 0, none⟩ = some (.int .i64 0) := World.cell?_setCell_same' _ _ _ (by rw [hcell]; rfl)
    refine ⟨.int .i64 0, ?_, .returned v, w2, hr, Aft.set _ _ _, .inl ⟨⟨v, rfl⟩, rfl⟩⟩
    simp [results, Tryz.results63, go_sem, hc2]
  · simp only [Exit.then]
    refine leaves_cons (f := 101) (args := #[.pointer (some ⟨w.heap.size, 0, none⟩)]) (by simp) (by simp [go_sem]) ?_
    refine (catch_fault _ _ m _ hlt hcell hfro).mono ?_
    rintro e u' w3 ⟨rfl, rfl, rfl⟩
    have hc2 : ((w2.alloc (.cells #[.int .i64 m] 170)).setCell ⟨w.heap.size, 0, none⟩ (.int .i64 m)).cell? ⟨w.heap.size, 0, none⟩ = some (.int .i64 m) :=
      World.cell?_setCell_same' _ _ _ (by rw [World.cell?_of_block (w := w2) (Below.heap_alloc w2 _ _ hlt), hcell]; rfl)
    refine ⟨.int .i64 m, ?_, _, w2, hr, Aft.new_set _ _ _ _, .inr ⟨m, rfl, rfl⟩⟩
    simp [results, Tryz.results63, go_sem, hc2]

/-- a block that nothing known leads to -/
theorem alloc_step {μ : Mu} {σ : AH} {w : World} (h : Rel μ σ w) (o : Obj) : Step μ σ w μ σ (w.alloc o) := by
  refine ⟨Mu.le_refl μ, ⟨h.fresh, ?_, ?_, h.inj⟩, ⟨rfl, rfl, rfl, by simp, fun i hi _ => heap_push_lt _ _ hi, fun _ _ h => h, Nat.le_refl _, fun _ _ h => h, fun _ _ h => h⟩, fun _ _ => rfl⟩
  · intro b p e
    have := h.dom b p e
    simp
    omega
  · intro b x p e f
    exact (h.blk b x p e f).heap (heap_push_lt _ _ (h.dom b p f).2)

theorem not_own {μ : Mu} {σ : AH} {w : World} (h : Rel μ σ w) : ¬ Own μ σ w.heap.size := by
  rintro ⟨b, x, p, _, _, h3, h4⟩
  have := (h.dom b p h3).2
  omega

theorem aft_step {μ μ' : Mu} {σ σ' : AH} {w w2 w' : World} {o : Obj} (hR : Rel μ σ w) (h : Step μ σ (w.alloc o) μ' σ' w2) (ha : Aft w2 w' w.heap.size) : Step μ σ w μ' σ' w' := by
  have hB : w.heap.size < (w.alloc o).heap.size := by simp
  have hle : w.heap.size ≤ (w.alloc o).heap.size := by simp
  have hblk : ∀ b x p, σ'.get b = some x → μ' b = some p → p.blk ≠ w.heap.size := by
    intro b x p e f hp
    cases hw : x.wr with
    | true => exact not_own hR (h.fr.own _ hB ⟨b, x, p, e, hw, f, hp⟩)
    | false =>
      have hx : ∃ l, x = .cells true l := by
        cases x with
        | cells r l => cases r with
          | true => exact ⟨l, rfl⟩
          | false => simp [AB.wr] at hw
        | mp es => simp [AB.wr] at hw
      obtain ⟨l, rfl⟩ := hx
      have e0 := h.fr.rob b l e
      have hb : b.nat < σ.nx.nat := by
        rcases Nat.lt_or_ge b.nat σ.nx.nat with h1 | h1
        · exact h1
        · rw [hR.fresh b h1] at e0; cases e0
      rw [h.old b hb] at f
      have := (hR.dom b p f).2
      omega
  refine ⟨h.le, ⟨h.rel.fresh, ?_, ?_, h.rel.inj⟩, ⟨ha.os.trans h.fr.os, ha.tape.trans h.fr.tape, ha.output.trans h.fr.output, ?_, ?_, ?_, h.fr.nx, h.fr.ro, h.fr.rob⟩, h.old⟩
  · intro b p e
    have := h.rel.dom b p e
    exact ⟨this.1, Nat.lt_of_lt_of_le this.2 ha.size⟩
  · intro b x p e f
    exact (h.rel.blk b x p e f).heap (ha.heap _ (h.rel.dom b p f).2 (hblk b x p e f))
  · exact Nat.le_trans hle (Nat.le_trans h.fr.size ha.size)
  · intro i hi ho
    have h1 : i < (w.alloc o).heap.size := Nat.lt_of_lt_of_le hi hle
    rw [ha.heap i (Nat.lt_of_lt_of_le h1 h.fr.size) (by omega), h.fr.keep i h1 ho]
    exact heap_push_lt _ _ hi
  · intro i hi ho
    exact h.fr.own i (Nat.lt_of_lt_of_le hi hle) ho

theorem try_ok : PrimOK Tryz.prog 63 (tryP 170) := by
  intro call hC args σ out σ' h
  refine ⟨⟨_, Tryz.func63, by kernel_rfl, by kernel_rfl⟩, fun μ w cargs hR hargs => ?_⟩
  unfold tryP at h
  split at h
  · cases h
    simp only [RVs, RV] at hargs
    obtain ⟨_, _, e1, rfl, e3⟩ := hargs
    have hc : cargs = #[.nilFunc] := Array.ext' (by rw [e1, e3])
    subst hc
    refine (try_nil w).mono ?_
    rintro e w' ⟨rfl, rfl⟩
    exact ⟨μ, alloc_step hR _, _, rfl, rfl⟩
  · rename_i g a c
    simp only [RVs, RV] at hargs
    obtain ⟨_, _, e1, ⟨n, va, vc, rfl, rfl, ra, rc⟩, e3⟩ := hargs
    have hc : cargs = #[.func (.func n) va vc] := Array.ext' (by rw [e1, e3])
    subst hc
    have key : ∃ out1, call (tp n) (a ++ c) σ = some (out1, σ') ∧ ((∃ v, out1 = .val v) ∧ out = .val (.int .i64 0) ∨ ∃ m, out1 = .pan (.ifc 170 (.agg [.int .i64 m])) ∧ out = .val (.int .i64 m)) := by
      split at h
      · rename_i v σ1 hcall
        cases h
        exact ⟨_, hcall, .inl ⟨⟨v, rfl⟩, rfl⟩⟩
      · rename_i t e σ1 hcall
        simp only [cond_eq_ite] at h
        split at h
        · rename_i ht
          cases h
          have := Nat.eq_of_beq_eq_true ht
          subst this
          exact ⟨_, hcall, .inr ⟨e, rfl, rfl⟩⟩
        · cases h
      · cases h
    obtain ⟨out1, hcall, hout⟩ := key
    obtain ⟨hent, hcl⟩ := hC n (a ++ c) σ out1 σ' hcall
    have hst0 := alloc_step hR (.cells #[.int .i64 0] 36)
    have hcc := hcl μ (w.alloc (.cells #[.int .i64 0] 36)) (va ++ vc) hst0.rel (by simpa using ra.append rc)
    refine (try_call hent hcc ?_).mono ?_
    · rintro e w2 ⟨μ', hst, ho⟩
      refine ⟨?_, ?_⟩
      · rw [hst.fr.keep w.heap.size (by simp) (not_own hR)]
        exact heap_push_eq _ _
      · rcases hout with ⟨⟨v, rfl⟩, _⟩ | ⟨m, rfl, _⟩
        · obtain ⟨v', rfl, _⟩ := ho
          exact .inl ⟨v', rfl⟩
        · obtain ⟨v', rfl, hv⟩ := ho
          simp only [RV, RVs] at hv
          obtain ⟨y, rfl, vs, rfl, u, r, e1, rfl, rfl⟩ := hv
          have : vs = #[.int .i64 m] := Array.ext' (by rw [e1])
          subst this
          exact .inr ⟨m, rfl⟩
    · rintro e w' ⟨e2, w2, ⟨μ', hst, ho⟩, haft, hcase⟩
      refine ⟨μ', aft_step hR hst haft, ?_⟩
      rcases hout with ⟨⟨v, rfl⟩, rfl⟩ | ⟨m, rfl, rfl⟩
      · obtain ⟨v', rfl, _⟩ := ho
        rcases hcase with ⟨_, rfl⟩ | ⟨m, hm, _⟩
        · exact ⟨_, rfl, rfl⟩
        · cases hm
      · obtain ⟨v', rfl, hv⟩ := ho
        rcases hcase with ⟨⟨_, hm⟩, _⟩ | ⟨m', hm, rfl⟩
        · cases hm
        · simp only [RV, RVs] at hv
          obtain ⟨y, rfl, vs, rfl, u, r, e1, rfl, rfl⟩ := hv
          have : vs = #[.int .i64 m] := Array.ext' (by rw [e1])
          subst this
          cases hm
          exact ⟨_, rfl, rfl⟩
  · cases h

end Go.Proofs.YtgaoddafkjdecaaGreat.EV
