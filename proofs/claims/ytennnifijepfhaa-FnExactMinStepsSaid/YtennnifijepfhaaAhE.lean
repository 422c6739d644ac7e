/- Operations that read, make or write memory: each does what its abstract step does. -/
import Derived.Test.YtennnifijepfhaaAhD
import Derived.Laws.MakeOwn
import Derived.Laws.StructEq
namespace Go.AH
open Go Go.RowKit

theorem AddrRel.new {w0 : World} {ρ : Ren} {σ : Heap} {w : World} {b n e : Nat} (h : ARel w0 ρ σ w) {ρ' : Ren} (hρ : ρ' σ.size = some ⟨b, 0, n, e⟩) : AddrRel w0.heap.size ρ' ⟨σ.size, 0, none⟩ ⟨b, 0, none⟩ :=
  ⟨rfl, rfl, .inr ⟨by have := σ.hle; have := h.base; simpa using by omega, _, hρ, by simp⟩⟩
theorem AddrRel.add {B : Nat} {ρ : Ren} {a a' : Addr} (h : AddrRel B ρ a a') (n : Nat) : AddrRel B ρ ⟨a.block, a.off + n, none⟩ ⟨a'.block, a'.off + n, none⟩ := by
  obtain ⟨h1, h2, h3⟩ := h
  refine ⟨rfl, rfl, ?_⟩
  rcases h3 with ⟨h3, rfl⟩ | ⟨h3, l, h4, rfl⟩
  · exact .inl ⟨h3, rfl⟩
  · exact .inr ⟨h3, l, h4, by simp [Nat.add_assoc]⟩
theorem addr_add' {a : Addr} (h : a.spot = none) (n : Nat) : a.add n = ⟨a.block, a.off + n, none⟩ := by rw [addr_eta h, addr_add]
theorem LRel.of_list {B : Nat} {ρ : Ren} {l l' : List Value} (h : LRel B ρ l l') (C : Array Value) (hC : C.toList = l') : ∀ (j : Nat) (v : Value), l[j]? = some v → ∃ v', C[j]? = some v' ∧ VRel B ρ v v' := fun j v hj => by
  obtain ⟨v', h1, h2⟩ := h.get hj
  exact ⟨v', by rw [← hC] at h1; simpa using h1, h2⟩

section
variable {P : Program} {o : Oper}
theorem run_newVar (t : TypeId) (v : Value) (w : World) : (newVar t v).run P w = .ok ⟨w.heap.size, 0, none⟩ { w with heap := w.heap.push (.cells v.cells t) } := by
  simp [newVar, newRow]
theorem sim_alloc {e : TypeId} {i : TypeInfo} {z : Value} (ho : o.op = .alloc e) (hi : P.info? e = some i) (hz : i.zero = some z) (hc : constOk z = true) (hk : okCells z = true) : Sim P o (fun fr σ => (AOp.alloc (vcells z)).step fr σ) := by
  intro w0 ρ σ w fr a v σ' hr hf he
  simp only [AOp.step, Option.some.injEq, Prod.mk.injEq] at he
  obtain ⟨rfl, rfl⟩ := he
  have hl := (VRel.cells (constOk_rel (B := w0.heap.size) (ρ := ρ) hc) hk).1
  obtain ⟨ρ', h1, h2, h3⟩ := hr.alloc (vcells z).length e (vcells z) z.cells (hl.of_list _ rfl)
  refine ⟨_, _, ρ', .pointer (some ⟨w.heap.size, 0, none⟩), ?_, .inl rfl, h1, h3, .ptr _ _ (AddrRel.new hr h2)⟩
  simp [execOp, ho, Instr.alloc, zeroValue, run_typeInfo w hi, hz, run_newVar]
theorem sim_box {e : TypeId} {x : Operand} {ax : AOpd} (ho : o.op = .box e x) (hx : compOpd x = some ax) : Sim P o (fun fr σ => (AOp.box ax).step fr σ) := by
  intro w0 ρ σ w fr a v σ' hr hf he
  have hv := compOpd_ev hx hf
  simp only [AOp.step] at he
  split at he
  · rename_i hk
    simp only [Option.some.injEq, Prod.mk.injEq] at he
    obtain ⟨rfl, rfl⟩ := he
    have hl := (VRel.cells hv hk).1
    obtain ⟨ρ', h1, h2, h3⟩ := hr.alloc (vcells (ax.ev fr)).length e (vcells (ax.ev fr)) (a.eval x).cells (hl.of_list _ rfl)
    refine ⟨_, _, ρ', .pointer (some ⟨w.heap.size, 0, none⟩), ?_, .inl rfl, h1, h3, .ptr _ _ (AddrRel.new hr h2)⟩
    simp [execOp, ho, Instr.box, run_newVar]
  · cases he
def isAggD (d : TypeDesc) : Bool := match d with | .struct _ | .array _ _ => true | _ => false
theorem run_isAgg {t : TypeId} {d : TypeDesc} (h : P.underlying t = some d) (w : World) : (isAgg t).run P w = .ok (isAggD d) w := by
  simp only [isAgg, Sem.run_bind, run_underlying h w, Result.andThen_ok]
  cases d <;> rfl
theorem run_sizeOf' {t : TypeId} {i : TypeInfo} (h : P.info? t = some i) (w : World) : (sizeOf t).run P w = .ok i.size w := by
  simp [sizeOf, run_typeInfo w h]
/-- A part of an aggregate. -/
theorem part_run {t : TypeId} {d : TypeDesc} {i : TypeInfo} (hd : P.underlying t = some d) (hi : P.info? t = some i) {B : Nat} {ρ : Ren} {cs : List Value} {cs' : Array Value} (hl : LRel B ρ cs cs'.toList) {off : Nat} {v : Value}
    (hv : partA cs off i.size (isAggD d) = some v) (w : World) : ∃ v', (part t cs' off).run P w = .ok v' w ∧ VRel B ρ v v' := by
  unfold partA at hv
  have hA := run_isAgg hd w
  by_cases hg : isAggD d = true
  · rw [if_pos hg] at hv
    simp only [Option.map_eq_some_iff] at hv
    obtain ⟨l, h1, rfl⟩ := hv
    unfold readCells at h1
    split at h1
    · cases h1
      refine ⟨.agg (cs'.extract off (off + i.size)), ?_, ?_⟩
      · simp [part, hA, hg, run_sizeOf' hi]
      · have := VRel.mkAgg ((hl.drop off).take i.size)
        have e : ((cs'.toList.drop off).take i.size).toArray = cs'.extract off (off + i.size) := by
          apply Array.ext'
          simp [List.take_drop]
        rw [e] at this
        exact this
    · cases h1
  · rw [if_neg hg] at hv
    obtain ⟨v', h1, h2⟩ := hl.get hv
    have h3 : cs'[off]? = some v' := by simpa using h1
    refine ⟨v', ?_, h2⟩
    simp [part, hA, hg, h3]
/-- A variable that is read. -/
theorem loadVar_run {t : TypeId} {d : TypeDesc} {i : TypeInfo} (hd : P.underlying t = some d) (hi : P.info? t = some i) {w0 : World} {ρ : Ren} {σ : Heap} {w : World} (hr : ARel w0 ρ σ w) {a a' : Addr}
    (ha : AddrRel w0.heap.size ρ a a') {v : Value} (hv : partA (σ.blk a.block).cells a.off i.size (isAggD d) = some v) : ∃ v', (loadVar t a').run P w = .ok v' w ∧ VRel w0.heap.size ρ v v' := by
  unfold partA at hv
  have hA := run_isAgg hd w
  by_cases hg : isAggD d = true
  · rw [if_pos hg] at hv
    simp only [Option.map_eq_some_iff] at hv
    obtain ⟨l, h1, rfl⟩ := hv
    obtain ⟨vs', h2, h3, _⟩ := hr.read ha h1 P
    exact ⟨.agg vs'.toArray, by simp [loadVar, hA, hg, run_sizeOf' hi, h2], VRel.mkAgg h3⟩
  · rw [if_neg hg] at hv
    obtain ⟨v', h1, h2⟩ := hr.at_ ha (j := 0) (by simpa using hv)
    have e : a'.add 0 = a' := by unfold Addr.add; simp
    rw [e] at h1
    exact ⟨v', by simp [loadVar, hA, hg, run_load, h1], h2⟩
theorem sim_load {t : TypeId} {d : TypeDesc} {i : TypeInfo} {x : Operand} {ax : AOpd} (ho : o.op = .load t x) (hd : P.underlying t = some d) (hi : P.info? t = some i) (hx : compOpd x = some ax) : Sim P o (fun fr σ => (AOp.load i.size (isAggD d) ax).step fr σ) := by
  refine Sim.still fun w0 ρ σ w fr a v σ' hr hf he => ?_
  have hv := compOpd_ev hx hf
  simp only [AOp.step] at he
  split at he
  · rename_i b hb
    rw [hb] at hv
    obtain ⟨b', e1, h1⟩ := hv.ptr_inv
    split at he
    · simp only [Option.map_eq_some_iff, Prod.mk.injEq] at he
      obtain ⟨u, hu, rfl, rfl⟩ := he
      obtain ⟨v', h2, h3⟩ := loadVar_run hd hi hr h1 hu
      exact ⟨rfl, v', by simp [execOp, ho, e1, Instr.loadAt, Instr.sureAddr, h2], h3⟩
    · cases he
  · cases he
/-- Cells that are written, one behind the other. -/
theorem run_storeCells (b : Nat) : ∀ (vs : List Value) (o j : Nat) (w : World) (C : Array Value) (e : TypeId), w.heap[b]? = some (.cells C e (0, 0)) → o + j + vs.length ≤ C.size → (∀ x ∈ vs, x.oneCell' = true) →
    (storeCells ⟨b, o, none⟩ vs j).run P w = .ok () (wset w b (o + j) vs)
  | [], o, j, w, C, e, h, _, _ => by simp [storeCells, wset]
  | v :: vs, o, j, w, C, e, h, hle, hone => by
    simp only [List.length_cons] at hle
    have hc : w.cell? ⟨b, o + j, none⟩ = some (C[o + j]'(by omega)) := by
      unfold World.cell?
      rw [h]
      simp [Array.getElem?_eq_getElem (show o + j < C.size by omega)]
    have hfz : w.frozen? ⟨b, o + j, none⟩ = false := by
      unfold World.frozen?
      rw [h]
      simp
    have hn : (w.setCell ⟨b, o + j, none⟩ v).heap[b]? = some (.cells (C.setIfInBounds (o + j) v) e (0, 0)) := by rw [setCell_heap, if_pos rfl, h]; rfl
    have ih := run_storeCells b vs o (j + 1) (w.setCell ⟨b, o + j, none⟩ v) _ e hn (by simp; omega) (fun x hx => hone x (List.mem_cons_of_mem _ hx))
    simp only [storeCells, addr_add, Sem.run_bind, run_store P w _ v _ (hone v List.mem_cons_self), hc, hfz, Bool.false_eq_true, if_false, Result.andThen_ok, wset]
    rw [ih]
    rfl
theorem sim_store {t : TypeId} {i : TypeInfo} {x y : Operand} {ax ay : AOpd} (ho : o.op = .store t x y) (hi : P.info? t = some i) (hx : compOpd x = some ax) (hy : compOpd y = some ay) : Sim P o (fun fr σ => (AOp.store i.size ax ay).step fr σ) := by
  intro w0 ρ σ w fr a v σ' hr hf he
  have hv := compOpd_ev hx hf
  have hw := compOpd_ev hy hf
  simp only [AOp.step] at he
  split at he
  · rename_i b hb
    rw [hb] at hv
    obtain ⟨b', e1, h1⟩ := hv.ptr_inv
    split at he
    · rename_i hc
      obtain ⟨c1, c2, c3, c4, c5, c6⟩ := hc
      simp only [Option.some.injEq, Prod.mk.injEq] at he
      obtain ⟨rfl, rfl⟩ := he
      obtain ⟨hl, hone⟩ := hw.cells c4
      obtain ⟨_, h2, h3⟩ := h1
      have hbB := hr.base
      rcases h3 with ⟨h3, _⟩ | ⟨h3, l, hl1, rfl⟩
      · omega
      · have hne : (σ.blk b.block).cells ≠ [] := by intro e; rw [e] at c5; simp at c5; omega
        obtain ⟨l', C, e, g1, g2, g3, g4, g5⟩ := hr.new _ h3 hne
        rw [hl1] at g1; cases g1
        have hlast := g5 ((σ.blk b.block).cells.length - 1) _ (List.getElem?_eq_getElem (by omega))
        obtain ⟨v', k1, _⟩ := hlast
        have k2 := (Array.getElem?_eq_some_iff.1 k1).1
        have hlen : (a.eval y).cells.toList.length = i.size := by rw [← hl.1, c3]
        refine ⟨.skip, _, ρ, undef, ?_, .inr ⟨rfl, rfl⟩, Ren.le.refl _, hr.setCells hl1 _ _ _ _ b.off hne hl, VRel.undef _ _⟩
        have hs := run_storeCells (P := P) l.blk (a.eval y).cells.toList (l.off + b.off) 0 w C e g3 (by omega) hone
        have hsz : (a.eval y).cells.size = i.size := by simpa using hlen
        simp [execOp, ho, e1, Instr.storeAt, Instr.sureAddr, storeVar, run_sizeOf' hi, hsz, hs]
    · cases he
  · cases he
end
end Go.AH
