/- Addresses, elements, lengths, slices that are made. -/
import Derived.Test.YtennnifijepfhaaAhE
namespace Go.AH
open Go Go.RowKit

section
variable {P : Program} {o : Oper}
theorem sim_faddr {t : TypeId} {fs : Array Field} {f : Field} {i : TypeInfo} {n : Nat} {x : Operand} {ax : AOpd} (ho : o.op = .fieldAddr t x n) (ht : P.underlying t = some (.struct fs)) (hn : fs[n]? = some f) (hi : P.info? f.type = some i) (hz : i.size ≠ 0)
    (hx : compOpd x = some ax) : Sim P o (fun fr σ => (AOp.faddr f.offset ax).step fr σ) := by
  refine Sim.still fun w0 ρ σ w fr a v σ' hr hf he => ?_
  have hv := compOpd_ev hx hf
  simp only [AOp.step] at he
  split at he
  · rename_i b hb
    rw [hb] at hv
    obtain ⟨b', e1, h1⟩ := hv.ptr_inv
    split at he
    · simp only [Option.some.injEq, Prod.mk.injEq] at he
      obtain ⟨rfl, rfl⟩ := he
      refine ⟨rfl, .pointer (some ⟨b'.block, b'.off + f.offset, none⟩), ?_, .ptr _ _ (h1.add _)⟩
      simp [execOp, ho, e1, Instr.fieldAt, run_underlying ht, hn, Instr.sureAddr, fieldPlace, run_sizeOf' hi, hz, addr_add' h1.2.1]
    · cases he
  · cases he
theorem sim_field {t : TypeId} {fs : Array Field} {f : Field} {i : TypeInfo} {d : TypeDesc} {n : Nat} {x : Operand} {ax : AOpd} (ho : o.op = .field t x n) (ht : P.underlying t = some (.struct fs)) (hn : fs[n]? = some f) (hd : P.underlying f.type = some d) (hi : P.info? f.type = some i)
    (hx : compOpd x = some ax) : Sim P o (fun fr σ => (AOp.field f.offset i.size (isAggD d) ax).step fr σ) := by
  refine Sim.still fun w0 ρ σ w fr a v σ' hr hf he => ?_
  have hv := compOpd_ev hx hf
  simp only [AOp.step] at he
  split at he
  · rename_i cs hb
    rw [hb] at hv
    obtain ⟨cs', e1, h1⟩ := hv.agg_inv
    simp only [Option.map_eq_some_iff, Prod.mk.injEq] at he
    obtain ⟨u, hu, rfl, rfl⟩ := he
    obtain ⟨v', h2, h3⟩ := part_run hd hi h1 hu w
    exact ⟨rfl, v', by simp [execOp, ho, e1, Instr.field, run_underlying ht, hn, asAgg, h2], h3⟩
  · cases he
theorem sim_iaddr {t e : TypeId} {i : TypeInfo} {x y : Operand} {ax ay : AOpd} (ho : o.op = .indexAddr t x y) (ht : P.underlying t = some (.slice e)) (hi : P.info? e = some i)
    (hx : compOpd x = some ax) (hy : compOpd y = some ay) : Sim P o (fun fr σ => (AOp.iaddr i.size ax ay).step fr σ) := by
  refine Sim.still fun w0 ρ σ w fr a v σ' hr hf he => ?_
  have hv := compOpd_ev hx hf
  have hw := compOpd_ev hy hf
  simp only [AOp.step] at he
  split at he
  · rename_i b ln c k n e1 e2
    rw [e1] at hv
    rw [e2] at hw
    have hw := hw.int_inv
    split at he
    · rename_i hc
      obtain ⟨c1, c2, c3⟩ := hc
      simp only [Option.some.injEq, Prod.mk.injEq] at he
      obtain ⟨rfl, rfl⟩ := he
      generalize ha : a.eval x = X at hv
      cases hv with
      | sl _ b' _ _ c' h1 h2 h3 =>
        rcases h3 with h3 | ⟨h3, _⟩
        · omega
        · refine ⟨rfl, .pointer (some ⟨b'.block, b'.off + n.toNat * i.size, none⟩), ?_, .ptr _ _ (h3.add _)⟩
          simp [execOp, ho, ha, hw, Instr.indexAt, run_underlying ht, asIntOf, c2, c3, run_sizeOf' hi, addr_add' h3.2.1]
    · cases he
  · cases he
theorem sim_iaddrA {t e : TypeId} {i : TypeInfo} {ln : Nat} {x y : Operand} {ax ay : AOpd} (ho : o.op = .indexAddr t x y) (ht : P.underlying t = some (.array ln e)) (hi : P.info? e = some i)
    (hx : compOpd x = some ax) (hy : compOpd y = some ay) : Sim P o (fun fr σ => (AOp.iaddrA ln i.size ax ay).step fr σ) := by
  refine Sim.still fun w0 ρ σ w fr a v σ' hr hf he => ?_
  have hv := compOpd_ev hx hf
  have hw := compOpd_ev hy hf
  simp only [AOp.step] at he
  split at he
  · rename_i b k n e1 e2
    rw [e1] at hv
    rw [e2] at hw
    have hw := hw.int_inv
    obtain ⟨b', e3, h3⟩ := hv.ptr_inv
    split at he
    · rename_i hc
      obtain ⟨c1, c2, c3⟩ := hc
      simp only [Option.some.injEq, Prod.mk.injEq] at he
      obtain ⟨rfl, rfl⟩ := he
      refine ⟨rfl, .pointer (some ⟨b'.block, b'.off + n.toNat * i.size, none⟩), ?_, .ptr _ _ (h3.add _)⟩
      simp [execOp, ho, e3, hw, Instr.indexAt, Instr.sureAddr, run_underlying ht, asIntOf, c2, c3, run_sizeOf' hi, addr_add' h3.2.1]
    · cases he
  · cases he
theorem sim_index {t e : TypeId} {i : TypeInfo} {d : TypeDesc} {ln : Nat} {x y : Operand} {ax ay : AOpd} (ho : o.op = .index t x y) (ht : P.underlying t = some (.array ln e)) (hd : P.underlying e = some d) (hi : P.info? e = some i)
    (hx : compOpd x = some ax) (hy : compOpd y = some ay) : Sim P o (fun fr σ => (AOp.index ln i.size (isAggD d) ax ay).step fr σ) := by
  refine Sim.still fun w0 ρ σ w fr a v σ' hr hf he => ?_
  have hv := compOpd_ev hx hf
  have hw := compOpd_ev hy hf
  simp only [AOp.step] at he
  split at he
  · rename_i cs k n e1 e2
    rw [e1] at hv
    rw [e2] at hw
    have hw := hw.int_inv
    obtain ⟨cs', e3, h3⟩ := hv.agg_inv
    split at he
    · rename_i hc
      obtain ⟨c2, c3⟩ := hc
      simp only [Option.map_eq_some_iff, Prod.mk.injEq] at he
      obtain ⟨u, hu, rfl, rfl⟩ := he
      obtain ⟨v', h4, h5⟩ := part_run hd hi h3 hu w
      refine ⟨rfl, v', ?_, h5⟩
      simp [execOp, ho, e3, hw, Instr.index, run_underlying ht, asIntOf, c2, c3, run_sizeOf' hi, h4]
    · cases he
  · cases he
theorem sim_len {t e : TypeId} {x : Operand} {ax : AOpd} {ts : Array TypeId} (ho : o.op = .call { callee := .builtin .len, args := #[x], argTypes := ts }) (h0 : ts[0]? = some t) (ht : P.underlying t = some (.slice e)) (hx : compOpd x = some ax) :
    Sim P o (fun fr σ => (AOp.len ax).step fr σ) := by
  refine Sim.still fun w0 ρ σ w fr a v σ' hr hf he => ?_
  have hv := compOpd_ev hx hf
  simp only [AOp.step] at he
  split at he
  · rename_i b n c e1
    rw [e1] at hv
    simp only [Option.some.injEq, Prod.mk.injEq] at he
    obtain ⟨rfl, rfl⟩ := he
    refine ⟨rfl, .int .i64 n, ?_, .int _ _⟩
    generalize ha : a.eval x = X at hv
    cases hv with
    | sl0 => simp [execOp, ho, ha, resolve, invoke, builtin, Builtin.len_, h0, run_underlying ht, goInt]
    | sl => simp [execOp, ho, ha, resolve, invoke, builtin, Builtin.len_, h0, run_underlying ht, goInt]
  · cases he
theorem sim_mx {m : Bool} {x y : Operand} {ax ay : AOpd} {ts : Array TypeId} (ho : o.op = .call { callee := .builtin (if m = true then .max else .min), args := #[x, y], argTypes := ts }) (hx : compOpd x = some ax) (hy : compOpd y = some ay) :
    Sim P o (fun fr σ => (AOp.mx m ax ay).step fr σ) := by
  refine Sim.still fun w0 ρ σ w fr a v σ' hr hf he => ?_
  have hv := compOpd_ev hx hf
  have hw := compOpd_ev hy hf
  simp only [AOp.step] at he
  split at he
  · rename_i k p k' q e1 e2
    rw [e1] at hv
    rw [e2] at hw
    have hv := hv.int_inv
    have hw := hw.int_inv
    simp only [Option.some.injEq, Prod.mk.injEq] at he
    obtain ⟨rfl, rfl⟩ := he
    refine ⟨rfl, _, ?_, .int _ _⟩
    cases m
    · simp [execOp, ho, hv, hw, resolve, invoke, builtin, Builtin.min_, Builtin.min2]
    · simp [execOp, ho, hv, hw, resolve, invoke, builtin, Builtin.max_, Builtin.max2]
  · cases he
theorem zeroRow_length (z : List Value) : ∀ n, (zeroRow z n).length = n * z.length
  | 0 => by simp [zeroRow]
  | n + 1 => by rw [zeroRow, List.length_append, zeroRow_length z n, Nat.succ_mul]; omega
theorem zeroRow_get (z : List Value) (hz : 0 < z.length) : ∀ (n j : Nat), j < n * z.length → (zeroRow z n)[j]? = z[j % z.length]?
  | 0, j, h => by omega
  | n + 1, j, h => by
    rw [zeroRow]
    by_cases hj : j < z.length
    · rw [List.getElem?_append_left hj, Nat.mod_eq_of_lt hj]
    · have e : j % z.length = (j - z.length) % z.length := Nat.mod_eq_sub_mod (by omega)
      rw [List.getElem?_append_right (by omega), zeroRow_get z hz n _ (by rw [Nat.succ_mul] at h; omega), e]
theorem zeroRow_rel {B : Nat} {ρ : Ren} {z : Value} (hc : constOk z = true) (hk : okCells z = true) (hz : 0 < (vcells z).length) (n : Nat) (C : Array Value) (hC : C = (Array.range (n * (vcells z).length)).map (z.cells[· % z.cells.size]!)) :
    ∀ (j : Nat) (v : Value), (zeroRow (vcells z) n)[j]? = some v → ∃ v', C[j]? = some v' ∧ VRel B ρ v v' := by
  intro j v hj
  have hl := (VRel.cells (constOk_rel (B := B) (ρ := ρ) hc) hk).1
  have hjl : j < n * (vcells z).length := by rw [← zeroRow_length]; exact (List.getElem?_eq_some_iff.1 hj).1
  rw [zeroRow_get _ hz _ _ hjl] at hj
  obtain ⟨v', h1, h2⟩ := hl.get hj
  have hs : z.cells.size = (vcells z).length := by have := hl.1; simpa using this.symm
  refine ⟨v', ?_, h2⟩
  subst hC
  have h3 : z.cells[j % z.cells.size]? = some v' := by rw [hs]; simpa using h1
  rw [Array.getElem?_map]
  have : (Array.range (n * (vcells z).length))[j]? = some j := by rw [Array.getElem?_range, if_pos hjl]
  rw [this, Option.map_some, getElem!_def, h3]
theorem sim_mk {t e : TypeId} {i : TypeInfo} {z : Value} {x y : Operand} {ax ay : AOpd} (ho : o.op = .makeSlice t x y) (ht : P.underlying t = some (.slice e)) (hi : P.info? e = some i) (hz : i.zero = some z) (hc : constOk z = true) (hk : okCells z = true) (hs : (vcells z).length = i.size) (hp : 0 < i.size)
    (hx : compOpd x = some ax) (hy : compOpd y = some ay) : Sim P o (fun fr σ => (AOp.mk i.size i.bytes (vcells z) ax ay).step fr σ) := by
  intro w0 ρ σ w fr a v σ' hr hf he
  have hv := compOpd_ev hx hf
  have hw := compOpd_ev hy hf
  simp only [AOp.step] at he
  split at he
  · rename_i p q e1 e2
    rw [e1] at hv
    rw [e2] at hw
    have hv := hv.int_inv
    have hw := hw.int_inv
    split at he
    · rename_i hcond
      obtain ⟨c1, c2, c3, c4⟩ := hcond
      simp only [Option.some.injEq, Prod.mk.injEq] at he
      obtain ⟨rfl, rfl⟩ := he
      have hb : (i.bytes : Int) * q ≤ 281474976710656 := by rw [Int.mul_comm]; exact c3
      have hq : q ≤ 9223372036854775807 := by
        have h1 : q * 1 ≤ q * i.bytes := Int.mul_le_mul_of_nonneg_left (by omega) (by omega)
        omega
      have hrun := run_make (P := P) w t e i z ht hi hz .i64 .i64 p q c1 c2 hb hq
      have hcs : z.cells.size = i.size := by
        have := (VRel.cells (constOk_rel (B := 0) (ρ := fun _ => none) hc) hk).1.1
        simp at this; omega
      obtain ⟨ρ', h1, h2, h3⟩ := hr.alloc i.size e (zeroRow (vcells z) q.toNat) (madeCells z.cells (q.toNat * i.size))
        (zeroRow_rel hc hk (by omega) q.toNat _ (by unfold madeCells; rw [hs]))
      refine ⟨_, _, ρ', .slice (some ⟨w.heap.size, 0, none⟩) p.toNat q.toNat, ?_, .inl rfl, h1, h3, ?_⟩
      · simp only [execOp, ho, hv, hw, Sem.run_bind, hrun, Result.andThen_ok]; rfl
      · refine .sl _ _ _ _ _ id (by omega) (.inr ⟨AddrRel.new hr h2, fun hb l hl => ?_⟩)
        change ρ' σ.size = some l at hl
        rw [h2] at hl
        cases hl
        simp [size_madeCells]
    · cases he
  · cases he
theorem sim_snil {op : BinOp} {t ty e : TypeId} {x y : Operand} {ax : AOpd} (ho : o.op = .binOp op t x y ty) (hop : op = .eql ∨ op = .neq) (ht : P.underlying t = some (.slice e)) (hx : compOpd x = some ax) (hy : y = .const (.slice none 0 0)) :
    Sim P o (fun fr σ => (AOp.snil (isNeq op) ax).step fr σ) := by
  refine Sim.still fun w0 ρ σ w fr a v σ' hr hf he => ?_
  have hv := compOpd_ev hx hf
  have hE : ∀ (s : Option Addr) (n c : Nat), (Op.equal t (.slice s n c) (.slice none 0 0)).run P w = .ok s.isNone w := by
    intro s n c
    have : ∀ d, (Op.equalIn (d + 1) t (.slice s n c) (.slice none 0 0)).run P w = .ok s.isNone w := by
      intro d
      unfold Op.equalIn
      rw [Sem.run_bind, run_underlying ht w]
      cases s <;> rfl
    exact this 9999
  simp only [AOp.step] at he
  split at he
  · rename_i s n c e1
    rw [e1] at hv
    simp only [Option.some.injEq, Prod.mk.injEq] at he
    obtain ⟨rfl, rfl⟩ := he
    generalize ha : a.eval x = X at hv
    have hyv : a.eval y = .slice none 0 0 := by rw [hy]; rfl
    cases hv with
    | sl0 =>
      rcases hop with rfl | rfl
      · exact ⟨rfl, .bool true, by simp [execOp, ho, ha, hyv, eqGuard, binOp, hE], .bool _⟩
      · exact ⟨rfl, .bool false, by simp [execOp, ho, ha, hyv, eqGuard, binOp, hE], .bool _⟩
    | sl =>
      rcases hop with rfl | rfl
      · exact ⟨rfl, .bool false, by simp [execOp, ho, ha, hyv, eqGuard, binOp, hE], .bool _⟩
      · exact ⟨rfl, .bool true, by simp [execOp, ho, ha, hyv, eqGuard, binOp, hE], .bool _⟩
  · cases he
end
end Go.AH
