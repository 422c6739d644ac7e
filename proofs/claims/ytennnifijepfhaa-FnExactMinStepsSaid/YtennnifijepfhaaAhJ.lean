/- Built structs and arrays, clearing, comparison of flat structs. -/
import Derived.Test.YtennnifijepfhaaAhI
namespace Go.AH
open Go Go.RowKit

section
variable {P : Program} {o : Oper}
theorem run_places_list (w : World) : ∀ (fs : List Field), (∀ f ∈ fs, (P.info? f.type).isSome = true) →
    (fs.mapM (fun f => do pure (f.offset, ← sizeOf f.type) : Field → Sem (Nat × Nat))).run P w = .ok (fs.map fun f => (f.offset, P.cellsOf f.type)) w
  | [], _ => rfl
  | f :: fs, h => by
    have h1 := h f List.mem_cons_self
    obtain ⟨i, hi⟩ := Option.isSome_iff_exists.1 h1
    have ih := run_places_list w fs (fun g hg => h g (List.mem_cons_of_mem _ hg))
    have hc : P.cellsOf f.type = i.size := by simp [Program.cellsOf, hi]
    rw [List.mapM_cons]
    simp only [Sem.run_bind, run_sizeOf' hi, Result.andThen_ok, Sem.run_pure, ih, List.map_cons, hc]
theorem run_places (w : World) (fs : Array Field) (h : ∀ f ∈ fs.toList, (P.info? f.type).isSome = true) :
    (fs.mapM (fun f => do pure (f.offset, ← sizeOf f.type) : Field → Sem (Nat × Nat))).run P w = .ok (fs.map fun f => (f.offset, P.cellsOf f.type)) w := by
  have h1 := run_places_list (P := P) w fs.toList h
  rw [← Array.toList_mapM, Sem.run_map] at h1
  generalize (fs.mapM (fun f => do pure (f.offset, ← sizeOf f.type) : Field → Sem (Nat × Nat))).run P w = r at h1
  cases r with
  | ok x w' =>
    simp only [Result.andThen_ok, Result.ok.injEq] at h1
    obtain ⟨h2, rfl⟩ := h1
    congr 1
    apply Array.ext'
    rw [h2]; simp
  | halt x w' => simp [Result.andThen] at h1
theorem sim_build_struct {t : TypeId} {i : TypeInfo} {z : Value} {fs : Array Field} {ps : Array (Nat × Operand)} {aps : List (Nat × Nat × AOpd)} (ho : o.op = .build t ps) (ht : P.underlying t = some (.struct fs)) (hi : P.info? t = some i) (hz : i.zero = some z) (hc : constOk z = true) (hk : okCells z = true)
    (hfs : (fs.toList.all fun f => (P.info? f.type).isSome) = true) (haps : compParts (fun j => (fs[j]?).map fun f => (f.offset, P.cellsOf f.type)) ps.toList = some aps) : Sim P o (fun fr σ => (AOp.build (vcells z) aps).step fr σ) := by
  refine Sim.still fun w0 ρ σ w fr a v σ' hr hf he => ?_
  simp only [AOp.step, Option.map_eq_some_iff, Prod.mk.injEq] at he
  obtain ⟨cs, hcs, rfl, rfl⟩ := he
  have hzl := (VRel.cells (constOk_rel (B := w0.heap.size) (ρ := ρ) hc) hk).1
  obtain ⟨R, g1, g2⟩ := fill_rel (compParts_rel hf haps) hzl hcs
  have hpl := run_places w fs (fun f hf => List.all_eq_true.1 hfs f hf) (P := P)
  have e : (fun (j : Nat) => (fs.map fun (f : Field) => (f.offset, P.cellsOf f.type))[j]?) = fun (j : Nat) => (fs[j]?).map fun (f : Field) => (f.offset, P.cellsOf f.type) := by
    funext j; rw [Array.getElem?_map]
  refine ⟨rfl, .agg R, ?_, ?_⟩
  · simp only [execOp, ho, Instr.build, Sem.run_bind, run_underlying ht, Result.andThen_ok, zeroValue, run_typeInfo w hi, hz, Sem.run_pure, hpl, e]
    simp [g1]
  · have := VRel.mkAgg g2
    simpa using this
theorem sim_build_array {t e : TypeId} {n : Nat} {i ie : TypeInfo} {z : Value} {ps : Array (Nat × Operand)} {aps : List (Nat × Nat × AOpd)} (ho : o.op = .build t ps) (ht : P.underlying t = some (.array n e)) (hi : P.info? t = some i) (hie : P.info? e = some ie) (hz : i.zero = some z) (hc : constOk z = true) (hk : okCells z = true)
    (haps : compParts (fun j => some (j * ie.size, ie.size)) ps.toList = some aps) : Sim P o (fun fr σ => (AOp.build (vcells z) aps).step fr σ) := by
  refine Sim.still fun w0 ρ σ w fr a v σ' hr hf he => ?_
  simp only [AOp.step, Option.map_eq_some_iff, Prod.mk.injEq] at he
  obtain ⟨cs, hcs, rfl, rfl⟩ := he
  have hzl := (VRel.cells (constOk_rel (B := w0.heap.size) (ρ := ρ) hc) hk).1
  obtain ⟨R, g1, g2⟩ := fill_rel (compParts_rel hf haps) hzl hcs
  refine ⟨rfl, .agg R, ?_, ?_⟩
  · simp only [execOp, ho, Instr.build, Sem.run_bind, run_underlying ht, Result.andThen_ok, zeroValue, run_typeInfo w hi, hz, Sem.run_pure, run_sizeOf' hie]
    simp [g1]
  · have := VRel.mkAgg g2
    simpa using this
theorem size_zc (z : Array Value) (n : Nat) : Builtin.zeroCells z n = (Array.range (n * z.size)).map (z[· % z.size]!) := rfl
theorem sim_clear {t e : TypeId} {i : TypeInfo} {z : Value} {x : Operand} {ax : AOpd} {ts : Array TypeId} (ho : o.op = .call { callee := .builtin .clear, args := #[x], argTypes := ts }) (h0 : ts[0]? = some t) (ht : P.underlying t = some (.slice e)) (hi : P.info? e = some i) (hz : i.zero = some z) (hc : constOk z = true) (hk : okCells z = true)
    (hs : (vcells z).length = i.size) (hx : compOpd x = some ax) : Sim P o (fun fr σ => (AOp.clear i.size (vcells z) ax).step fr σ) := by
  intro w0 ρ σ w fr a v σ' hr hf he
  have hv := compOpd_ev hx hf
  simp only [AOp.step] at he
  have hzs : z.cells.size = i.size := by
    have := (VRel.cells (constOk_rel (B := 0) (ρ := fun _ => none) hc) hk).1.1
    simp at this; omega
  split at he
  · rename_i s n c e1
    rw [e1] at hv
    generalize ha : a.eval x = X at hv
    split at he
    · rename_i hn
      subst hn
      simp only [Option.some.injEq, Prod.mk.injEq] at he
      obtain ⟨rfl, rfl⟩ := he
      refine ⟨.value (.tuple #[]), w, ρ, .tuple #[], ?_, .inl rfl, Ren.le.refl _, hr, VRel.undef _ _⟩
      cases hv with
      | sl0 => simp [execOp, ho, ha, resolve, invoke, builtin, Builtin.clear_, h0, run_underlying ht]
      | sl => simp [execOp, ho, ha, resolve, invoke, builtin, Builtin.clear_, h0, run_underlying ht]
    · rename_i hn
      split at he
      · rename_i b
        split at he
        · rename_i hcond
          obtain ⟨c1, c2, c3, c4, c5, c6⟩ := hcond
          simp only [Option.some.injEq, Prod.mk.injEq] at he
          obtain ⟨rfl, rfl⟩ := he
          cases hv with
          | sl _ b' _ _ c' g1 g2 g3 =>
          obtain ⟨hA, hR⟩ := g3.resolve_left (by omega)
          obtain ⟨_, _, hA3⟩ := hA
          have hB := hr.base
          rcases hA3 with ⟨hA3, _⟩ | ⟨hA3, l, hl, rfl⟩
          · omega
          · have hpos : 0 < n * i.size := Nat.mul_pos (by omega) c6
            have hne : (σ.blk b.block).cells ≠ [] := by intro e; rw [e] at c5; simp at c5; omega
            obtain ⟨l', C, ce, q1, q2, q3, q4, q5⟩ := hr.new _ hA3 hne
            rw [hl] at q1; cases q1
            obtain ⟨v', k1, _⟩ := q5 ((σ.blk b.block).cells.length - 1) _ (List.getElem?_eq_getElem (by omega))
            have k2 := (Array.getElem?_eq_some_iff.1 k1).1
            have hzr := zeroRow_rel (B := w0.heap.size) (ρ := ρ) hc hk (by omega) n _ rfl
            have hzl : LRel w0.heap.size ρ (zeroRow (vcells z) n) (Builtin.zeroCells z.cells n).toList := by
              rw [size_zc, hzs, ← hs]
              refine ⟨by simp [zeroRow_length], fun j x x' h1 h2 => ?_⟩
              rw [hzs, ← hs] at hzr
              obtain ⟨v', g1, g2⟩ := hzr j x h1
              rw [Array.getElem?_toList, g1] at h2
              rw [← Option.some.inj h2]; exact g2
            have hone : ∀ u ∈ (Builtin.zeroCells z.cells n).toList, u.oneCell' = true := by
              refine lrel_one hzl ?_
              have : ∀ m, (zeroRow (vcells z) m).all one = true := by
                intro m
                induction m with
                | zero => rfl
                | succ m ih => simp only [zeroRow, List.all_append, ih, c4, Bool.and_self]
              exact this n
            have hlen : (Builtin.zeroCells z.cells n).toList.length = n * i.size := by rw [← hzl.1, zeroRow_length, hs]
            have hst := run_storeCells (P := P) l.blk (Builtin.zeroCells z.cells n).toList (l.off + b.off) 0 w C ce q3 (by omega) hone
            have hsc := hr.setCells hl _ _ _ _ b.off hne hzl
            refine ⟨.value (.tuple #[]), _, ρ, .tuple #[], ?_, .inl rfl, Ren.le.refl _, hsc, VRel.undef _ _⟩
            simp only [Nat.add_zero] at hst
            cases n with
            | zero => omega
            | succ n =>
              simp [execOp, ho, ha, resolve, invoke, builtin, Builtin.clear_, h0, run_underlying ht, zeroValue, run_typeInfo w hi, hz, hst]
        · cases he
      · cases he
  · cases he
/-- A struct of whole numbers alone, one cell a field. -/
def flatB (P : Program) : List Field → Nat → Bool
  | [], _ => true
  | f :: fs, j => f.name != "_" && f.offset == j && (match P.underlying f.type with | some (.int _) => true | _ => false) && flatB P fs (j + 1)
theorem eqFields_run {B : Nat} {ρ : Ren} {A A2 : List Value} {X Y : Array Value} (hX : LRel B ρ A X.toList) (hY : LRel B ρ A2 Y.toList) (d : Nat) (w : World) : ∀ (fs : List Field) (j : Nat), flatB P fs j = true → A.length = j + fs.length → ∀ r, cellsEq (A.drop j) (A2.drop j) = some r →
    (Op.eqFields (d + 1) X Y fs).run P w = .ok r w
  | [], j, _, hl, r, h => by
    rw [List.drop_of_length_le (by simp at hl; omega)] at h
    cases hd : A2.drop j with
    | nil => rw [hd] at h; cases h; rfl
    | cons y ys => rw [hd] at h; simp [cellsEq] at h
  | f :: fs, j, hfl, hl, r, h => by
    simp only [List.length_cons] at hl
    have hj : j < A.length := by omega
    rw [List.drop_eq_getElem_cons hj] at h
    cases hd : A2.drop j with
    | nil => rw [hd] at h; simp [cellsEq] at h
    | cons y ys =>
      rw [hd] at h
      have hj2 : j < A2.length := by
        rcases Nat.lt_or_ge j A2.length with h | h
        · exact h
        · rw [List.drop_of_length_le h] at hd; cases hd
      rw [List.drop_eq_getElem_cons hj2] at hd
      simp only [List.cons.injEq] at hd
      obtain ⟨hy, hys⟩ := hd
      simp only [cellsEq] at h
      split at h
      · rename_i b1 b2 e1 e2
        cases h
        simp only [flatB, Bool.and_eq_true] at hfl
        obtain ⟨⟨⟨f1, f2⟩, f3⟩, f4⟩ := hfl
        have f2 : f.offset = j := by simpa using f2
        have f1 : f.name ≠ "_" := by simpa using f1
        rw [← hys] at e2
        have ih := eqFields_run hX hY d w fs (j + 1) f4 (by omega) b2 e2
        obtain ⟨x', gx, rx⟩ := hX.get (List.getElem?_eq_getElem hj)
        obtain ⟨y', gy, ry⟩ := hY.get (List.getElem?_eq_getElem hj2)
        rw [hy] at ry
        generalize A[j] = u at rx e1
        cases hu : P.underlying f.type with
        | none => rw [hu] at f3; cases f3
        | some dd =>
          rw [hu] at f3
          cases dd with
          | int k' =>
            unfold cellEq at e1
            split at e1
            · rename_i k m k2 n
              split at e1
              · rename_i hk
                subst hk
                cases e1
                have ex := rx.int_inv
                have ey := ry.int_inv
                subst ex ey
                have gx' : X[j]? = some (.int k m) := by simpa using gx
                have gy' : Y[j]? = some (.int k n) := by simpa using gy
                have hA := run_isAgg hu w
                have hpx : (part f.type X f.offset).run P w = .ok (.int k m) w := by simp [part, hA, isAggD, f2, gx']
                have hpy : (part f.type Y f.offset).run P w = .ok (.int k n) w := by simp [part, hA, isAggD, f2, gy']
                have he := run_equalIn_int (P := P) w d f.type k k' m n hu
                simp only [Op.eqFields]
                rw [if_pos f1]
                simp only [Sem.run_bind, hpx, Result.andThen_ok, hpy, he]
                by_cases hmn : (m == n) = true
                · simp [hmn, ih]
                · have hmn' : (m == n) = false := by simpa using hmn
                  simp [hmn']
              · cases e1
            · cases e1
          | _ => cases f3
      · cases h
theorem sim_aeq {n : Nat} {op : BinOp} {t ty : TypeId} {x y : Operand} {ax ay : AOpd} (ho : o.op = .binOp op t x y ty) (hop : op = .eql ∨ op = .neq) (ht : P.underlying t = some (.struct (P.fieldsOf t))) (hst : P.stoodInHeld t = false) (hg : P.eqGuardType P.depth t = false)
    (hfl : flatB P (P.fieldsOf t).toList 0 = true) (hn : (P.fieldsOf t).size = n) (hx : compOpd x = some ax) (hy : compOpd y = some ay) :
    Sim P o (fun fr σ => (AOp.aeq n (isNeq op) ax ay).step fr σ) := by
  refine Sim.still fun w0 ρ σ w fr a v σ' hr hf he => ?_
  have h2 := compOpd_ev hx hf
  have h3 := compOpd_ev hy hf
  simp only [AOp.step] at he
  split at he
  · rename_i A A2 e1 e2
    rw [e1] at h2
    rw [e2] at h3
    obtain ⟨X, g1, k1⟩ := h2.agg_inv
    obtain ⟨Y, g2, k2⟩ := h3.agg_inv
    split at he
    · rename_i hsz
      simp only [Option.map_eq_some_iff, Prod.mk.injEq] at he
      obtain ⟨r, hr2, rfl, rfl⟩ := he
      have hE := run_equalIn_struct (P := P) w 9999 t X Y ht hst
      rw [eqFields_run k1 k2 9998 w (P.fieldsOf t).toList 0 hfl (by simp [hsz, hn]) r (by simpa using hr2)] at hE
      have hG := run_eqGuard_agg (P := P) w op t x y X Y hg
      rcases hop with rfl | rfl
      · refine ⟨rfl, .bool r, ?_, by simpa [isNeq] using .bool _⟩
        simp only [execOp, ho, g1, g2, Sem.run_bind, hG, Result.andThen_ok, run_eql_struct, hE]
        rfl
      · refine ⟨rfl, .bool (!r), ?_, by simpa [isNeq] using .bool _⟩
        simp only [execOp, ho, g1, g2, Sem.run_bind, hG, Result.andThen_ok, run_neq_struct, hE]
        rfl
    · cases he
  · cases he
end
end Go.AH
