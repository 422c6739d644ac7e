/- Literals, built structs, clearing, comparison of flat structs. -/
import Derived.Test.YtennnifijepfhaaAhH
namespace Go.AH
open Go Go.RowKit

theorem LRel.setCells {B : Nat} {ρ : Ren} : ∀ {vs vs' : List Value} {l l' : List Value} (o : Nat), LRel B ρ l l' → LRel B ρ vs vs' → LRel B ρ (AH.setCells l o vs) (AH.setCells l' o vs')
  | [], [], _, _, _, h, _ => h
  | [], v' :: vs', _, _, _, _, hr => by have := hr.1; simp at this
  | v :: vs, [], _, _, _, _, hr => by have := hr.1; simp at this
  | v :: vs, v' :: vs', l, l', o, h, hr => by
    unfold AH.setCells
    exact LRel.setCells (o + 1) (h.set o (hr.2 0 _ _ rfl rfl)) ⟨by have := hr.1; simpa using this, fun i x x' a b => hr.2 (i + 1) x x' (by simpa using a) (by simpa using b)⟩
theorem fold_set (off : Nat) : ∀ (vs : List Value) (j : Nat) (C : Array Value), ((vs.zipIdx j).foldl (fun (cs : Array Value) (p : Value × Nat) => cs.setIfInBounds (off + p.2) p.1) C).toList = AH.setCells C.toList (off + j) vs
  | [], _, _ => rfl
  | v :: vs, j, C => by
    simp only [List.zipIdx_cons, List.foldl_cons, AH.setCells]
    rw [fold_set off vs (j + 1)]
    simp [Nat.add_assoc]
/-- Parts and their places. -/
inductive Parts (B : Nat) (ρ : Ren) (place : Nat → Option (Nat × Nat)) : List (Nat × Nat × Value) → List (Nat × Value) → Prop
  | nil : Parts B ρ place [] []
  | cons (j off size : Nat) (v v' : Value) (ps : List (Nat × Nat × Value)) (ps' : List (Nat × Value)) (hp : place j = some (off, size)) (hv : VRel B ρ v v') (h : Parts B ρ place ps ps') : Parts B ρ place ((off, size, v) :: ps) ((j, v') :: ps')
theorem fill_rel {B : Nat} {ρ : Ren} {place : Nat → Option (Nat × Nat)} {ps : List (Nat × Nat × Value)} {ps' : List (Nat × Value)} (h : Parts B ρ place ps ps') : ∀ {cs r : List Value} {C : Array Value}, LRel B ρ cs C.toList → fillA cs ps = some r →
    ∃ R, Instr.fill place C ps' = some R ∧ LRel B ρ r R.toList := by
  induction h with
  | nil => intro cs r C hl hr; cases hr; exact ⟨C, rfl, hl⟩
  | cons j off size v v' ps ps' hp hv h ih =>
    intro cs r C hl hr
    simp only [fillA] at hr
    split at hr
    · rename_i hc
      obtain ⟨c1, c2, c3⟩ := hc
      obtain ⟨k1, k2⟩ := hv.cells c2
      have hs : v'.cells.size = size := by have := k1.1; simp at this; omega
      have hC : C.size = cs.length := by have := hl.1; simpa using this.symm
      have hl2 : LRel B ρ (AH.setCells cs off (vcells v)) ((v'.cells.zipIdx.foldl (fun (cs : Array Value) (p : Value × Nat) => cs.setIfInBounds (off + p.2) p.1) C)).toList := by
        have := fold_set off v'.cells.toList 0 C
        have e : (v'.cells.zipIdx.foldl (fun (cs : Array Value) (p : Value × Nat) => cs.setIfInBounds (off + p.2) p.1) C) = ((v'.cells.toList.zipIdx 0).foldl (fun (cs : Array Value) (p : Value × Nat) => cs.setIfInBounds (off + p.2) p.1) C) := by
          rw [← Array.foldl_toList, Array.toList_zipIdx]
        rw [e, this]
        simpa using hl.setCells off k1
      obtain ⟨R, g1, g2⟩ := ih hl2 hr
      refine ⟨R, ?_, g2⟩
      simp only [Instr.fill, hp]
      rw [if_neg]
      · exact g1
      · simp [hs]; omega
    · cases hr
section
variable {P : Program} {o : Oper}
/-- The parts' operands, told. -/
def compParts (place : Nat → Option (Nat × Nat)) : List (Nat × Operand) → Option (List (Nat × Nat × AOpd))
  | [] => some []
  | (j, x) :: r => match place j, compOpd x, compParts place r with
    | some (off, size), some ax, some l => some ((off, size, ax) :: l)
    | _, _, _ => none
theorem compParts_rel {place : Nat → Option (Nat × Nat)} {B : Nat} {ρ : Ren} {fr : Nat → Value} {a : Act} (hf : Frames B ρ fr a) : ∀ {ps : List (Nat × Operand)} {aps : List (Nat × Nat × AOpd)}, compParts place ps = some aps →
    Parts B ρ place (psEv fr aps) (ps.map fun p => (p.1, a.eval p.2))
  | [], aps, h => by simp only [compParts, Option.some.injEq] at h; subst h; exact .nil
  | (j, x) :: r, aps, h => by
    simp only [compParts] at h
    split at h
    · rename_i off size ax l h1 h2 h3
      cases h
      exact .cons _ _ _ _ _ _ _ h1 (compOpd_ev h2 hf) (compParts_rel hf h3)
    · cases h
theorem sim_lit {t e : TypeId} {i : TypeInfo} {z : Value} {n : Nat} {ps : Array (Nat × Operand)} {aps : List (Nat × Nat × AOpd)} (ho : o.op = .buildSlice t n ps) (ht : P.underlying t = some (.slice e)) (hi : P.info? e = some i) (hz : i.zero = some z) (hc : constOk z = true) (hk : okCells z = true)
    (hs : (vcells z).length = i.size) (hp : 0 < i.size) (hn : n * i.size ≤ 16777216) (haps : compParts (fun j => some (j * i.size, i.size)) ps.toList = some aps) : Sim P o (fun fr σ => (AOp.lit i.size n (vcells z) aps).step fr σ) := by
  intro w0 ρ σ w fr a v σ' hr hf he
  simp only [AOp.step, Option.map_eq_some_iff, Prod.mk.injEq] at he
  obtain ⟨cs, hcs, rfl, rfl⟩ := he
  have hzl : LRel w0.heap.size ρ (zeroRow (vcells z) n) ((Array.range (n * i.size)).map (z.cells[· % z.cells.size]!)).toList := by
    have hzr := zeroRow_rel (B := w0.heap.size) (ρ := ρ) hc hk (by omega) n _ rfl
    rw [hs] at hzr
    refine ⟨by simp [zeroRow_length, hs], fun j x x' h1 h2 => ?_⟩
    obtain ⟨v', g1, g2⟩ := hzr j x h1
    have : v' = x' := by
      rw [Array.getElem?_toList, g1] at h2
      exact Option.some.inj h2
    rw [← this]; exact g2
  obtain ⟨R, g1, g2⟩ := fill_rel (compParts_rel hf haps) hzl hcs
  obtain ⟨ρ', h1, h2, h3⟩ := hr.alloc i.size e cs R (g2.of_list _ rfl)
  have hzs : z.cells.size = i.size := by
    have := (VRel.cells (constOk_rel (B := 0) (ρ := fun _ => none) hc) hk).1.1
    simp at this; omega
  have hRs : R.size = n * i.size := by
    have e1 := g2.1
    have e2 : ∀ (ps : List (Nat × Nat × Value)) (cs r : List Value), fillA cs ps = some r → r.length = cs.length := by
      intro ps
      induction ps with
      | nil => intro cs r h; cases h; rfl
      | cons p ps ih =>
        intro cs r h
        obtain ⟨p1, p2, p3⟩ := p
        simp only [fillA] at h
        split at h
        · rw [ih _ _ h, setCells_length]
        · cases h
    rw [e2 _ _ _ hcs, zeroRow_length, hs] at e1
    simpa using e1.symm
  refine ⟨_, _, ρ', .slice (some ⟨w.heap.size, 0, none⟩) n n, ?_, .inl rfl, h1, h3, ?_⟩
  · have hn' : ¬ (16777216 < n * i.size) := by omega
    by_cases h0 : n * i.size = 0
    · rw [h0] at g1
      have e0 : (Array.range 0).map (z.cells[· % z.cells.size]!) = #[] := by simp
      have e1 : (Array.range 0).map ((#[] : Array Value)[· % (#[] : Array Value).size]!) = #[] := by simp
      rw [e0] at g1
      simp only [execOp, ho, Instr.buildSlice, Sem.run_bind, run_underlying ht, Result.andThen_ok, run_sizeOf' hi, h0, Sem.run_ite, Sem.run_pure, e1, newRow]
      simp [g1]
    · simp only [execOp, ho, Instr.buildSlice, Sem.run_bind, run_underlying ht, Result.andThen_ok, run_sizeOf' hi, h0, Sem.run_ite, Sem.run_pure, newRow, zeroValue, run_typeInfo w hi, hz]
      simp [g1, hn']
  · refine .sl _ _ _ _ _ id (Nat.le_refl _) (.inr ⟨AddrRel.new hr h2, fun hb l hl => ?_⟩)
    change ρ' σ.size = some l at hl
    rw [h2] at hl
    cases hl
    simp [hRs]
end
end Go.AH
