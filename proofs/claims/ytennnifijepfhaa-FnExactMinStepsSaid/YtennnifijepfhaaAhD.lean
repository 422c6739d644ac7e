/- Operations without memory: each does what its abstract step does. -/
import Derived.Test.YtennnifijepfhaaAhC
namespace Go.AH
open Go Go.RowKit

section
variable {P : Program} {o : Oper}
theorem sim_mov {x : Operand} {ax : AOpd} (ho : o.op = .move x ∨ o.op = .assign x) (hx : compOpd x = some ax) : Sim P o (fun fr σ => (AOp.mov ax).step fr σ) := by
  refine Sim.still fun w0 ρ σ w fr a v σ' hr hf he => ?_
  simp only [AOp.step, Option.some.injEq, Prod.mk.injEq] at he
  obtain ⟨rfl, rfl⟩ := he
  refine ⟨rfl, a.eval x, ?_, compOpd_ev hx hf⟩
  rcases ho with ho | ho <;> simp [execOp, ho]
theorem sim_pick {c x y : Operand} {ac ax ay : AOpd} (ho : o.op = .pick c x y) (hc : compOpd c = some ac) (hx : compOpd x = some ax) (hy : compOpd y = some ay) : Sim P o (fun fr σ => (AOp.pick ac ax ay).step fr σ) := by
  refine Sim.still fun w0 ρ σ w fr a v σ' hr hf he => ?_
  have h1 := compOpd_ev hc hf
  have h2 := compOpd_ev hx hf
  have h3 := compOpd_ev hy hf
  simp only [AOp.step] at he
  split at he
  · rename_i t ht
    rw [ht] at h1
    have h1 := h1.bool_inv
    simp only [Option.some.injEq, Prod.mk.injEq] at he
    obtain ⟨rfl, rfl⟩ := he
    cases t
    · exact ⟨rfl, a.eval y, by simp [execOp, ho, h1, asBool], by simpa using h3⟩
    · exact ⟨rfl, a.eval x, by simp [execOp, ho, h1, asBool], by simpa using h2⟩
  · cases he
theorem arith_run {op : BinOp} {k : IntKind} {x y : Int} {v : Value} (h : arithA op k x y = some v) (t : TypeId) (w : World) : (binOp op t (.int k x) (.int k y)).run P w = .ok v w ∧ ∀ (B : Nat) (ρ : Ren), VRel B ρ v v := by
  cases op <;> simp only [arithA] at h
  case add => cases h; exact ⟨by simp [binOp, Op.intArith], fun _ _ => .int _ _⟩
  case sub => cases h; exact ⟨by simp [binOp, Op.intArith], fun _ _ => .int _ _⟩
  case mul => cases h; exact ⟨by simp [binOp, Op.intArith], fun _ _ => .int _ _⟩
  case quo =>
    split at h
    · cases h
    · rename_i hy; cases h; exact ⟨by simp [binOp, Op.intDiv, hy], fun _ _ => .int _ _⟩
  case rem =>
    split at h
    · cases h
    · rename_i hy; cases h; exact ⟨by simp [binOp, Op.intDiv, hy], fun _ _ => .int _ _⟩
  case and => cases h; exact ⟨by simp [binOp]; rfl, fun _ _ => .int _ _⟩
  case or => cases h; exact ⟨by simp [binOp]; rfl, fun _ _ => .int _ _⟩
  case xor => cases h; exact ⟨by simp [binOp]; rfl, fun _ _ => .int _ _⟩
  case andNot => cases h; exact ⟨by simp [binOp]; rfl, fun _ _ => .int _ _⟩
  case eql => cases h; exact ⟨by simp [binOp, Op.intCmp], fun _ _ => .bool _⟩
  case neq => cases h; exact ⟨by simp [binOp, Op.intCmp], fun _ _ => .bool _⟩
  case lss => cases h; exact ⟨by simp [binOp, Op.intCmp], fun _ _ => .bool _⟩
  case leq => cases h; exact ⟨by simp [binOp, Op.intCmp], fun _ _ => .bool _⟩
  case gtr => cases h; exact ⟨by simp [binOp, Op.intCmp], fun _ _ => .bool _⟩
  case geq => cases h; exact ⟨by simp [binOp, Op.intCmp], fun _ _ => .bool _⟩
  all_goals cases h
theorem sim_bin {op : BinOp} {t ty : TypeId} {x y : Operand} {ax ay : AOpd} (ho : o.op = .binOp op t x y ty) (hx : compOpd x = some ax) (hy : compOpd y = some ay) : Sim P o (fun fr σ => (AOp.bin op ax ay).step fr σ) := by
  refine Sim.still fun w0 ρ σ w fr a v σ' hr hf he => ?_
  have h2 := compOpd_ev hx hf
  have h3 := compOpd_ev hy hf
  simp only [AOp.step] at he
  split at he
  · rename_i k m k' n e1 e2
    rw [e1] at h2
    rw [e2] at h3
    have h2 := h2.int_inv
    have h3 := h3.int_inv
    split at he
    · rename_i hk
      subst hk
      simp only [Option.map_eq_some_iff, Prod.mk.injEq] at he
      obtain ⟨v', hv, rfl, rfl⟩ := he
      obtain ⟨g1, g2⟩ := arith_run hv t w (P := P)
      refine ⟨rfl, v', ?_, g2 _ _⟩
      simp only [execOp, ho, h2, h3, eqGuard]
      by_cases hop : (!(op matches .eql | .neq)) = true
      · simp [g1]
      · simp [g1]
    · cases he
  · cases he
theorem sim_shift {op : BinOp} {t ty : TypeId} {x y : Operand} {ax ay : AOpd} (ho : o.op = .binOp op t x y ty) (hop : op = .shl ∨ op = .shr) (hx : compOpd x = some ax) (hy : compOpd y = some ay) : Sim P o (fun fr σ => (AOp.shift op ax ay).step fr σ) := by
  refine Sim.still fun w0 ρ σ w fr a v σ' hr hf he => ?_
  have h2 := compOpd_ev hx hf
  have h3 := compOpd_ev hy hf
  simp only [AOp.step] at he
  split at he
  · rename_i k m k' n e1 e2
    rw [e1] at h2
    rw [e2] at h3
    have h2 := h2.int_inv
    have h3 := h3.int_inv
    simp only [Option.map_eq_some_iff, Prod.mk.injEq] at he
    obtain ⟨v', hv, rfl, rfl⟩ := he
    unfold shiftA at hv
    split at hv
    · cases hv
    · rename_i hn
      rcases hop with rfl | rfl
      · cases hv
        exact ⟨rfl, _, by simp [execOp, ho, h2, h3, eqGuard, binOp, Op.shift, hn], .int _ _⟩
      · cases hv
        exact ⟨rfl, _, by simp [execOp, ho, h2, h3, eqGuard, binOp, Op.shift, hn], .int _ _⟩
  · cases he
theorem run_equal_bool {t : TypeId} (ht : P.underlying t = some .bool) (a b : Bool) (w : World) : (Op.equal t (.bool a) (.bool b)).run P w = .ok (a == b) w := by
  have : ∀ d, (Op.equalIn (d + 1) t (.bool a) (.bool b)).run P w = .ok (a == b) w := by
    intro d
    unfold Op.equalIn
    rw [Sem.run_bind, run_underlying ht w]
    rfl
  exact this 9999
theorem sim_beq {op : BinOp} {t ty : TypeId} {x y : Operand} {ax ay : AOpd} (ho : o.op = .binOp op t x y ty) (hop : op = .eql ∨ op = .neq) (ht : P.underlying t = some .bool) (hx : compOpd x = some ax) (hy : compOpd y = some ay) :
    Sim P o (fun fr σ => (AOp.beq (isNeq op) ax ay).step fr σ) := by
  refine Sim.still fun w0 ρ σ w fr a v σ' hr hf he => ?_
  have h2 := compOpd_ev hx hf
  have h3 := compOpd_ev hy hf
  simp only [AOp.step] at he
  split at he
  · rename_i m n e1 e2
    rw [e1] at h2
    rw [e2] at h3
    have h2 := h2.bool_inv
    have h3 := h3.bool_inv
    simp only [Option.some.injEq, Prod.mk.injEq] at he
    obtain ⟨rfl, rfl⟩ := he
    have hu := run_equal_bool ht m n w
    rcases hop with rfl | rfl
    · exact ⟨rfl, .bool (m == n), by simp [execOp, ho, h2, h3, eqGuard, binOp, hu], by simpa [isNeq] using .bool _⟩
    · exact ⟨rfl, .bool (!(m == n)), by simp [execOp, ho, h2, h3, eqGuard, binOp, hu], by simpa [isNeq, bne] using .bool _⟩
  · cases he
theorem sim_un {op : UnOp} {t : TypeId} {x : Operand} {ax : AOpd} (ho : o.op = .unOp op t x) (hx : compOpd x = some ax) : Sim P o (fun fr σ => (AOp.un op ax).step fr σ) := by
  refine Sim.still fun w0 ρ σ w fr a v σ' hr hf he => ?_
  have h2 := compOpd_ev hx hf
  simp only [AOp.step] at he
  split at he
  · rename_i e1
    rw [e1] at h2
    have h2 := h2.int_inv
    simp only [Option.some.injEq, Prod.mk.injEq] at he
    obtain ⟨rfl, rfl⟩ := he
    exact ⟨rfl, _, by simp [execOp, ho, h2, Op.unary, Op.intArith], .int _ _⟩
  · rename_i e1
    rw [e1] at h2
    have h2 := h2.bool_inv
    simp only [Option.some.injEq, Prod.mk.injEq] at he
    obtain ⟨rfl, rfl⟩ := he
    exact ⟨rfl, _, by simp [execOp, ho, h2, Op.unary], .bool _⟩
  · cases he
theorem sim_conv {s t : TypeId} {k : IntKind} {x : Operand} {ax : AOpd} {d : TypeDesc} (ho : o.op = .convert s t x) (hs : P.underlying s = some d) (ht : P.underlying t = some (.int k)) (hx : compOpd x = some ax) : Sim P o (fun fr σ => (AOp.conv k ax).step fr σ) := by
  refine Sim.still fun w0 ρ σ w fr a v σ' hr hf he => ?_
  have h2 := compOpd_ev hx hf
  simp only [AOp.step] at he
  split at he
  · rename_i e1
    rw [e1] at h2
    have h2 := h2.int_inv
    simp only [Option.some.injEq, Prod.mk.injEq] at he
    obtain ⟨rfl, rfl⟩ := he
    have hu := run_underlying ht w
    have hv := run_underlying hs w
    exact ⟨rfl, _, by simp [execOp, ho, h2, convert, hu, hv, Conv.intToInt], .int _ _⟩
  · cases he
theorem sim_nilck {x : Operand} {ax : AOpd} (ho : o.op = .nilCheck x) (hx : compOpd x = some ax) : Sim P o (fun fr σ => (AOp.nilck ax).step fr σ) := by
  refine Sim.still fun w0 ρ σ w fr a v σ' hr hf he => ?_
  have h2 := compOpd_ev hx hf
  simp only [AOp.step] at he
  split at he
  · rename_i e1
    rw [e1] at h2
    obtain ⟨a', e2, h3⟩ := h2.ptr_inv
    simp only [Option.some.injEq, Prod.mk.injEq] at he
    obtain ⟨rfl, rfl⟩ := he
    exact ⟨rfl, .pointer (some a'), by simp [execOp, ho, e2], .ptr _ _ h3⟩
  · rename_i e1
    rename_i f first cs
    split at he
    · rename_i h0
      obtain rfl : first = #[] := by simpa using h0
      rw [e1] at h2
      obtain ⟨a', e2, h3⟩ := h2.func_inv
      simp only [Option.some.injEq, Prod.mk.injEq] at he
      obtain ⟨rfl, rfl⟩ := he
      refine ⟨rfl, .func f #[] a', ?_, VRel.mkFunc h3⟩
      cases f <;> simp [execOp, ho, e2]
    · cases he
  · cases he
theorem sim_extract {x : Operand} {i : Nat} {ax : AOpd} (ho : o.op = .extract x i) (hx : compOpd x = some ax) : Sim P o (fun fr σ => (AOp.extract ax i).step fr σ) := by
  refine Sim.still fun w0 ρ σ w fr a v σ' hr hf he => ?_
  have h2 := compOpd_ev hx hf
  simp only [AOp.step] at he
  split at he
  · rename_i vs e1
    rw [e1] at h2
    obtain ⟨vs', e2, h3⟩ := h2.tup_inv
    simp only [Option.map_eq_some_iff, Prod.mk.injEq] at he
    obtain ⟨u, hu, rfl, rfl⟩ := he
    obtain ⟨u', hu', hr'⟩ := h3.get (i := i) (x := u) (by simpa using hu)
    have hu2 : vs'[i]? = some u' := by simpa using hu'
    exact ⟨rfl, u', by simp [execOp, ho, e2, Instr.extract, hu2], hr'⟩
  · cases he
theorem sim_mkfn {f : FuncId} {xs : Array Operand} {ax : List AOpd} (ho : o.op = .makeFunc (.func f) #[] xs) (hx : xs.toList.mapM compOpd = some ax) : Sim P o (fun fr σ => (AOp.mkfn f ax).step fr σ) := by
  refine Sim.still fun w0 ρ σ w fr a v σ' hr hf he => ?_
  simp only [AOp.step, Option.some.injEq, Prod.mk.injEq] at he
  obtain ⟨rfl, rfl⟩ := he
  refine ⟨rfl, .func (.func f) #[] (xs.map a.eval), by simp [execOp, ho, Instr.makeFunc], ?_⟩
  have : LRel w0.heap.size ρ (ax.map (·.ev fr)) (xs.toList.map a.eval) := by
    generalize xs.toList = l at hx
    induction l generalizing ax with
    | nil =>
      have e : some [] = some ax := hx
      cases e
      exact LRel.nil _ _
    | cons y l ih =>
      simp only [List.mapM_cons, Option.bind_eq_bind, Option.bind_eq_some_iff] at hx
      obtain ⟨ay, hy, r, hr', e⟩ := hx
      simp only [Option.pure_def, Option.some.injEq] at e
      subst e
      exact LRel.cons (compOpd_ev hy hf) (ih hr')
  have h := VRel.mkFunc (f := .func f) this
  have e : xs.map a.eval = (xs.toList.map a.eval).toArray := Array.ext' (by rw [Array.toList_map])
  rw [e]; exact h
end
end Go.AH
