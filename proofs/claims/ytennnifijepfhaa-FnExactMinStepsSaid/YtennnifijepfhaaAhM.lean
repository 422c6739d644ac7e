/- One operation, and a region in the text's order. -/
import Derived.Test.YtennnifijepfhaaAhL
namespace Go.AH
open Go Go.RowKit

/-- One operation. -/
def astep (P : Program) (w0 : World) (o : AOper) (N : Fr → Heap → Prop) (fr : Fr) (σ : Heap) : Prop :=
  match gval fr o.guard with
  | some true =>
    match o.ins with
    | .op a => match a.step fr σ with
      | some (v, σ') => N (upd fr o.dst v) σ'
      | none => False
    | .call f args => ACalls P w0 f (args.map (·.ev fr)) σ fun v σ' => N (upd fr o.dst v) σ'
    | .callv x args => match fnOf (x.ev fr) with
      | some (f, cap) => callOk P f = true ∧ ACalls P w0 f (args.map (·.ev fr) ++ cap) σ fun v σ' => N (upd fr o.dst v) σ'
      | none => False
  | some false => N (upd fr o.dst undef) σ
  | none => False
section
variable {P : Program} {w0 : World}
theorem rwp_step {o : AOper} {r : List AOper} {Q : Fr → Heap → Prop} {fr : Fr} {σ : Heap} (h : rwp P w0 (o :: r) Q fr σ) : astep P w0 o (rwp P w0 r Q) fr σ := by
  unfold rwp at h
  unfold astep
  split
  · rename_i hg
    simp only [hg] at h
    split
    · rename_i a ha
      simp only [ha] at h
      split
      · rename_i v σ' hs
        simp only [hs] at h
        exact h.2
      · rename_i hs
        simp only [hs] at h
    · rename_i f args ha
      simp only [ha] at h
      exact h.mono fun v σ' h => h.2
    · rename_i x args ha
      simp only [ha] at h
      split
      · rename_i f cap hx
        simp only [hx] at h
        exact ⟨h.1, h.2.mono fun v σ' h => h.2⟩
      · rename_i hx
        simp only [hx] at h
  · rename_i hg
    simp only [hg] at h
    exact h
  · rename_i hg
    simp only [hg] at h

def compIns (P : Program) (o : Oper) : Option AIns :=
  match o.op with
  | .call c => match c.callee with
    | .value (.func g) => if callOk P g = true then (c.args.toList.mapM compOpd).map (AIns.call g) else none
    | .value x => (compOpd x).bind fun ax => (c.args.toList.mapM compOpd).map (AIns.callv ax)
    | _ => (compOp P o).map .op
  | _ => (compOp P o).map .op
def compGuard (n : Nat) (ops : Array Oper) : Option (Nat × Bool) → Option (Option (Nat × Bool))
  | none => some none
  | some (g, b) => match (ops[g]?).bind (·.dst) with
    | some t => if t < n then some (some (t, b)) else none
    | none => none
def dstOk (n : Nat) : Option Nat → Bool
  | none => true
  | some d => decide (d < n)
def compOper (P : Program) (n : Nat) (ops : Array Oper) (o : Oper) : Option AOper :=
  if dstOk n o.dst = true then (compGuard n ops o.guard).bind fun g => (compIns P o).map fun i => ⟨o.dst, g, i, []⟩ else none

/-- The whole state of a frame and the world. -/
structure Rel (w0 : World) (n : Nat) (ρ : Ren) (fr : Fr) (σ : Heap) (a : Act) (w : World) : Prop where
  heap : ARel w0 ρ σ w
  frame : Frames w0.heap.size ρ fr a
  size : a.tmps.size = n
  defers : a.defers = []
theorem Frames.mono {B : Nat} {ρ ρ' : Ren} (hρ : ρ.le ρ') {fr : Fr} {a : Act} (h : Frames B ρ fr a) : Frames B ρ' fr a := fun t => (h t).mono hρ
theorem Rel.put {n : Nat} {ρ ρ' : Ren} {fr : Fr} {σ σ' : Heap} {a : Act} {w w' : World} (h : Rel w0 n ρ fr σ a w) (hρ : ρ.le ρ') (hr : ARel w0 ρ' σ' w') {d : Option Nat} (hd : dstOk n d = true) {v v' : Value} (hv : VRel w0.heap.size ρ' v v') :
    Rel w0 n ρ' (upd fr d v) σ' (a.put d v') w' := by
  refine ⟨hr, fun t => ?_, ?_, ?_⟩
  · cases d with
    | none => exact (h.frame t).mono hρ
    | some d =>
      have hd' : d < a.tmps.size := by rw [h.size]; simpa [dstOk] using hd
      simp only [upd, Act.put]
      by_cases ht : t = d
      · subst ht
        rw [if_pos rfl]
        have : (a.tmps.setIfInBounds t v').getD t undef = v' := by simp [Array.getD_eq_getD_getElem?, hd']
        rw [this]; exact hv
      · rw [if_neg ht]
        have : (a.tmps.setIfInBounds d v').getD t undef = a.tmps.getD t undef := by
          simp only [Array.getD_eq_getD_getElem?, Array.getElem?_setIfInBounds]
          rw [if_neg (fun e => ht e.symm)]
        rw [this]; exact (h.frame t).mono hρ
  · cases d <;> simp [Act.put, h.size]
  · cases d <;> simp [Act.put, h.defers]
theorem mapM_ev {B : Nat} {ρ : Ren} {fr : Fr} {a : Act} (hf : Frames B ρ fr a) : ∀ {l : List Operand} {al : List AOpd}, l.mapM compOpd = some al → LRel B ρ (al.map (·.ev fr)) (l.map a.eval)
  | [], al, h => by
    have e : some [] = some al := h
    cases e
    exact LRel.nil _ _
  | x :: l, al, h => by
    simp only [List.mapM_cons, Option.bind_eq_bind, Option.bind_eq_some_iff] at h
    obtain ⟨ax, hx, r, hr, e⟩ := h
    simp only [Option.pure_def, Option.some.injEq] at e
    subst e
    exact LRel.cons (compOpd_ev hx hf) (mapM_ev hf hr)
theorem callOk_run {g : FuncId} (h : callOk P g = true) (vs : Array Value) (w : World) : (callFunc g vs).run P w = .ok (.enter g vs) w := by
  unfold callOk at h
  split at h
  · rename_i fn hfn
    simp only [Bool.and_eq_true] at h
    obtain ⟨h1, h2⟩ := h
    have h1' : (fn.name == "runtime.NumGoroutine") = false := by simpa [bne] using h1
    have h2' : fn.body.isNone = false := by cases hb : fn.body <;> simp_all
    simp only [callFunc, Sem.run_bind, run_program, Result.andThen_ok, hfn]
    simp [h1', h2']
  · cases h
/-- One operation of the model, carried out in the state a, w. -/
theorem oper_sound {n : Nat} {ops : Array Oper} {o : Oper} {ao : AOper} (hc : compOper P n ops o = some ao) {N : Fr → Heap → Prop} {ρ : Ren} {fr : Fr} {σ : Heap} {a : Act} {w : World} (h : astep P w0 ao N fr σ) (hr : Rel w0 n ρ fr σ a w)
    {K : Act → World → Prop} {Q : Exit → Act → World → Prop} (hK : ∀ fr' σ' ρ' a' w', N fr' σ' → ρ.le ρ' → Rel w0 n ρ' fr' σ' a' w' → K a' w') :
    if Region.wanted o (yielded ops a.tmps) = true then o.wp P a w K Q ∨ (o.asks P a w ∧ LetsOut Q) else K (a.put o.dst undef) w := by
  unfold compOper at hc
  split at hc
  · rename_i hd
    simp only [Option.bind_eq_some_iff, Option.map_eq_some_iff] at hc
    obtain ⟨g, hg, i, hi, rfl⟩ := hc
    unfold astep at h
    have hwant : ∀ b, gval fr g = some b → Region.wanted o (yielded ops a.tmps) = b := by
      intro b hb
      unfold Region.wanted
      unfold compGuard at hg
      cases hgd : o.guard with
      | none =>
        rw [hgd] at hg
        cases hg
        simp [gval] at hb
        simpa using hb
      | some p =>
        obtain ⟨j, want⟩ := p
        rw [hgd] at hg
        simp only at hg
        split at hg
        · rename_i t ht
          split at hg
          · rename_i htn
            cases hg
            simp only [yielded, ht, Option.bind_some]
            have hv := hr.frame t
            have hts : t < a.tmps.size := by rw [hr.size]; exact htn
            have hget : a.tmps[t]? = some (a.tmps.getD t undef) := by simp [Array.getD_eq_getD_getElem?, hts]
            rw [hget]
            generalize a.tmps.getD t undef = u at hv
            simp only [gval] at hb
            generalize fr t = x at hv hb
            cases x with
            | bool c =>
              have := hv.bool_inv
              subst this
              simp only [Option.some.injEq] at hb
              rw [← hb]
              cases c <;> cases want <;> rfl
            | tuple vs =>
              obtain ⟨vs', rfl, _⟩ := hv.tup_inv
              simp only at hb
              split at hb
              · simp only [Option.some.injEq] at hb
                rw [← hb]
                cases want <;> rfl
              · cases hb
            | _ => cases hb
          · cases hg
        · cases hg
    split at h
    · rename_i hgt
      simp only at hgt
      rw [hwant true hgt, if_pos rfl]
      refine .inl ?_
      unfold Oper.wp
      have hop : ∀ (ao : AOp), compOp P o = some ao → (match ao.step fr σ with | some (v, σ') => N (upd fr o.dst v) σ' | none => False) → o.upon P a K Q ((execOp a.eval o).run P w) := by
        intro ao hao h
        split at h
        · rename_i v σ' hs
          obtain ⟨nx, w', ρ', v', e1, e2, e3, e4, e5⟩ := compOp_sim hao w0 ρ σ w fr a v σ' hr.heap hr.frame hs
          rw [e1]
          rcases e2 with rfl | ⟨rfl, rfl⟩
          · rw [Oper.upon_value]; exact hK _ _ _ _ _ h e3 (hr.put e3 e4 hd e5)
          · rw [Oper.upon_skip]; exact hK _ _ _ _ _ h e3 (hr.put e3 e4 hd e5)
        · exact h.elim
      have hcall : ∀ (f : FuncId) (args : List Value) (vs : Array Value), LRel w0.heap.size ρ args vs.toList → (execOp a.eval o).run P w = .ok (.enter f vs) w → ACalls P w0 f args σ (fun v σ' => N (upd fr o.dst v) σ') → o.upon P a K Q ((execOp a.eval o).run P w) := by
        intro f args vs hl hrun hA
        rw [hrun, Oper.upon_enter]
        refine (hA ρ w vs hr.heap hl).mono ?_
        rintro e w' ⟨v, v', σ', ρ', rfl, q, e3, e4, e5⟩
        exact hK _ _ _ _ _ q e3 (hr.put e3 e4 hd e5)
      unfold compIns at hi
      split at hi
      · rename_i c hc
        split at hi
        · rename_i f hcal
          split at hi
          · rename_i hok
            simp only [Option.map_eq_some_iff] at hi
            obtain ⟨al, hal, rfl⟩ := hi
            simp only at h
            refine hcall f _ (c.args.map a.eval) (by simpa using mapM_ev hr.frame hal) ?_ h
            have hx : a.eval (.func f) = .func (.func f) #[] #[] := rfl
            simp [execOp, hc, resolve, hcal, hx, Deferred.ofValue, invoke, callOk_run hok]
          · cases hi
        · rename_i x hne hcal
          simp only [Option.bind_eq_some_iff, Option.map_eq_some_iff] at hi
          obtain ⟨ax, hax, al, hal, rfl⟩ := hi
          simp only at h
          split at h
          · rename_i f cap hfn
            have hv := compOpd_ev hax hr.frame
            unfold fnOf at hfn
            split at hfn
            · rename_i f' first cap' hev
              split at hfn
              · rename_i hz
                obtain rfl : first = #[] := by simpa using hz
                simp only [Option.some.injEq, Prod.mk.injEq] at hfn
                obtain ⟨rfl, rfl⟩ := hfn
                rw [hev] at hv
                obtain ⟨cs', e1, hl⟩ := hv.func_inv
                refine hcall f' _ (c.args.map a.eval ++ cs') (by simpa using (mapM_ev hr.frame hal).append hl) ?_ h.2
                simp [execOp, hc, resolve, hcal, e1, Deferred.ofValue, invoke, callOk_run h.1]
              · cases hfn
            · cases hfn
          · exact h.elim
        · simp only [Option.map_eq_some_iff] at hi
          obtain ⟨ao, hao, rfl⟩ := hi
          exact hop ao hao h
      · simp only [Option.map_eq_some_iff] at hi
        obtain ⟨ao, hao, rfl⟩ := hi
        exact hop ao hao h
    · rename_i hgf
      simp only at hgf
      rw [hwant false hgf, if_neg (by decide)]
      exact hK _ _ _ _ _ h (Ren.le.refl _) (hr.put (Ren.le.refl _) hr.heap hd (VRel.undef _ _))
    · exact h.elim
  · cases hc
/-- A region in the text's order. -/
theorem ops_sound {n : Nat} {ops : Array Oper} {K : Exit → Act → World → Prop} {N : Fr → Heap → Prop} : ∀ (l : List Nat) (aops : List AOper) (ρ : Ren) (fr : Fr) (σ : Heap) (a : Act) (w : World),
    l.mapM (fun i => (ops[i]?).bind (compOper P n ops)) = some aops → rwp P w0 aops N fr σ → Rel w0 n ρ fr σ a w → (∀ fr' σ' ρ' a' w', N fr' σ' → ρ.le ρ' → Rel w0 n ρ' fr' σ' a' w' → K .normal a' w') → wpOps P ops K l a w
  | [], aops, ρ, fr, σ, a, w, h, hw, hr, hK => by
    have e : some [] = some aops := h
    cases e
    exact hK _ _ _ _ _ hw (Ren.le.refl _) hr
  | i :: l, aops, ρ, fr, σ, a, w, h, hw, hr, hK => by
    simp only [List.mapM_cons, Option.bind_eq_bind, Option.bind_eq_some_iff] at h
    obtain ⟨ao, ⟨o, ho, hao⟩, r, hrr, e⟩ := h
    simp only [Option.pure_def, Option.some.injEq] at e
    subst e
    have := oper_sound hao (rwp_step hw) hr (K := wpOps P ops K l) (Q := K) (fun fr' σ' ρ' a' w' h1 h2 h3 => ops_sound l r ρ' fr' σ' a' w' hrr h1 h3 (fun fr2 σ2 ρ2 a2 w2 k1 k2 k3 => hK _ _ _ _ _ k1 (h2.trans k2) k3))
    unfold wpOps
    rw [ho]
    exact this
end
end Go.AH
