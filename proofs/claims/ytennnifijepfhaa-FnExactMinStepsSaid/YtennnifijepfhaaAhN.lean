/- Code, and a function's call. -/
import Derived.Test.YtennnifijepfhaaAhS
namespace Go.AH
open Go Go.RowKit

def compCode (P : Program) (n : Nat) : Code → Option ACode
  | .skip => some .skip
  | .region _ ops draw => (compRegion P n ops draw).map .region
  | .seq a b => match compCode P n a, compCode P n b with
    | some x, some y => some (.seq x y)
    | _, _ => none
  | .cond c a b => match compOpd c, compCode P n a, compCode P n b with
    | some z, some x, some y => some (.cond z x y)
    | _, _, _ => none
  | .block id c => (compCode P n c).map (.block id)
  | .loop c => (compCode P n c).map .loop
  | .exit id => some (.exit id)
  | .ret => some .ret
  | _ => none

theorem least_of {p : Nat → Prop} (h : ∃ k, p k) : ∃ k, p k ∧ ∀ j, p j → k ≤ j := by
  obtain ⟨k, hk⟩ := h
  induction k using Nat.strongRecOn with
  | _ k ih =>
    by_cases hs : ∃ j, j < k ∧ p j
    · obtain ⟨j, hj, hp⟩ := hs
      exact ih j hj hp
    · exact ⟨k, hk, fun j hj => Nat.le_of_not_lt fun hlt => hs ⟨j, hlt, hj⟩⟩
section
variable {P : Program} {w0 : World}
/-- The model's way of saying what the abstract post says. -/
def Lift (w0 : World) (n : Nat) (ρ : Ren) (Q : Ex → Fr → Heap → Prop) : Exit → Act → World → Prop :=
  fun e a w => ∃ x fr σ ρ', e = x.out ∧ Q x fr σ ∧ ρ.le ρ' ∧ Rel w0 n ρ' fr σ a w
theorem Lift.mono {n : Nat} {ρ ρ' : Ren} (h : ρ.le ρ') {Q : Ex → Fr → Heap → Prop} {e : Exit} {a : Act} {w : World} (hl : Lift w0 n ρ' Q e a w) : Lift w0 n ρ Q e a w := by
  obtain ⟨x, fr, σ, ρ2, h1, h2, h3, h4⟩ := hl
  exact ⟨x, fr, σ, ρ2, h1, h2, h.trans h3, h4⟩
theorem code_sound (hm : P.follows .mixedOrders = true) {n : Nat} : ∀ (c : Code) (ac : ACode) (Q : Ex → Fr → Heap → Prop) (ρ : Ren) (fr : Fr) (σ : Heap) (a : Act) (w : World), compCode P n c = some ac → AWp P w0 ac Q fr σ → Rel w0 n ρ fr σ a w → c.wp P (Lift w0 n ρ Q) a w
  | .skip, ac, Q, ρ, fr, σ, a, w, h, hw, hr => by
    cases h
    exact wp_skip ⟨.normal, fr, σ, ρ, rfl, hw, Ren.le.refl _, hr⟩
  | .region id ops draw, ac, Q, ρ, fr, σ, a, w, h, hw, hr => by
    simp only [compCode, Option.map_eq_some_iff] at h
    obtain ⟨aops, h1, rfl⟩ := h
    exact region_sound hm h1 hw hr fun fr' σ' ρ' a' w' k1 k2 k3 => ⟨.normal, fr', σ', ρ', rfl, k1, k2, k3⟩
  | .seq x y, ac, Q, ρ, fr, σ, a, w, h, hw, hr => by
    simp only [compCode] at h
    split at h
    · rename_i ax ay h1 h2
      cases h
      refine wp_seq (wp_mono (code_sound hm x ax _ ρ fr σ a w h1 hw hr) fun e a' w' hl => ?_)
      obtain ⟨ex, fr', σ', ρ', rfl, hq, hρ, hr'⟩ := hl
      cases ex with
      | normal => exact wp_mono (code_sound hm y ay Q ρ' fr' σ' a' w' h2 hq hr') fun e a2 w2 hl => hl.mono hρ
      | exit id => exact ⟨.exit id, fr', σ', ρ', rfl, hq, hρ, hr'⟩
      | ret => exact ⟨.ret, fr', σ', ρ', rfl, hq, hρ, hr'⟩
    · cases h
  | .cond c x y, ac, Q, ρ, fr, σ, a, w, h, hw, hr => by
    simp only [compCode] at h
    split at h
    · rename_i az ax ay h0 h1 h2
      cases h
      have hv := compOpd_ev h0 hr.frame
      unfold AWp at hw
      split at hw
      · rename_i t ht
        have ht' : az.ev fr = .bool t := by
          generalize az.ev fr = u at ht
          cases u <;> simp [boolOf] at ht
          rw [ht]
        rw [ht'] at hv
        refine wp_cond (t := t) hv.bool_inv ?_
        cases t
        · exact code_sound hm y ay Q ρ fr σ a w h2 (by simpa using hw) hr
        · exact code_sound hm x ax Q ρ fr σ a w h1 (by simpa using hw) hr
      · exact hw.elim
    · cases h
  | .block id c, ac, Q, ρ, fr, σ, a, w, h, hw, hr => by
    simp only [compCode, Option.map_eq_some_iff] at h
    obtain ⟨ax, h1, rfl⟩ := h
    refine wp_block (wp_mono (code_sound hm c ax _ ρ fr σ a w h1 hw hr) fun e a' w' hl => ?_)
    obtain ⟨ex, fr', σ', ρ', rfl, hq, hρ, hr'⟩ := hl
    cases ex with
    | normal => exact ⟨.normal, fr', σ', ρ', rfl, hq, hρ, hr'⟩
    | exit i =>
      simp only [exBlock] at hq
      show if i = id then _ else _
      split
      · rename_i hi; rw [if_pos hi] at hq; exact ⟨.normal, fr', σ', ρ', rfl, hq, hρ, hr'⟩
      · rename_i hi; rw [if_neg hi] at hq; exact ⟨.exit i, fr', σ', ρ', rfl, hq, hρ, hr'⟩
    | ret => exact ⟨.ret, fr', σ', ρ', rfl, hq, hρ, hr'⟩
  | .loop c, ac, Q, ρ, fr, σ, a, w, h, hw, hr => by
    simp only [compCode, Option.map_eq_some_iff] at h
    obtain ⟨ax, h1, rfl⟩ := h
    obtain ⟨k0, hk0⟩ := hw
    let J : Nat → Act → World → Prop := fun k a w => ∃ fr σ ρ', loopN (AWp P w0 ax) k Q fr σ ∧ ρ.le ρ' ∧ Rel w0 n ρ' fr σ a w
    open Classical in
    refine wp_loop (fun a w => ∃ k, J k a w) (fun a w => if h : ∃ k, J k a w then Classical.choose (least_of h) else 0) ⟨k0, fr, σ, ρ, hk0, Ren.le.refl _, hr⟩ ?_
    intro a w hI
    rw [dif_pos hI]
    have hmin := (Classical.choose_spec (least_of hI)).1
    generalize Classical.choose (least_of hI) = k at hmin
    obtain ⟨fr, σ, ρ', hl, hρ, hr⟩ := hmin
    cases k with
    | zero => exact hl.elim
    | succ k =>
      refine wp_mono (code_sound hm c ax _ ρ' fr σ a w h1 hl hr) fun e a' w' hl => ?_
      obtain ⟨ex, fr', σ', ρ2, rfl, hq, hρ2, hr'⟩ := hl
      cases ex with
      | normal =>
        have hJ : J k a' w' := ⟨fr', σ', ρ2, hq, hρ.trans hρ2, hr'⟩
        refine ⟨⟨k, hJ⟩, ?_⟩
        rw [dif_pos ⟨k, hJ⟩]
        exact Nat.lt_succ_of_le ((Classical.choose_spec (least_of ⟨k, hJ⟩)).2 k hJ)
      | exit id => exact ⟨.exit id, fr', σ', ρ2, rfl, hq, hρ.trans hρ2, hr'⟩
      | ret => exact ⟨.ret, fr', σ', ρ2, rfl, hq, hρ.trans hρ2, hr'⟩
  | .exit id, ac, Q, ρ, fr, σ, a, w, h, hw, hr => by
    cases h
    exact wp_exit ⟨.exit id, fr, σ, ρ, rfl, hw, Ren.le.refl _, hr⟩
  | .ret, ac, Q, ρ, fr, σ, a, w, h, hw, hr => by
    cases h
    exact wp_ret ⟨.ret, fr, σ, ρ, rfl, hw, Ren.le.refl _, hr⟩
  | .rangeFunc .., ac, Q, ρ, fr, σ, a, w, h, _, _ => by cases h
  | .scope _, ac, Q, ρ, fr, σ, a, w, h, _, _ => by cases h
  | .label _, ac, Q, ρ, fr, σ, a, w, h, _, _ => by cases h
  | .goto _, ac, Q, ρ, fr, σ, a, w, h, _, _ => by cases h
  | .refuse _, ac, Q, ρ, fr, σ, a, w, h, _, _ => by cases h

/-- How a result is told. -/
inductive ARes where
  | tmp (t : Nat)
  | cell (t n : Nat) (agg : Bool)
def ARes.val (fr : Fr) (σ : Heap) : ARes → Option Value
  | .tmp t => some (fr t)
  | .cell t n agg => match fr t with
    | .pointer (some a) => if a.spot = none then partA (σ.blk a.block).cells a.off n agg else none
    | _ => none
def compRes (P : Program) : ResultVar → Option ARes
  | .tmp t => some (.tmp t)
  | .cell a t => (P.underlying t).bind fun d => (P.info? t).map fun i => .cell a i.size (isAggD d)
def resVals (fr : Fr) (σ : Heap) : List ARes → Option (List Value)
  | [] => some []
  | r :: rs => match r.val fr σ, resVals fr σ rs with
    | some v, some vs => some (v :: vs)
    | _, _ => none
def resOf (vs : List Value) : Value := match vs with
  | [v] => v
  | vs => .tuple vs.toArray
/-- What a body must come to. -/
def retQ (rs : List ARes) (Q : Value → Heap → Prop) : Ex → Fr → Heap → Prop
  | .normal, fr, σ => match resVals fr σ rs with
    | some vs => Q (resOf vs) σ
    | none => False
  | .ret, fr, σ => match resVals fr σ rs with
    | some vs => Q (resOf vs) σ
    | none => False
  | .exit _, _, _ => False
theorem res_run {n : Nat} {ρ : Ren} {fr : Fr} {σ : Heap} {a : Act} {w : World} (hr : Rel w0 n ρ fr σ a w) : ∀ (l : List ResultVar) (rs : List ARes) (vs : List Value), l.mapM (compRes P) = some rs → resVals fr σ rs = some vs →
    ∃ vs', (l.mapM (fun
    | .tmp t => pure (a.tmps.getD t undef)
    | .cell a' t => do loadVar t (← asAddr (a.tmps.getD a' undef)) : ResultVar → Sem Value)).run P w = .ok vs' w ∧ LRel w0.heap.size ρ vs vs'
  | [], rs, vs, h, hv => by
    have e : some [] = some rs := h
    cases e
    cases hv
    exact ⟨[], rfl, LRel.nil _ _⟩
  | x :: l, rs, vs, h, hv => by
    simp only [List.mapM_cons, Option.bind_eq_bind, Option.bind_eq_some_iff] at h
    obtain ⟨ax, hx, r, hrr, e⟩ := h
    simp only [Option.pure_def, Option.some.injEq] at e
    subst e
    simp only [resVals] at hv
    split at hv
    · rename_i v vs2 h1 h2
      cases hv
      obtain ⟨vs', g1, g2⟩ := res_run hr l r vs2 hrr h2
      have hhead : ∃ v', ((fun
        | .tmp t => pure (a.tmps.getD t undef)
        | .cell a' t => do loadVar t (← asAddr (a.tmps.getD a' undef)) : ResultVar → Sem Value) x).run P w = .ok v' w ∧ VRel w0.heap.size ρ v v' := by
        cases x with
        | tmp t =>
          cases hx
          cases h1
          exact ⟨_, rfl, hr.frame t⟩
        | cell t ty =>
          simp only [compRes, Option.bind_eq_some_iff, Option.map_eq_some_iff] at hx
          obtain ⟨d, hd, i, hi, rfl⟩ := hx
          simp only [ARes.val] at h1
          have hf := hr.frame t
          split at h1
          · rename_i b hb
            split at h1
            · rw [hb] at hf
              obtain ⟨b', e1, hab⟩ := hf.ptr_inv
              obtain ⟨v', k1, k2⟩ := loadVar_run hd hi hr.heap hab h1
              exact ⟨v', by simp [e1, asAddr, k1], k2⟩
            · cases h1
          · cases h1
      obtain ⟨v', k1, k2⟩ := hhead
      refine ⟨v' :: vs', ?_, LRel.cons k2 g2⟩
      rw [List.mapM_cons]
      simp only [Sem.run_bind]
      rw [k1]
      simp only [Result.andThen_ok]
      rw [g1]
      rfl
    · cases hv
theorem resOf_rel {B : Nat} {ρ : Ren} {vs vs' : List Value} (h : LRel B ρ vs vs') : VRel B ρ (resOf vs) (if h : vs'.toArray.size = 1 then vs'.toArray[0] else .tuple vs'.toArray) := by
  match vs, vs', h with
  | [], [], h => exact .tup _ _ rfl (fun i x x' a => by simp at a)
  | [v], [v'], h => simpa [resOf] using h.2 0 _ _ rfl rfl
  | v :: u :: vs, v' :: u' :: vs', h =>
    rw [dif_neg (by simp)]
    exact .tup _ _ (by simpa using h.1) (fun i x x' a b => h.2 i x x' (by simpa using a) (by simpa using b))
  | [], _ :: _, h => have := h.1; simp at this
  | _ :: _, [], h => have := h.1; simp at this
  | [v], _ :: _ :: _, h => have := h.1; simp at this
  | _ :: _ :: _, [_], h => have := h.1; simp at this
def fr0 (args : List Value) : Fr := fun t => args.getD t undef
/-- A function, translated. -/
structure AFun where
  ntmps : Nat
  code : ACode
  res : List ARes
def compFun (P : Program) (fn : Func) : Option AFun :=
  match fn.body with
  | some c => (compCode P fn.ntmps c).bind fun ac => (fn.results.toList.mapM (compRes P)).map fun rs => ⟨fn.ntmps, ac, rs⟩
  | none => none
theorem acalls_of (hm : P.follows .mixedOrders = true) {f : FuncId} {fn : Func} {F : AFun} (hf : P.funcs[f]? = some fn) (hF : compFun P fn = some F) {args : List Value} (hn : args.length ≤ F.ntmps) {σ : Heap} {Q : Value → Heap → Prop}
    (h : AWp P w0 F.code (retQ F.res Q) (fr0 args) σ) : ACalls P w0 f args σ Q := by
  intro ρ w vs hr hl
  unfold compFun at hF
  split at hF
  · rename_i c hb
    simp only [Option.bind_eq_some_iff, Option.map_eq_some_iff] at hF
    obtain ⟨ac, hac, rs, hrs, rfl⟩ := hF
    simp only at hn h
    have hsz : vs.size = args.length := by have := hl.1; simpa using this.symm
    refine calls_of_wp hf hb (wp_mono (code_sound hm c ac _ ρ (fr0 args) σ _ w hac h ⟨hr, fun t => ?_, by simp; omega, rfl⟩) fun e a' w' hL => ?_)
    · simp only [fr0]
      by_cases ht : t < args.length
      · have h1 : args[t]? = some args[t] := List.getElem?_eq_getElem ht
        obtain ⟨x', g1, g2⟩ := hl.get h1
        have g3 : vs[t]? = some x' := by simpa using g1
        have e1 : args.getD t undef = args[t] := by simp [List.getD_eq_getElem?_getD, h1]
        have e2 : (vs ++ Array.replicate (fn.ntmps - vs.size) undef).getD t undef = x' := by
          rw [Array.getD_eq_getD_getElem?, Array.getElem?_append_left (by omega), g3]; rfl
        rw [e1, e2]; exact g2
      · have e1 : args.getD t undef = undef := by simp [List.getD_eq_getElem?_getD, List.getElem?_eq_none (Nat.le_of_not_lt ht)]
        have e2 : (vs ++ Array.replicate (fn.ntmps - vs.size) undef).getD t undef = undef := by
          rw [Array.getD_eq_getD_getElem?, Array.getElem?_append_right (by omega), Array.getElem?_replicate]
          split <;> rfl
        rw [e1, e2]; exact VRel.undef _ _
    · obtain ⟨ex, fr', σ', ρ', rfl, hq, hρ, hr'⟩ := hL
      have hgoal : ∀ (hv : match resVals fr' σ' rs with | some vs => Q (resOf vs) σ' | none => False), a'.defers = [] ∧ ∃ v, (results fn a'.tmps).run P w' = .ok v w' ∧ ∃ v1 v2 σ2 ρ2, Ending.returned v = .returned v2 ∧ Q v1 σ2 ∧ ρ.le ρ2 ∧ ARel w0 ρ2 σ2 w' ∧ VRel w0.heap.size ρ2 v1 v2 := by
        intro hv
        refine ⟨hr'.defers, ?_⟩
        split at hv
        · rename_i vals hvals
          obtain ⟨vs', g1, g2⟩ := res_run (P := P) hr' fn.results.toList rs vals hrs hvals
          refine ⟨if h : vs'.toArray.size = 1 then vs'.toArray[0] else .tuple vs'.toArray, ?_, resOf vals, _, σ', ρ', rfl, hv, hρ, hr'.heap, resOf_rel g2⟩
          unfold results
          rw [← Array.toList_mapM, Sem.run_map] at g1
          simp only [Sem.run_bind]
          generalize hgen : Sem.run P (fn.results.mapM _) w' = r at g1 ⊢
          cases r with
          | ok x w2 =>
            simp only [Result.andThen_ok, Result.ok.injEq] at g1
            obtain ⟨g1, rfl⟩ := g1
            subst g1
            rfl
          | halt x w2 => simp [Result.andThen] at g1
        · exact hv.elim
      cases ex with
      | normal => exact hgoal hq
      | ret => exact hgoal hq
      | exit id => exact hq.elim
  · cases hF
end
end Go.AH
