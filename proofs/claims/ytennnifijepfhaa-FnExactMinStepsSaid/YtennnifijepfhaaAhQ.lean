/- What a step looks at: temporaries, and whether it looks at the heap; which operations a region's operation waits for. -/
import Derived.Test.YtennnifijepfhaaAhM
namespace Go.AH
open Go Go.RowKit

def AOpd.tmps : AOpd → List Nat
  | .t n => [n]
  | .c _ => []
def oTmps : Option AOpd → List Nat
  | some x => x.tmps
  | none => []
def AOp.tmps : AOp → List Nat
  | .mov x | .box x | .load _ _ x | .nilck x | .un _ x | .conv _ x | .faddr _ x | .field _ _ _ x | .extract x _ | .len x | .clear _ _ x | .snil _ x => x.tmps
  | .pick c a b => c.tmps ++ (a.tmps ++ b.tmps)
  | .alloc _ => []
  | .build _ ps | .lit _ _ _ ps => ps.flatMap fun p => p.2.2.tmps
  | .store _ x y | .bin _ x y | .shift _ x y | .beq _ x y | .aeq _ _ x y | .mk _ _ _ x y | .iaddr _ x y | .iaddrA _ _ x y | .index _ _ _ x y | .mx _ x y | .append _ _ x y => x.tmps ++ y.tmps
  | .slice _ x lo hi m => x.tmps ++ (oTmps lo ++ (oTmps hi ++ oTmps m))
  | .mkfn _ cap => cap.flatMap AOpd.tmps
def AIns.tmps : AIns → List Nat
  | .op a => a.tmps
  | .call _ args => args.flatMap AOpd.tmps
  | .callv x args => x.tmps ++ args.flatMap AOpd.tmps
/-- It doesn't look at the heap, and leaves it alone. -/
def AOp.pure : AOp → Bool
  | .mov _ | .pick _ _ _ | .build _ _ | .nilck _ | .bin _ _ _ | .shift _ _ _ | .beq _ _ _ | .aeq _ _ _ _ | .un _ _ | .conv _ _ | .faddr _ _ | .field _ _ _ _ | .iaddr _ _ _ | .iaddrA _ _ _ _ | .index _ _ _ _ _ | .extract _ _ | .len _ | .mx _ _ _ | .snil _ _ | .mkfn _ _ => true
  | _ => false
/-- It leaves the heap alone. -/
def AOp.stable : AOp → Bool
  | .load _ _ _ | .slice _ _ _ _ _ => true
  | a => a.pure
def agree (fr fr' : Fr) (l : List Nat) : Prop := ∀ t ∈ l, fr t = fr' t
theorem agree.left {fr fr' : Fr} {l k : List Nat} (h : agree fr fr' (l ++ k)) : agree fr fr' l := fun t ht => h t (List.mem_append_left _ ht)
theorem agree.right {fr fr' : Fr} {l k : List Nat} (h : agree fr fr' (l ++ k)) : agree fr fr' k := fun t ht => h t (List.mem_append_right _ ht)
theorem AOpd.ev_agree {fr fr' : Fr} {x : AOpd} (h : agree fr fr' x.tmps) : x.ev fr = x.ev fr' := by
  cases x with
  | t n => exact h n (by simp [AOpd.tmps])
  | c v => rfl
theorem map_agree {fr fr' : Fr} : ∀ {l : List AOpd}, agree fr fr' (l.flatMap AOpd.tmps) → l.map (·.ev fr) = l.map (·.ev fr')
  | [], _ => rfl
  | x :: l, h => by
    rw [List.flatMap_cons] at h
    rw [List.map_cons, List.map_cons, AOpd.ev_agree h.left, map_agree h.right]
theorem ps_agree {fr fr' : Fr} : ∀ {l : List (Nat × Nat × AOpd)}, agree fr fr' (l.flatMap fun p => p.2.2.tmps) → psEv fr l = psEv fr' l
  | [], _ => rfl
  | x :: l, h => by
    rw [List.flatMap_cons] at h
    have := ps_agree h.right
    unfold psEv at this ⊢
    rw [List.map_cons, List.map_cons, AOpd.ev_agree h.left, this]
theorem opt_agree {fr fr' : Fr} {x : Option AOpd} (h : agree fr fr' (oTmps x)) : x.map (·.ev fr) = x.map (·.ev fr') := by
  cases x with
  | none => rfl
  | some x => simp only [Option.map_some, AOpd.ev_agree h]
theorem AOp.step_agree {fr fr' : Fr} {a : AOp} (h : agree fr fr' a.tmps) (σ : Heap) : a.step fr σ = a.step fr' σ := by
  cases a with
  | mov x => simp only [AOp.step, AOpd.ev_agree h]
  | pick c a b => simp only [AOp.step, AOpd.ev_agree h.left, AOpd.ev_agree h.right.left, AOpd.ev_agree h.right.right]
  | alloc z => rfl
  | box x => simp only [AOp.step, AOpd.ev_agree h]
  | build z ps => simp only [AOp.step, ps_agree h]
  | lit e l z ps => simp only [AOp.step, ps_agree h]
  | load n g x => simp only [AOp.step, AOpd.ev_agree h]
  | store n x y => simp only [AOp.step, AOpd.ev_agree h.left, AOpd.ev_agree h.right]
  | nilck x => simp only [AOp.step, AOpd.ev_agree h]
  | bin op x y => simp only [AOp.step, AOpd.ev_agree h.left, AOpd.ev_agree h.right]
  | shift op x y => simp only [AOp.step, AOpd.ev_agree h.left, AOpd.ev_agree h.right]
  | beq g x y => simp only [AOp.step, AOpd.ev_agree h.left, AOpd.ev_agree h.right]
  | aeq n g x y => simp only [AOp.step, AOpd.ev_agree h.left, AOpd.ev_agree h.right]
  | un op x => simp only [AOp.step, AOpd.ev_agree h]
  | conv k x => simp only [AOp.step, AOpd.ev_agree h]
  | mk e b z x y => simp only [AOp.step, AOpd.ev_agree h.left, AOpd.ev_agree h.right]
  | slice e x lo hi m => simp only [AOp.step, AOpd.ev_agree h.left, opt_agree h.right.left, opt_agree h.right.right.left, opt_agree h.right.right.right]
  | faddr o x => simp only [AOp.step, AOpd.ev_agree h]
  | field o n g x => simp only [AOp.step, AOpd.ev_agree h]
  | iaddr e x y => simp only [AOp.step, AOpd.ev_agree h.left, AOpd.ev_agree h.right]
  | iaddrA n e x y => simp only [AOp.step, AOpd.ev_agree h.left, AOpd.ev_agree h.right]
  | index n e g x y => simp only [AOp.step, AOpd.ev_agree h.left, AOpd.ev_agree h.right]
  | extract x i => simp only [AOp.step, AOpd.ev_agree h]
  | len x => simp only [AOp.step, AOpd.ev_agree h]
  | mx g x y => simp only [AOp.step, AOpd.ev_agree h.left, AOpd.ev_agree h.right]
  | append e b x y => simp only [AOp.step, AOpd.ev_agree h.left, AOpd.ev_agree h.right]
  | clear e z x => simp only [AOp.step, AOpd.ev_agree h]
  | snil g x => simp only [AOp.step, AOpd.ev_agree h]
  | mkfn f cap => simp only [AOp.step, map_agree h]
def gtmps : Option (Nat × Bool) → List Nat
  | none => []
  | some (t, _) => [t]
theorem gval_agree {fr fr' : Fr} {g : Option (Nat × Bool)} (h : agree fr fr' (gtmps g)) : gval fr g = gval fr' g := by
  cases g with
  | none => rfl
  | some p => simp only [gval, h p.1 (by simp [gtmps])]
theorem AOp.pure_step {a : AOp} (hp : a.pure = true) {fr : Fr} {σ σ1 : Heap} {v : Value} (h : a.step fr σ = some (v, σ1)) (σ' : Heap) : a.step fr σ' = some (v, σ') := by
  cases a <;> first | (cases hp; done) | skip
  all_goals simp only [AOp.step] at h ⊢
  all_goals (repeat' split at h)
  all_goals first
    | (cases h; done)
    | skip
  all_goals (try subst_vars)
  all_goals (try simp only [*, and_self, if_true])
  all_goals first
    | (simp only [Option.some.injEq, Prod.mk.injEq] at h ⊢; exact ⟨h.1, trivial⟩)
    | (simp only [Option.map_eq_some_iff, Prod.mk.injEq] at h ⊢; obtain ⟨x, hx, h1, h2⟩ := h; exact ⟨x, hx, h1, trivial⟩)
    | skip
theorem AOp.stable_step {a : AOp} (hp : a.stable = true) {fr : Fr} {σ σ1 : Heap} {v : Value} (h : a.step fr σ = some (v, σ1)) : σ1 = σ := by
  by_cases hpu : a.pure = true
  · have := AOp.pure_step hpu h σ
    rw [h] at this
    simp only [Option.some.injEq, Prod.mk.injEq] at this
    exact this.2
  · cases a <;> first | (exact absurd rfl hpu) | (cases hp; done) | skip
    case load n g x =>
      simp only [AOp.step] at h
      split at h
      · split at h
        · simp only [Option.map_eq_some_iff, Prod.mk.injEq] at h
          obtain ⟨_, _, _, h⟩ := h
          exact h.symm
        · cases h
      · cases h
    case slice e x lo hi m =>
      simp only [AOp.step] at h
      split at h
      · simp only [Option.map_eq_some_iff, Prod.mk.injEq] at h
        obtain ⟨_, _, _, h⟩ := h
        exact h.symm
      · cases h

/-- Whom an operation waits for, as bits. -/
def orEdges (acc : List Nat) : List Edge → Nat
  | [] => 0
  | e :: es => if Region.binds .any e = true then 2 ^ e.on ||| acc.getD e.on 0 ||| orEdges acc es else orEdges acc es
def ancsFrom : List Oper → List Nat → List Nat
  | [], acc => acc
  | o :: r, acc => ancsFrom r (acc ++ [orEdges acc o.after.toList])
def ancs (ops : Array Oper) : List Nat := ancsFrom ops.toList []
theorem orEdges_bit {acc : List Nat} {j : Nat} : ∀ {es : List Edge}, (orEdges acc es).testBit j = true → ∃ e ∈ es, Region.binds .any e = true ∧ (j = e.on ∨ (acc.getD e.on 0).testBit j = true)
  | [], h => by simp [orEdges] at h
  | e :: es, h => by
    unfold orEdges at h
    split at h
    · rename_i hb
      rw [Nat.testBit_or, Nat.testBit_or, Bool.or_eq_true, Bool.or_eq_true, Nat.testBit_two_pow] at h
      rcases h with (h | h) | h
      · have h2 : e.on = j := by simpa using h
        exact ⟨e, List.mem_cons_self, hb, .inl h2.symm⟩
      · exact ⟨e, List.mem_cons_self, hb, .inr h⟩
      · obtain ⟨e', h1, h2⟩ := orEdges_bit h
        exact ⟨e', List.mem_cons_of_mem _ h1, h2⟩
    · obtain ⟨e', h1, h2⟩ := orEdges_bit h
      exact ⟨e', List.mem_cons_of_mem _ h1, h2⟩
theorem ancsFrom_get : ∀ (r : List Oper) (acc : List Nat), (ancsFrom r acc).length = acc.length + r.length ∧ (∀ i, i < acc.length → (ancsFrom r acc).getD i 0 = acc.getD i 0) ∧
    ∀ (i : Nat) (o : Oper), r[i]? = some o → (ancsFrom r acc).getD (acc.length + i) 0 = orEdges ((ancsFrom r acc).take (acc.length + i)) o.after.toList
  | [], acc => ⟨rfl, fun _ _ => rfl, fun i o h => by simp at h⟩
  | o :: r, acc => by
    obtain ⟨h1, h2, h3⟩ := ancsFrom_get r (acc ++ [orEdges acc o.after.toList])
    have hl : (acc ++ [orEdges acc o.after.toList]).length = acc.length + 1 := by simp
    rw [hl] at h1 h2 h3
    have hpre : ∀ i, i < acc.length → (ancsFrom (o :: r) acc).getD i 0 = acc.getD i 0 := fun i hi => by
      show (ancsFrom r _).getD i 0 = _
      rw [h2 i (by omega)]
      simp [List.getD_eq_getElem?_getD, List.getElem?_append_left hi]
    refine ⟨by show (ancsFrom r _).length = _; rw [h1]; simp; omega, hpre, fun i o' hi => ?_⟩
    cases i with
    | zero =>
      simp only [List.getElem?_cons_zero, Option.some.injEq] at hi
      subst hi
      show (ancsFrom r _).getD (acc.length + 0) 0 = orEdges ((ancsFrom r _).take (acc.length + 0)) _
      rw [h2 _ (by omega)]
      have ht : (ancsFrom r (acc ++ [orEdges acc o.after.toList])).take (acc.length + 0) = acc := by
        apply List.ext_getElem
        · simp [h1]; omega
        · intro n hn1 hn2
          have := h2 n (by omega)
          rw [List.getD_eq_getElem?_getD, List.getD_eq_getElem?_getD, List.getElem?_append_left hn2, List.getElem?_eq_getElem (by rw [h1]; omega), List.getElem?_eq_getElem hn2] at this
          simpa using this
      rw [ht]
      simp [List.getD_eq_getElem?_getD]
    | succ i =>
      simp only [List.getElem?_cons_succ] at hi
      have := h3 i o' hi
      rw [show acc.length + 1 + i = acc.length + (i + 1) by omega] at this
      exact this
theorem ancs_get {ops : Array Oper} {i : Nat} {o : Oper} (h : ops[i]? = some o) : (ancs ops).getD i 0 = orEdges ((ancs ops).take i) o.after.toList := by
  have := (ancsFrom_get ops.toList []).2.2 i o (by simpa using h)
  simpa [ancs] using this
/-- Whoever has come up has not come up ahead of whom it waits for. -/
def Closed (ops : Array Oper) (L : Array Bool) : Prop := ∀ (i : Nat) (o : Oper), ops[i]? = some o → L.getD i false = true → ∀ e ∈ o.after, Region.binds .any e = true → L.getD e.on false = true
theorem anc_listed {ops : Array Oper} {L : Array Bool} (hc : Closed ops L) : ∀ (i : Nat) (o : Oper), ops[i]? = some o → (∀ e ∈ o.after, Region.binds .any e = true → L.getD e.on false = true) → ∀ j, ((ancs ops).getD i 0).testBit j = true → L.getD j false = true := by
  intro i
  induction i using Nat.strongRecOn with
  | _ i ih =>
    intro o ho hall j hj
    rw [ancs_get ho] at hj
    obtain ⟨e, he, hb, hj⟩ := orEdges_bit hj
    have heL := hall e (by simpa using he) hb
    rcases hj with rfl | hj
    · exact heL
    · rw [List.getD_eq_getElem?_getD, List.getElem?_take] at hj
      split at hj
      · rename_i hlt
        have hl := (ancsFrom_get ops.toList []).1
        cases hoe : ops[e.on]? with
        | none =>
          have : ops.size ≤ e.on := by simpa using hoe
          have hsz : (ancs ops).length = ops.size := by unfold ancs; rw [hl]; simp
          rw [List.getElem?_eq_none (by omega)] at hj
          simp at hj
        | some o' =>
          exact ih e.on hlt o' hoe (fun e' he' hb' => hc e.on o' hoe heL e' he' hb') j (by rw [List.getD_eq_getElem?_getD]; exact hj)
      · simp at hj
end Go.AH
