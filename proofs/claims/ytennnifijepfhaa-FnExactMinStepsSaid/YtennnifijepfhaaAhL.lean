/- Calls, regions, code: the abstract weakest precondition, and that it is sound. -/
import Derived.Test.YtennnifijepfhaaAhK
namespace Go.AH
open Go Go.RowKit

inductive Ex where
  | normal
  | exit (id : Nat)
  | ret
def Ex.out : Ex → Exit
  | .normal => .normal
  | .exit id => .exit id
  | .ret => .ret
inductive AIns where
  | op (a : AOp)
  | call (f : FuncId) (args : List AOpd)
  | callv (x : AOpd) (args : List AOpd)
structure AOper where
  dst : Option Nat
  guard : Option (Nat × Bool)
  ins : AIns
  chk : List (AOp × Option (Nat × Bool) × Nat)
inductive ACode where
  | skip
  | region (ops : List AOper)
  | seq (a b : ACode)
  | cond (c : AOpd) (a b : ACode)
  | block (id : Nat) (c : ACode)
  | loop (c : ACode)
  | exit (id : Nat)
  | ret

abbrev Fr := Nat → Value
def upd (fr : Fr) (d : Option Nat) (v : Value) : Fr :=
  match d with
  | some d => fun t => if t = d then v else fr t
  | none => fr
def gval (fr : Fr) : Option (Nat × Bool) → Option Bool
  | none => some true
  | some (t, b) => match fr t with
    | .bool c => some (c == b)
    | .tuple vs => if vs.size = 0 then some false else none
    | _ => none
/-- What a call of f comes to, whatever the world that stands behind the abstract heap. -/
def ACalls (P : Program) (w0 : World) (f : FuncId) (args : List Value) (σ : Heap) (Q : Value → Heap → Prop) : Prop :=
  ∀ (ρ : Ren) (w : World) (vs : Array Value), ARel w0 ρ σ w → LRel w0.heap.size ρ args vs.toList →
    Calls P f vs w fun e w' => ∃ v v' σ' ρ', e = .returned v' ∧ Q v σ' ∧ ρ.le ρ' ∧ ARel w0 ρ' σ' w' ∧ VRel w0.heap.size ρ' v v'
theorem ACalls.mono {P : Program} {w0 : World} {f : FuncId} {args : List Value} {σ : Heap} {Q Q' : Value → Heap → Prop} (h : ACalls P w0 f args σ Q) (hq : ∀ v σ', Q v σ' → Q' v σ') : ACalls P w0 f args σ Q' :=
  fun ρ w vs h1 h2 => (h ρ w vs h1 h2).mono fun _ _ ⟨v, v', σ', ρ', e, q, r⟩ => ⟨v, v', σ', ρ', e, hq _ _ q, r⟩
/-- The loads that may also come up behind this operation read the same there. -/
def chkOk (fr : Fr) (σ : Heap) : List (AOp × Option (Nat × Bool) × Nat) → Prop
  | [] => True
  | (a, g, d) :: r => (gval fr g = some true → a.step fr σ = some (fr d, σ)) ∧ chkOk fr σ r
/-- May the function be entered? -/
def callOk (P : Program) (f : FuncId) : Bool :=
  match P.funcs[f]? with
  | some fn => fn.name != "runtime.NumGoroutine" && fn.body.isSome
  | none => false
def fnOf : Value → Option (FuncId × List Value)
  | .func (.func f) first cap => if first.size = 0 then some (f, cap.toList) else none
  | _ => none
def boolOf : Value → Option Bool
  | .bool b => some b
  | _ => none
def rwp (P : Program) (w0 : World) : List AOper → (Fr → Heap → Prop) → Fr → Heap → Prop
  | [], Q, fr, σ => Q fr σ
  | o :: r, Q, fr, σ =>
    match gval fr o.guard with
    | some true =>
      match o.ins with
      | .op a => match a.step fr σ with
        | some (v, σ') => chkOk (upd fr o.dst v) σ' o.chk ∧ rwp P w0 r Q (upd fr o.dst v) σ'
        | none => False
      | .call f args => ACalls P w0 f (args.map (·.ev fr)) σ fun v σ' => chkOk (upd fr o.dst v) σ' o.chk ∧ rwp P w0 r Q (upd fr o.dst v) σ'
      | .callv x args => match fnOf (x.ev fr) with
        | some (f, cap) => callOk P f = true ∧ ACalls P w0 f (args.map (·.ev fr) ++ cap) σ fun v σ' => chkOk (upd fr o.dst v) σ' o.chk ∧ rwp P w0 r Q (upd fr o.dst v) σ'
        | none => False
    | some false => rwp P w0 r Q (upd fr o.dst undef) σ
    | none => False
def exThen (N : Fr → Heap → Prop) (Q : Ex → Fr → Heap → Prop) : Ex → Fr → Heap → Prop
  | .normal, fr, σ => N fr σ
  | .exit id, fr, σ => Q (.exit id) fr σ
  | .ret, fr, σ => Q .ret fr σ
def exBlock (id : Nat) (Q : Ex → Fr → Heap → Prop) : Ex → Fr → Heap → Prop
  | .exit i, fr, σ => if i = id then Q .normal fr σ else Q (.exit i) fr σ
  | .normal, fr, σ => Q .normal fr σ
  | .ret, fr, σ => Q .ret fr σ
def loopN (body : (Ex → Fr → Heap → Prop) → Fr → Heap → Prop) : Nat → (Ex → Fr → Heap → Prop) → Fr → Heap → Prop
  | 0, _, _, _ => False
  | k + 1, Q, fr, σ => body (exThen (loopN body k Q) Q) fr σ
def AWp (P : Program) (w0 : World) : ACode → (Ex → Fr → Heap → Prop) → Fr → Heap → Prop
  | .skip, Q, fr, σ => Q .normal fr σ
  | .region ops, Q, fr, σ => rwp P w0 ops (Q .normal) fr σ
  | .seq a b, Q, fr, σ => AWp P w0 a (exThen (AWp P w0 b Q) Q) fr σ
  | .cond c a b, Q, fr, σ => match boolOf (c.ev fr) with
    | some t => if t = true then AWp P w0 a Q fr σ else AWp P w0 b Q fr σ
    | none => False
  | .block id c, Q, fr, σ => AWp P w0 c (exBlock id Q) fr σ
  | .loop c, Q, fr, σ => ∃ k, loopN (AWp P w0 c) k Q fr σ
  | .exit id, Q, fr, σ => Q (.exit id) fr σ
  | .ret, Q, fr, σ => Q .ret fr σ

section
variable {P : Program} {w0 : World}
theorem rwp_mono : ∀ {ops : List AOper} {Q Q' : Fr → Heap → Prop} {fr : Fr} {σ : Heap}, rwp P w0 ops Q fr σ → (∀ fr σ, Q fr σ → Q' fr σ) → rwp P w0 ops Q' fr σ
  | [], _, _, _, _, h, hq => hq _ _ h
  | o :: r, Q, Q', fr, σ, h, hq => by
    unfold rwp at h ⊢
    split
    · rename_i hg
      simp only [hg] at h
      split
      · rename_i a ha
        simp only [ha] at h
        split
        · rename_i v σ' hs
          simp only [hs] at h
          exact ⟨h.1, rwp_mono h.2 hq⟩
        · rename_i hs
          simp only [hs] at h
      · rename_i f args ha
        simp only [ha] at h
        exact h.mono fun v σ' h => ⟨h.1, rwp_mono h.2 hq⟩
      · rename_i x args ha
        simp only [ha] at h
        split
        · rename_i f cap hx
          simp only [hx] at h
          exact ⟨h.1, h.2.mono fun v σ' h => ⟨h.1, rwp_mono h.2 hq⟩⟩
        · rename_i hx
          simp only [hx] at h
    · rename_i hg
      simp only [hg] at h
      exact rwp_mono h hq
    · rename_i hg
      simp only [hg] at h
theorem exThen_mono {N N' : Fr → Heap → Prop} {Q Q' : Ex → Fr → Heap → Prop} (hn : ∀ fr σ, N fr σ → N' fr σ) (hq : ∀ e fr σ, Q e fr σ → Q' e fr σ) : ∀ e fr σ, exThen N Q e fr σ → exThen N' Q' e fr σ := by
  intro e fr σ h
  cases e <;> first | exact hn _ _ h | exact hq _ _ _ h
theorem exBlock_mono {id : Nat} {Q Q' : Ex → Fr → Heap → Prop} (hq : ∀ e fr σ, Q e fr σ → Q' e fr σ) : ∀ e fr σ, exBlock id Q e fr σ → exBlock id Q' e fr σ := by
  intro e fr σ h
  cases e with
  | normal => exact hq _ _ _ h
  | exit i =>
    simp only [exBlock] at h ⊢
    split
    · rename_i hi; rw [if_pos hi] at h; exact hq _ _ _ h
    · rename_i hi; rw [if_neg hi] at h; exact hq _ _ _ h
  | ret => exact hq _ _ _ h
theorem loopN_mono {body : (Ex → Fr → Heap → Prop) → Fr → Heap → Prop} (hb : ∀ Q Q' : Ex → Fr → Heap → Prop, (∀ e fr σ, Q e fr σ → Q' e fr σ) → ∀ fr σ, body Q fr σ → body Q' fr σ) : ∀ (k : Nat) (Q Q' : Ex → Fr → Heap → Prop), (∀ e fr σ, Q e fr σ → Q' e fr σ) → ∀ fr σ, loopN body k Q fr σ → loopN body k Q' fr σ
  | 0, _, _, _, _, _, h => h
  | k + 1, Q, Q', hq, _, _, h => hb _ _ (exThen_mono (loopN_mono hb k Q Q' hq) hq) _ _ h
theorem AWp_mono : ∀ (c : ACode) {Q Q' : Ex → Fr → Heap → Prop}, (∀ e fr σ, Q e fr σ → Q' e fr σ) → ∀ {fr : Fr} {σ : Heap}, AWp P w0 c Q fr σ → AWp P w0 c Q' fr σ
  | .skip, _, _, hq, _, _, h => hq _ _ _ h
  | .region ops, _, _, hq, _, _, h => rwp_mono h fun _ _ h => hq _ _ _ h
  | .seq a b, _, _, hq, _, _, h => AWp_mono a (exThen_mono (fun _ _ h => AWp_mono b hq h) hq) h
  | .cond c a b, _, _, hq, fr, σ, h => by
    unfold AWp at h ⊢
    split
    · rename_i t ht
      simp only [ht] at h
      split
      · rename_i h1; rw [if_pos h1] at h; exact AWp_mono a hq h
      · rename_i h1; rw [if_neg h1] at h; exact AWp_mono b hq h
    · rename_i hx
      simp only [hx] at h
  | .block id c, _, _, hq, _, _, h => AWp_mono c (exBlock_mono hq) h
  | .loop c, _, _, hq, _, _, ⟨k, h⟩ => ⟨k, loopN_mono (body := AWp P w0 c) (fun _ _ hq _ _ h => AWp_mono c hq h) k _ _ hq _ _ h⟩
  | .exit _, _, _, hq, _, _, h => hq _ _ _ h
  | .ret, _, _, hq, _, _, h => hq _ _ _ h
/-- A loop, by a relation whose number goes down. -/
theorem AWp_loop {c : ACode} {Q : Ex → Fr → Heap → Prop} (I : Nat → Fr → Heap → Prop)
    (round : ∀ k fr σ, I k fr σ → AWp P w0 c (exThen (fun fr' σ' => ∃ j, j < k ∧ I j fr' σ') Q) fr σ) : ∀ (k : Nat) (fr : Fr) (σ : Heap), I k fr σ → AWp P w0 (.loop c) Q fr σ := by
  have key : ∀ (k : Nat), ∀ (fr : Fr) (σ : Heap), I k fr σ → ∀ m, k < m → loopN (AWp P w0 c) m Q fr σ := by
    intro k
    induction k using Nat.strongRecOn with
    | _ k ih =>
      intro fr σ hI m hm
      obtain ⟨m, rfl⟩ : ∃ n, m = n + 1 := ⟨m - 1, by omega⟩
      exact AWp_mono c (exThen_mono (fun fr' σ' ⟨j, hj, hI'⟩ => ih j hj fr' σ' hI' m (by omega)) (fun _ _ _ h => h)) (round k fr σ hI)
  exact fun k fr σ hI => ⟨k + 1, key k fr σ hI (k + 1) (Nat.lt_succ_self k)⟩
end
end Go.AH
