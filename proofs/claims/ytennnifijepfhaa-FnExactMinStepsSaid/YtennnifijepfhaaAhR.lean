/- Regions, those that draw their order too: what only reads comes early; what reads memory is held to read the same behind each later change that it isn't ordered against. -/
import Derived.Test.YtennnifijepfhaaAhQ
namespace Go.AH
open Go Go.RowKit

structure Ent where
  i : Nat
  o : AOper
  e : Bool
def insPure : AIns → Bool
  | .op a => a.pure
  | _ => false
def insStable : AIns → Bool
  | .op a => a.stable
  | _ => false
def chkOf (p : Ent) : Option (AOp × Option (Nat × Bool) × Nat) :=
  match p.o.ins, p.o.dst with
  | .op a, some d => some (a, p.o.guard, d)
  | _, _ => none
def bit (T : List Nat) (i j : Nat) : Bool := (T.getD i 0).testBit j
def chkFor (T : List Nat) (done : List Ent) (x : Ent) : List (AOp × Option (Nat × Bool) × Nat) :=
  if x.e = true then done.filterMap fun p => if (p.e || insPure p.o.ins || bit T x.i p.i) = true then none else chkOf p else []
def attach (T : List Nat) : List Ent → List Ent → List AOper
  | _, [] => []
  | done, x :: r => { x.o with chk := chkFor T done x } :: attach T (done ++ [x]) r
def touch (p : Ent) : List Nat := p.o.ins.tmps ++ gtmps p.o.guard
def stOk (ops : Array Oper) (T : List Nat) (done : List Ent) (x : Ent) : Bool :=
  (match ops[x.i]? with
    | some o => o.after.toList.all fun e => !Region.binds .any e || done.any fun p => p.i == e.on
    | none => false) &&
  (done.all fun p => !p.e || bit T x.i p.i) &&
  (x.e || (insStable x.o.ins && (match x.o.dst with | some d => !(touch x).contains d | none => false))) &&
  (done.all fun p => p.e || (match x.o.dst with | some t => !((touch p).contains t || p.o.dst == some t) || (x.e && bit T x.i p.i) | none => true)) &&
  (done.all fun p => p.e || ((touch x).all fun t => p.o.dst != some t || bit T x.i p.i)) &&
  (done.all fun p => p.i != x.i)
def allOk (ops : Array Oper) (T : List Nat) : List Ent → List Ent → Bool
  | _, [] => true
  | done, x :: r => stOk ops T done x && allOk ops T (done ++ [x]) r
theorem allOk_at {ops : Array Oper} {T : List Nat} : ∀ {pre done : List Ent} {x : Ent} {r : List Ent}, allOk ops T done (pre ++ x :: r) = true → stOk ops T (done ++ pre) x = true
  | [], done, x, r, h => by
    simp only [List.nil_append, allOk, Bool.and_eq_true] at h
    simpa using h.1
  | y :: pre, done, x, r, h => by
    simp only [List.cons_append, allOk, Bool.and_eq_true] at h
    have := allOk_at (pre := pre) h.2
    simpa using this

section
variable {P : Program} {w0 : World} {n : Nat} {ops : Array Oper} {ents : List Ent} {N : Fr → Heap → Prop}
def Fact (p : Ent) (fr : Fr) (σ : Heap) : Prop := ∃ a d, p.o.ins = .op a ∧ a.stable = true ∧ p.o.dst = some d ∧
  ((gval fr p.o.guard = some true ∧ a.step fr σ = some (fr d, σ)) ∨ (gval fr p.o.guard = some false ∧ fr d = undef))
structure Inv (P : Program) (w0 : World) (n : Nat) (ops : Array Oper) (ents : List Ent) (N : Fr → Heap → Prop) (ρ0 : Ren) (L : Array Bool) (done rest : List Ent) (fr : Fr) (σ : Heap) (ρ : Ren) (a : Act) (w : World) : Prop where
  all : done ++ rest = ents
  wp : rwp P w0 (attach (ancs ops) done rest) N fr σ
  heap : ARel w0 ρ σ w
  fram : ∀ t, VRel w0.heap.size ρ (fr t) (a.tmps.getD t undef) ∨ ∃ p ∈ done, p.e = false ∧ L.getD p.i false = false ∧ p.o.dst = some t
  size : a.tmps.size = n
  defers : a.defers = []
  doneE : ∀ p ∈ done, p.e = true → L.getD p.i false = true
  restU : ∀ p ∈ rest, L.getD p.i false = false
  fact : ∀ p ∈ done, p.e = false → L.getD p.i false = false → Fact p fr σ
  head : rest = [] ∨ ∃ x r, rest = x :: r ∧ x.e = true
  closed : Closed ops L
  ren : ρ0.le ρ

theorem stOk_parts {T : List Nat} {done : List Ent} {x : Ent} (h : stOk ops T done x = true) :
    (∃ o, ops[x.i]? = some o ∧ ∀ e ∈ o.after, Region.binds .any e = true → ∃ p ∈ done, p.i = e.on) ∧
    (∀ p ∈ done, p.e = true → bit T x.i p.i = true) ∧
    (x.e = false → insStable x.o.ins = true ∧ ∃ d, x.o.dst = some d ∧ d ∉ touch x) ∧
    (∀ p ∈ done, p.e = false → ∀ t, x.o.dst = some t → (t ∈ touch p ∨ p.o.dst = some t) → x.e = true ∧ bit T x.i p.i = true) ∧
    (∀ p ∈ done, p.e = false → ∀ t ∈ touch x, p.o.dst = some t → bit T x.i p.i = true) ∧
    (∀ p ∈ done, p.i ≠ x.i) := by
  unfold stOk at h
  simp only [Bool.and_eq_true, List.all_eq_true] at h
  obtain ⟨⟨⟨⟨⟨h1, h2⟩, h3⟩, h4⟩, h5⟩, h6⟩ := h
  refine ⟨?_, ?_, ?_, ?_, ?_, ?_⟩
  · split at h1
    · rename_i o ho
      refine ⟨o, ho, fun e he hb => ?_⟩
      simp only [List.all_eq_true] at h1
      have := h1 e (by simpa using he)
      simp only [hb, Bool.not_true, Bool.false_or, List.any_eq_true] at this
      obtain ⟨p, hp, hpe⟩ := this
      exact ⟨p, hp, by simpa using hpe⟩
    · cases h1
  · intro p hp he
    have := h2 p hp
    simpa [he] using this
  · intro he
    rw [he] at h3
    simp only [Bool.false_or, Bool.and_eq_true] at h3
    obtain ⟨h3, h3'⟩ := h3
    refine ⟨h3, ?_⟩
    split at h3'
    · rename_i d hd
      exact ⟨d, hd, by simpa using h3'⟩
    · cases h3'
  · intro p hp he t ht hor
    have := h4 p hp
    rw [he, ht] at this
    simp only [Bool.false_or, Bool.or_eq_true, Bool.not_eq_true', Bool.or_eq_false_iff, Bool.and_eq_true] at this
    rcases this with ⟨g1, g2⟩ | g
    · rcases hor with hor | hor
      · exact absurd hor (by simpa using g1)
      · rw [hor] at g2; simp at g2
    · exact g
  · intro p hp he t ht hd
    have := h5 p hp
    rw [he] at this
    simp only [Bool.false_or, List.all_eq_true] at this
    have := this t ht
    rw [hd] at this
    simpa using this
  · intro p hp
    have := h6 p hp
    simpa using this
theorem upd_ne {fr : Fr} {d : Option Nat} {v : Value} {t : Nat} (h : d ≠ some t) : upd fr d v t = fr t := by
  cases d with
  | none => rfl
  | some d => simp only [upd]; rw [if_neg (fun e => h (by rw [e]))]
theorem upd_eq {fr : Fr} {d : Nat} {v : Value} : upd fr (some d) v d = v := by simp [upd]
/-- The stable operations at the head of what is left are carried out. -/
theorem advance (hok : allOk ops (ancs ops) [] ents = true) : ∀ (rest done : List Ent) (fr : Fr) (σ : Heap), done ++ rest = ents → rwp P w0 (attach (ancs ops) done rest) N fr σ →
    ∃ S rest' fr', rest = S ++ rest' ∧ (∀ p ∈ S, p.e = false) ∧ (rest' = [] ∨ ∃ x r, rest' = x :: r ∧ x.e = true) ∧ rwp P w0 (attach (ancs ops) (done ++ S) rest') N fr' σ ∧
      (∀ p ∈ S, Fact p fr' σ) ∧ (∀ t, (∀ p ∈ S, p.o.dst ≠ some t) → fr' t = fr t)
  | [], done, fr, σ, hall, hw => ⟨[], [], fr, rfl, (fun p hp => by cases hp), .inl rfl, by simpa using hw, (fun p hp => by cases hp), fun _ _ => rfl⟩
  | x :: r, done, fr, σ, hall, hw => by
    by_cases hx : x.e = true
    · exact ⟨[], x :: r, fr, rfl, (fun p hp => by cases hp), .inr ⟨x, r, rfl, hx⟩, by simpa using hw, (fun p hp => by cases hp), fun _ _ => rfl⟩
    · have hxe : x.e = false := by simpa using hx
      have hst : stOk ops (ancs ops) done x = true := by
        rw [← hall] at hok
        simpa using allOk_at hok
      obtain ⟨_, _, s3, _, _, _⟩ := stOk_parts hst
      obtain ⟨hs, d, hd, hdt⟩ := s3 hxe
      obtain ⟨a, ha, hsa⟩ : ∃ a, x.o.ins = .op a ∧ a.stable = true := by
        generalize x.o.ins = i at hs
        cases i with
        | op a => exact ⟨a, rfl, hs⟩
        | call f l => cases hs
        | callv f l => cases hs
      have hstep : ∃ v, rwp P w0 (attach (ancs ops) (done ++ [x]) r) N (upd fr (some d) v) σ ∧ ((gval fr x.o.guard = some true ∧ a.step fr σ = some (v, σ)) ∨ (gval fr x.o.guard = some false ∧ v = undef)) := by
        have h1 := rwp_step hw
        unfold astep at h1
        simp only at h1
        split at h1
        · rename_i hg
          simp only [ha] at h1
          split at h1
          · rename_i v σ' hs1
            have := AOp.stable_step hsa hs1
            subst this
            rw [hd] at h1
            exact ⟨v, h1, .inl ⟨hg, hs1⟩⟩
          · exact h1.elim
        · rename_i hg
          rw [hd] at h1
          exact ⟨undef, h1, .inr ⟨hg, rfl⟩⟩
        · exact h1.elim
      obtain ⟨v, hw2, hv⟩ := hstep
      have hag : agree fr (upd fr (some d) v) (touch x) := fun t ht => (upd_ne (fun e => hdt (by cases e; exact ht))).symm
      have hfx : Fact x (upd fr (some d) v) σ := by
        refine ⟨a, d, ha, hsa, hd, ?_⟩
        have e1 := gval_agree (g := x.o.guard) hag.right
        have hag2 : agree fr (upd fr (some d) v) a.tmps := by
          have := hag.left
          rw [ha] at this
          exact this
        have e2 := AOp.step_agree hag2 σ
        rcases hv with ⟨g1, g2⟩ | ⟨g1, rfl⟩
        · exact .inl ⟨by rw [← e1]; exact g1, by rw [← e2, upd_eq]; exact g2⟩
        · exact .inr ⟨by rw [← e1]; exact g1, upd_eq⟩
      obtain ⟨S, rest', fr', h1, h2, h3, h4, h5, h6⟩ := advance hok r (done ++ [x]) (upd fr (some d) v) σ (by simpa using hall) hw2
      have hkeep : ∀ t, (t ∈ touch x ∨ x.o.dst = some t) → fr' t = upd fr (some d) v t := by
        intro t ht
        refine h6 t (fun p hp hpd => ?_)
        obtain ⟨S1, S2, hS⟩ := List.append_of_mem hp
        have hall2 : [] ++ ((done ++ [x] ++ S1) ++ p :: (S2 ++ rest')) = ents := by rw [← hall, h1, hS]; simp
        rw [← hall2] at hok
        have hst2 := allOk_at (pre := done ++ [x] ++ S1) hok
        obtain ⟨_, _, _, s4, _, _⟩ := stOk_parts hst2
        have := (s4 x (by simp) hxe t hpd ht).1
        rw [h2 p hp] at this
        cases this
      refine ⟨x :: S, rest', fr', by rw [h1]; rfl, ?_, h3, by simpa using h4, ?_, ?_⟩
      · intro p hp
        rcases List.mem_cons.1 hp with rfl | hp
        · exact hxe
        · exact h2 p hp
      · intro p hp
        rcases List.mem_cons.1 hp with rfl | hp
        · obtain ⟨a', d', q1, q2, q3, q4⟩ := hfx
          have hagx : agree (upd fr (some d) v) fr' (touch p) := fun t ht => (hkeep t (.inl ht)).symm
          have e1 := gval_agree (g := p.o.guard) hagx.right
          have hag2 : agree (upd fr (some d) v) fr' a'.tmps := by
            have := hagx.left
            rw [q1] at this
            exact this
          have e2 := AOp.step_agree hag2 σ
          refine ⟨a', d', q1, q2, q3, ?_⟩
          rw [hkeep d' (.inr q3), ← e1, ← e2]
          exact q4
        · exact h5 p hp
      · intro t ht
        rw [h6 t (fun p hp => ht p (List.mem_cons_of_mem _ hp))]
        exact upd_ne (fun e => ht x List.mem_cons_self (by rw [hd]; exact e))
end
end Go.AH
