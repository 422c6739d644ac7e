/- The words for proofs over the abstract machine: the heap at a law's call, heaps that go on from another, slices that read as lists. -/
import Derived.Test.YtennnifijepfhaaAhN
namespace Go.AH
open Go Go.RowKit

/-- The heap as a law's call finds it. -/
noncomputable def heap0 (W : World) : Heap := ⟨W.heap.size, W.heap.size, Nat.le_refl _, fun i => ⟨0, oldBlk W i⟩⟩
theorem oldBlk_out (W : World) (i : Nat) (h : W.heap.size ≤ i) : oldBlk W i = [] := by
  unfold oldBlk
  rw [Array.getElem?_eq_none h]
theorem heap0_rel (W : World) : ARel W (fun _ => none) (heap0 W) W where
  base := rfl
  below := Below.refl _ _
  loc := fun i l h => by cases h
  esz := fun i l h => by cases h
  old := fun _ _ => rfl
  new := fun i hi hne => absurd (oldBlk_out W i hi) hne
  inj := fun i j l k _ _ _ h => by cases h
  top := fun i hi => oldBlk_out W i hi
theorem calls_of_acalls {P : Program} {W : World} {f : FuncId} {args : List Value} (h : ACalls P W f args (heap0 W) fun v _ => v = .bool true) (ha : ∀ v ∈ args, VRel W.heap.size (fun _ => none) v v) :
    Calls P f args.toArray W fun e w' => e = .returned (.bool true) ∧ Below W.heap.size W w' := by
  refine (h (fun _ => none) W args.toArray (heap0_rel W) ⟨rfl, fun i x x' h1 h2 => ?_⟩).mono ?_
  · have : x = x' := by rw [h1] at h2; exact Option.some.inj h2
    subst this
    exact ha x (List.mem_of_getElem? h1)
  · rintro e w' ⟨v, v', σ', ρ', rfl, rfl, _, hr, hv⟩
    rw [hv.bool_inv]
    exact ⟨rfl, hr.below⟩

/-- σ' goes on from σ: whatever was there is as it was. -/
structure Ext (σ σ' : Heap) : Prop where
  base : σ'.base = σ.base
  size : σ.size ≤ σ'.size
  blk : ∀ i, i < σ.size → σ'.blk i = σ.blk i
theorem Ext.refl (σ : Heap) : Ext σ σ := ⟨rfl, Nat.le_refl _, fun _ _ => rfl⟩
theorem Ext.trans {a b c : Heap} (h : Ext a b) (k : Ext b c) : Ext a c := ⟨k.base.trans h.base, Nat.le_trans h.size k.size, fun i hi => (k.blk i (Nat.lt_of_lt_of_le hi h.size)).trans (h.blk i hi)⟩
theorem Ext.push (σ : Heap) (b : Blk) : Ext σ (σ.push b) := ⟨rfl, Nat.le_succ _, fun i hi => by simp only [Heap.push]; rw [if_neg (by omega)]⟩
theorem Ext.put {σ σ' : Heap} (h : Ext σ σ') {id : Nat} (hid : σ.size ≤ id) (cs : List Value) : Ext σ (σ'.put id cs) :=
  ⟨h.base, h.size, fun i hi => by simp only [Heap.put]; rw [if_neg (by omega)]; exact h.blk i hi⟩
theorem Ext.pushed {σ σ' : Heap} (h : Ext σ σ') (b : Blk) : Ext σ (σ'.push b) := h.trans (Ext.push _ _)
@[simp] theorem push_size (σ : Heap) (b : Blk) : (σ.push b).size = σ.size + 1 := rfl
@[simp] theorem push_base (σ : Heap) (b : Blk) : (σ.push b).base = σ.base := rfl
@[simp] theorem put_size (σ : Heap) (i : Nat) (cs : List Value) : (σ.put i cs).size = σ.size := rfl
@[simp] theorem put_base (σ : Heap) (i : Nat) (cs : List Value) : (σ.put i cs).base = σ.base := rfl
@[simp] theorem push_new (σ : Heap) (b : Blk) : (σ.push b).blk σ.size = b := by simp [Heap.push]
theorem push_old (σ : Heap) (b : Blk) {i : Nat} (h : i < σ.size) : (σ.push b).blk i = σ.blk i := by simp only [Heap.push]; rw [if_neg (by omega)]
@[simp] theorem put_at (σ : Heap) (i : Nat) (cs : List Value) : (σ.put i cs).blk i = ⟨(σ.blk i).esz, cs⟩ := by simp [Heap.put]
theorem put_off (σ : Heap) {i j : Nat} (cs : List Value) (h : j ≠ i) : (σ.put i cs).blk j = σ.blk j := by simp only [Heap.put]; rw [if_neg h]

@[simp] theorem push_put (σ : Heap) (b : Blk) (cs : List Value) : (σ.push b).put σ.size cs = σ.push ⟨b.esz, cs⟩ := by
  simp only [Heap.push, Heap.put, Heap.mk.injEq, true_and]
  funext i
  split <;> simp_all
@[simp] theorem cells_push (σ : Heap) (b : Blk) : ((σ.push b).blk σ.size).cells = b.cells := by simp
/-- A slice that reads as the list xs; R tells an element's cells. -/
structure Sl {α : Type} (R : Heap → α → List Value → Prop) (sz : Nat) (σ : Heap) (v : Value) (xs : List α) : Prop where
  form : (xs = [] ∧ ∃ a c, v = .slice a 0 c ∧ (a = none → c = 0)) ∨ (0 < xs.length ∧ ∃ b o c, v = .slice (some ⟨b, o, none⟩) xs.length c ∧ 0 < c ∧ b < σ.size ∧ (σ.base ≤ b → (σ.blk b).esz = sz) ∧
    ∀ i x, xs[i]? = some x → ∃ cs, cs.length = sz ∧ R σ x cs ∧ ∀ j c', cs[j]? = some c' → (σ.blk b).cells[o + i * sz + j]? = some c')
/-- What an element's relation must bear. -/
def Mono {α : Type} (R : Heap → α → List Value → Prop) : Prop := ∀ σ σ' x cs, Ext σ σ' → R σ x cs → R σ' x cs
theorem Sl.ext {α : Type} {R : Heap → α → List Value → Prop} {sz : Nat} (hR : Mono R) {σ σ' : Heap} (h : Ext σ σ') {v : Value} {xs : List α} (hs : Sl R sz σ v xs) : Sl R sz σ' v xs := by
  refine ⟨hs.form.imp id ?_⟩
  rintro ⟨hp, b, o, c, e1, e2, e3, e4, e5⟩
  refine ⟨hp, b, o, c, e1, e2, Nat.lt_of_lt_of_le e3 h.size, fun hb => by rw [h.blk b e3]; exact e4 (by rw [← h.base]; exact hb), fun i x hx => ?_⟩
  obtain ⟨cs, g1, g2, g3⟩ := e5 i x hx
  refine ⟨cs, g1, hR _ _ _ _ h g2, fun j c' hj => ?_⟩
  rw [h.blk b e3]
  exact g3 j c' hj
theorem Sl.nil {α : Type} (R : Heap → α → List Value → Prop) (sz : Nat) (σ : Heap) : Sl R sz σ (.slice none 0 0) ([] : List α) := ⟨.inl ⟨rfl, none, 0, rfl, fun _ => rfl⟩⟩
theorem Sl.len {α : Type} {R : Heap → α → List Value → Prop} {sz : Nat} {σ : Heap} {v : Value} {xs : List α} (hs : Sl R sz σ v xs) : ∃ a c, v = .slice a xs.length c := by
  rcases hs.form with ⟨rfl, a, c, rfl, _⟩ | ⟨_, b, o, c, rfl, _⟩
  · exact ⟨a, c, rfl⟩
  · exact ⟨_, c, rfl⟩
/-- Where it has an element, it has an address. -/
theorem Sl.at_ {α : Type} {R : Heap → α → List Value → Prop} {sz : Nat} {σ : Heap} {v : Value} {xs : List α} (hs : Sl R sz σ v xs) {i : Nat} (hi : i < xs.length) :
    ∃ b o c, v = .slice (some ⟨b, o, none⟩) xs.length c ∧ 0 < c ∧ b < σ.size ∧ ∃ cs, cs.length = sz ∧ R σ xs[i] cs ∧ ∀ j c', cs[j]? = some c' → (σ.blk b).cells[o + i * sz + j]? = some c' := by
  rcases hs.form with ⟨rfl, _⟩ | ⟨_, b, o, c, e1, e2, e3, e4, e5⟩
  · simp at hi
  · exact ⟨b, o, c, e1, e2, e3, e5 i _ (List.getElem?_eq_getElem hi)⟩
theorem Sl.take {α : Type} {R : Heap → α → List Value → Prop} {sz : Nat} {σ : Heap} {a : Option Addr} {c : Nat} {L : List α} (h : Sl R sz σ (.slice a L.length c) L) {n c' : Nat} (hn : n ≤ L.length) (hc : 0 < L.length → 0 < c') (ha : a = none → c' = 0) : Sl R sz σ (.slice a n c') (L.take n) := by
  have e : n = (L.take n).length := by simp; omega
  rcases h.form with ⟨h, _⟩ | ⟨hp, b, o, c2, e1, e2, e3, e4, e5⟩
  · subst h
    have : n = 0 := by simpa using hn
    subst this
    exact ⟨.inl ⟨rfl, a, c', rfl, ha⟩⟩
  · cases e1
    by_cases h0 : n = 0
    · subst h0
      exact ⟨.inl ⟨rfl, _, c', rfl, fun h => by cases h⟩⟩
    · refine ⟨.inr ⟨by omega, b, o, c', by rw [← e], hc hp, e3, e4, fun i x hx => e5 i x ?_⟩⟩
      rw [List.getElem?_take] at hx
      split at hx
      · exact hx
      · cases hx
/-- Whole numbers. -/
def RI (_ : Heap) (x : Int) (cs : List Value) : Prop := cs = [.int .i64 x]
theorem RI_mono : Mono RI := fun _ _ _ _ _ h => h
abbrev Ints (σ : Heap) (v : Value) (xs : List Int) : Prop := Sl RI 1 σ v xs
theorem Ints.at_ {σ : Heap} {v : Value} {xs : List Int} (hs : Ints σ v xs) {i : Nat} (hi : i < xs.length) : ∃ b o c, v = .slice (some ⟨b, o, none⟩) xs.length c ∧ 0 < c ∧ b < σ.size ∧ (σ.blk b).cells[o + i]? = some (.int .i64 xs[i]) := by
  obtain ⟨b, o, c, e, hc, hb, cs, _, rfl, h⟩ := Sl.at_ hs hi
  exact ⟨b, o, c, e, hc, hb, by simpa using h 0 _ rfl⟩

/-! ### The machine's steps, as rewriting -/
section
variable {P : Program} {w0 : World}
@[simp] theorem upd_get (fr : Fr) (d t : Nat) (v : Value) : upd fr (some d) v t = if t = d then v else fr t := rfl
@[simp] theorem upd_none (fr : Fr) (v : Value) : upd fr none v = fr := rfl
@[simp] theorem AWp_skip (Q : Ex → Fr → Heap → Prop) (fr : Fr) (σ : Heap) : AWp P w0 .skip Q fr σ = Q .normal fr σ := rfl
@[simp] theorem AWp_region (ops : List AOper) (Q : Ex → Fr → Heap → Prop) (fr : Fr) (σ : Heap) : AWp P w0 (.region ops) Q fr σ = rwp P w0 ops (Q .normal) fr σ := rfl
@[simp] theorem AWp_seq (a b : ACode) (Q : Ex → Fr → Heap → Prop) (fr : Fr) (σ : Heap) : AWp P w0 (.seq a b) Q fr σ = AWp P w0 a (exThen (AWp P w0 b Q) Q) fr σ := rfl
@[simp] theorem AWp_cond (c : AOpd) (a b : ACode) (Q : Ex → Fr → Heap → Prop) (fr : Fr) (σ : Heap) : AWp P w0 (.cond c a b) Q fr σ = match boolOf (c.ev fr) with
    | some t => if t = true then AWp P w0 a Q fr σ else AWp P w0 b Q fr σ
    | none => False := rfl
@[simp] theorem AWp_block (id : Nat) (c : ACode) (Q : Ex → Fr → Heap → Prop) (fr : Fr) (σ : Heap) : AWp P w0 (.block id c) Q fr σ = AWp P w0 c (exBlock id Q) fr σ := rfl
@[simp] theorem AWp_exit (id : Nat) (Q : Ex → Fr → Heap → Prop) (fr : Fr) (σ : Heap) : AWp P w0 (.exit id) Q fr σ = Q (.exit id) fr σ := rfl
@[simp] theorem AWp_ret (Q : Ex → Fr → Heap → Prop) (fr : Fr) (σ : Heap) : AWp P w0 .ret Q fr σ = Q .ret fr σ := rfl
@[simp] theorem exThen_normal (N : Fr → Heap → Prop) (Q : Ex → Fr → Heap → Prop) (fr : Fr) (σ : Heap) : exThen N Q .normal fr σ = N fr σ := rfl
@[simp] theorem exThen_exit (N : Fr → Heap → Prop) (Q : Ex → Fr → Heap → Prop) (i : Nat) (fr : Fr) (σ : Heap) : exThen N Q (.exit i) fr σ = Q (.exit i) fr σ := rfl
@[simp] theorem exThen_ret (N : Fr → Heap → Prop) (Q : Ex → Fr → Heap → Prop) (fr : Fr) (σ : Heap) : exThen N Q .ret fr σ = Q .ret fr σ := rfl
@[simp] theorem exBlock_normal (id : Nat) (Q : Ex → Fr → Heap → Prop) (fr : Fr) (σ : Heap) : exBlock id Q .normal fr σ = Q .normal fr σ := rfl
@[simp] theorem exBlock_exit (id i : Nat) (Q : Ex → Fr → Heap → Prop) (fr : Fr) (σ : Heap) : exBlock id Q (.exit i) fr σ = if i = id then Q .normal fr σ else Q (.exit i) fr σ := rfl
@[simp] theorem exBlock_ret (id : Nat) (Q : Ex → Fr → Heap → Prop) (fr : Fr) (σ : Heap) : exBlock id Q .ret fr σ = Q .ret fr σ := rfl
@[simp] theorem rwp_nil (Q : Fr → Heap → Prop) (fr : Fr) (σ : Heap) : rwp P w0 [] Q fr σ = Q fr σ := rfl
@[simp] theorem rwp_op0 (d : Option Nat) (a : AOp) (r : List AOper) (Q : Fr → Heap → Prop) (fr : Fr) (σ : Heap) : rwp P w0 (⟨d, none, .op a, []⟩ :: r) Q fr σ = match a.step fr σ with
    | some (v, σ') => rwp P w0 r Q (upd fr d v) σ'
    | none => False := by
  simp only [rwp, gval, chkOk, true_and]
  cases a.step fr σ <;> rfl
/-- What is to come behind a call. -/
def Cont (P : Program) (w0 : World) (r : List AOper) (Q : Fr → Heap → Prop) (fr : Fr) (d : Option Nat) (chk : List (AOp × Option (Nat × Bool) × Nat)) (v : Value) (σ : Heap) : Prop := chkOk (upd fr d v) σ chk ∧ rwp P w0 r Q (upd fr d v) σ
@[simp] theorem Cont_nil (r : List AOper) (Q : Fr → Heap → Prop) (fr : Fr) (d : Option Nat) (v : Value) (σ : Heap) : Cont P w0 r Q fr d [] v σ = rwp P w0 r Q (upd fr d v) σ := by simp [Cont, chkOk]
@[simp] theorem Cont_cons (r : List AOper) (Q : Fr → Heap → Prop) (fr : Fr) (d : Option Nat) (c : AOp × Option (Nat × Bool) × Nat) (cs : List (AOp × Option (Nat × Bool) × Nat)) (v : Value) (σ : Heap) : Cont P w0 r Q fr d (c :: cs) v σ = (chkOk (upd fr d v) σ (c :: cs) ∧ rwp P w0 r Q (upd fr d v) σ) := rfl
@[simp] theorem rwp_call0 (d : Option Nat) (f : FuncId) (args : List AOpd) (chk : List (AOp × Option (Nat × Bool) × Nat)) (r : List AOper) (Q : Fr → Heap → Prop) (fr : Fr) (σ : Heap) : rwp P w0 (⟨d, none, .call f args, chk⟩ :: r) Q fr σ =
    ACalls P w0 f (args.map (·.ev fr)) σ (Cont P w0 r Q fr d chk) := by
  simp only [rwp, gval]; rfl
@[simp] theorem rwp_callv0 (d : Option Nat) (x : AOpd) (args : List AOpd) (chk : List (AOp × Option (Nat × Bool) × Nat)) (r : List AOper) (Q : Fr → Heap → Prop) (fr : Fr) (σ : Heap) : rwp P w0 (⟨d, none, .callv x args, chk⟩ :: r) Q fr σ = match fnOf (x.ev fr) with
    | some (f, cap) => callOk P f = true ∧ ACalls P w0 f (args.map (·.ev fr) ++ cap) σ (Cont P w0 r Q fr d chk)
    | none => False := by
  simp only [rwp, gval]
  cases fnOf (x.ev fr) <;> rfl
@[simp] theorem rwp_guard (d : Option Nat) (t : Nat) (b : Bool) (i : AIns) (chk : List (AOp × Option (Nat × Bool) × Nat)) (r : List AOper) (Q : Fr → Heap → Prop) (fr : Fr) (σ : Heap) : rwp P w0 (⟨d, some (t, b), i, chk⟩ :: r) Q fr σ = match gval fr (some (t, b)) with
    | some true => rwp P w0 (⟨d, none, i, chk⟩ :: r) Q fr σ
    | some false => rwp P w0 r Q (upd fr d undef) σ
    | none => False := by
  have e : rwp P w0 (⟨d, none, i, chk⟩ :: r) Q fr σ = match i with
      | .op a => match a.step fr σ with
        | some (v, σ') => chkOk (upd fr d v) σ' chk ∧ rwp P w0 r Q (upd fr d v) σ'
        | none => False
      | .call f args => ACalls P w0 f (args.map (·.ev fr)) σ fun v σ' => chkOk (upd fr d v) σ' chk ∧ rwp P w0 r Q (upd fr d v) σ'
      | .callv x args => match fnOf (x.ev fr) with
        | some (f, cap) => callOk P f = true ∧ ACalls P w0 f (args.map (·.ev fr) ++ cap) σ fun v σ' => chkOk (upd fr d v) σ' chk ∧ rwp P w0 r Q (upd fr d v) σ'
        | none => False := rfl
  rw [e, rwp]
  generalize gval fr (some (t, b)) = g
  cases g with
  | none => rfl
  | some v =>
    cases v
    · rfl
    · cases i <;> rfl
@[simp] theorem rwp_opc (d : Option Nat) (a : AOp) (c : AOp × Option (Nat × Bool) × Nat) (cs : List (AOp × Option (Nat × Bool) × Nat)) (r : List AOper) (Q : Fr → Heap → Prop) (fr : Fr) (σ : Heap) : rwp P w0 (⟨d, none, .op a, c :: cs⟩ :: r) Q fr σ = match a.step fr σ with
    | some (v, σ') => chkOk (upd fr d v) σ' (c :: cs) ∧ rwp P w0 r Q (upd fr d v) σ'
    | none => False := by
  rw [rwp]
  rfl
attribute [simp] gval boolOf fnOf AOpd.ev AOp.step arithA fr0 retQ resVals ARes.val resOf chkOk isNeq vcells okCells one
/-- Behind a round: the relation holds, at a smaller number. -/
def Again (I : Nat → Fr → Heap → Prop) (k : Nat) (fr : Fr) (σ : Heap) : Prop := ∃ j, j < k ∧ I j fr σ
theorem Again.mk {I : Nat → Fr → Heap → Prop} {k : Nat} {fr : Fr} {σ : Heap} (j : Nat) (hj : j < k) (h : I j fr σ) : Again I k fr σ := ⟨j, hj, h⟩
/-- A loop that counts: what holds with k rounds to come. -/
theorem AWp_count {c : ACode} {Q : Ex → Fr → Heap → Prop} (I : Nat → Fr → Heap → Prop) (k : Nat) {fr : Fr} {σ : Heap} (h0 : I k fr σ)
    (round : ∀ J : Nat → Fr → Heap → Prop, (∀ k fr σ, I k fr σ → J k fr σ) → ∀ k fr σ, I k fr σ → AWp P w0 c (exThen (Again J k) Q) fr σ) : AWp P w0 (.loop c) Q fr σ :=
  AWp_loop I (fun k fr σ h => round I (fun _ _ _ h => h) k fr σ h) k fr σ h0
/-- A function's call: its body, behind whatever its post is good for. -/
theorem acalls_go (hm : P.follows .mixedOrders = true) {f : FuncId} {fn : Func} {F : AFun} (hf : P.funcs[f]? = some fn) (hF : compFun P fn = some F) {args : List Value} {σ : Heap} {Q : Value → Heap → Prop} (hn : args.length ≤ F.ntmps)
    (h : ∀ K : Value → Heap → Prop, (∀ v σ', Q v σ' → K v σ') → AWp P w0 F.code (retQ F.res K) (fr0 args) σ) : ACalls P w0 f args σ Q :=
  acalls_of hm hf hF hn (h Q fun _ _ h => h)
theorem w64 {n : Int} (h0 : -9223372036854775808 ≤ n) (h1 : n ≤ 9223372036854775807) : IntKind.i64.wrap n = n := by
  rw [IntKind.wrap_i64]; omega
end
end Go.AH
