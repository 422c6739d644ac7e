/- The frame-free steps as rewriting, and calls that only read. -/
import Derived.Test.YtennnifijepfhaaAhX
import Derived.Test.YtennnifijepfhaaAhP
namespace Go.AH
open Go Go.RowKit
set_option linter.unusedVariables false
set_option linter.unusedSimpArgs false

@[simp ↓] theorem kO_some (v : Value) (k : Value → Prop) : kO (some v) k = k v := propext ⟨fun h => h, fun h => h⟩
@[simp ↓] theorem kO_none (k : Value → Prop) : kO none k = False := propext ⟨fun h => h, fun h => h⟩
@[simp ↓] theorem kO_ite (c : Prop) [Decidable c] (v : Value) (k : Value → Prop) : kO (if c then some v else none) k = (c ∧ k v) := by
  by_cases h : c <;> simp [h, kO]
@[simp ↓] theorem kO_ite' (c : Prop) [Decidable c] (v : Value) (k : Value → Prop) : kO (if c then none else some v) k = (¬ c ∧ k v) := by
  by_cases h : c <;> simp [h, kO]
@[simp ↓] theorem kO_map (o : Option (List Value)) (k : Value → Prop) : kO (o.map fun l => .agg l.toArray) k = (∃ l, o = some l ∧ k (.agg l.toArray)) := by
  cases o <;> simp [kO]
@[simp ↓] theorem kH_some (v : Value) (σ : Heap) (k : Value → Heap → Prop) : kH (some (v, σ)) k = k v σ := propext ⟨fun h => h, fun h => h⟩
@[simp ↓] theorem kH_none (k : Value → Heap → Prop) : kH none k = False := propext ⟨fun h => h, fun h => h⟩
@[simp ↓] theorem kH_ite (c : Prop) [Decidable c] (v : Value) (σ : Heap) (k : Value → Heap → Prop) : kH (if c then some (v, σ) else none) k = (c ∧ k v σ) := by
  by_cases h : c <;> simp [h, kH]
@[simp ↓] theorem kS_some (σ : Heap) (k : Heap → Prop) : kS (some σ) k = k σ := propext ⟨fun h => h, fun h => h⟩
@[simp ↓] theorem kS_none (k : Heap → Prop) : kS none k = False := propext ⟨fun h => h, fun h => h⟩
@[simp ↓] theorem kS_ite (c : Prop) [Decidable c] (σ : Heap) (k : Heap → Prop) : kS (if c then some σ else none) k = (c ∧ k σ) := by
  by_cases h : c <;> simp [h, kS]
@[simp] theorem vBin_add (k : IntKind) (m n : Int) : vBin .add (.int k m) (.int k n) = some (.int k (k.wrap (m + n))) := by simp [vBin]
@[simp] theorem vBin_sub (k : IntKind) (m n : Int) : vBin .sub (.int k m) (.int k n) = some (.int k (k.wrap (m - n))) := by simp [vBin]
@[simp] theorem vBin_mul (k : IntKind) (m n : Int) : vBin .mul (.int k m) (.int k n) = some (.int k (k.wrap (m * n))) := by simp [vBin]
@[simp] theorem vBin_quo (k : IntKind) (m n : Int) : vBin .quo (.int k m) (.int k n) = if n = 0 then none else some (.int k (k.wrap (m.tdiv n))) := by simp [vBin]
@[simp] theorem vBin_rem (k : IntKind) (m n : Int) : vBin .rem (.int k m) (.int k n) = if n = 0 then none else some (.int k (m.tmod n)) := by simp [vBin]
@[simp] theorem vBin_and (k : IntKind) (m n : Int) : vBin .and (.int k m) (.int k n) = some (.int k (Go.bits .and k m n)) := by simp [vBin]
@[simp] theorem vBin_or (k : IntKind) (m n : Int) : vBin .or (.int k m) (.int k n) = some (.int k (Go.bits .or k m n)) := by simp [vBin]
@[simp] theorem vBin_xor (k : IntKind) (m n : Int) : vBin .xor (.int k m) (.int k n) = some (.int k (Go.bits .xor k m n)) := by simp [vBin]
@[simp] theorem vBin_andNot (k : IntKind) (m n : Int) : vBin .andNot (.int k m) (.int k n) = some (.int k (Go.bits .andNot k m n)) := by simp [vBin]
@[simp] theorem vBin_eql (k : IntKind) (m n : Int) : vBin .eql (.int k m) (.int k n) = some (.bool (decide (m = n))) := by simp [vBin]; rfl
@[simp] theorem vBin_neq (k : IntKind) (m n : Int) : vBin .neq (.int k m) (.int k n) = some (.bool (!decide (m = n))) := by simp [vBin]; rfl
@[simp] theorem vBin_lss (k : IntKind) (m n : Int) : vBin .lss (.int k m) (.int k n) = some (.bool (decide (m < n))) := by simp [vBin]
@[simp] theorem vBin_leq (k : IntKind) (m n : Int) : vBin .leq (.int k m) (.int k n) = some (.bool (decide (m ≤ n))) := by simp [vBin]
@[simp] theorem vBin_gtr (k : IntKind) (m n : Int) : vBin .gtr (.int k m) (.int k n) = some (.bool (decide (n < m))) := by simp [vBin]
@[simp] theorem vBin_geq (k : IntKind) (m n : Int) : vBin .geq (.int k m) (.int k n) = some (.bool (decide (n ≤ m))) := by simp [vBin]
@[simp] theorem vPick_bool (t : Bool) (a b : Value) : vPick (.bool t) a b = some (if t = true then a else b) := (Eq.refl _).trans (Eq.refl _)
@[simp] theorem vLoad_cell (n : Nat) (b o : Nat) (σ : Heap) : vLoad n false (.pointer (some ⟨b, o, none⟩)) σ = (σ.blk b).cells[o]? := by simp [vLoad, partA]
@[simp] theorem vLoad_agg (n : Nat) (b o : Nat) (σ : Heap) : vLoad n true (.pointer (some ⟨b, o, none⟩)) σ = (readCells (σ.blk b).cells o n).map fun l => .agg l.toArray := by simp [vLoad, partA]
@[simp] theorem vStore_at (n : Nat) (b o : Nat) (v : Value) (σ : Heap) : vStore n (.pointer (some ⟨b, o, none⟩)) v σ =
    if σ.base ≤ b ∧ (vcells v).length = n ∧ okCells v = true ∧ o + n ≤ (σ.blk b).cells.length ∧ 0 < n then some (σ.put b (setCells (σ.blk b).cells o (vcells v))) else none := by simp [vStore]
@[simp] theorem vNilck_ptr (a : Addr) : vNilck (.pointer (some a)) = some (.pointer (some a)) := (Eq.refl _).trans (Eq.refl _)
@[simp] theorem vNilck_fn (f : Fn) (cs : Array Value) : vNilck (.func f #[] cs) = some (.func f #[] cs) := by simp [vNilck]
@[simp] theorem vShift_int (op : BinOp) (k k' : IntKind) (a b : Int) : vShift op (.int k a) (.int k' b) = shiftA op k a b := (Eq.refl _).trans (Eq.refl _)
@[simp] theorem vBeq_bool (neg a b : Bool) : vBeq neg (.bool a) (.bool b) = some (.bool (if neg = true then a != b else a == b)) := (Eq.refl _).trans (Eq.refl _)
@[simp] theorem vAeq_agg (n : Nat) (neg : Bool) (a b : Array Value) : vAeq n neg (.agg a) (.agg b) = if a.size = n then (cellsEq a.toList b.toList).map fun r => .bool (if neg = true then !r else r) else none := (Eq.refl _).trans (Eq.refl _)
@[simp] theorem vUn_neg (k : IntKind) (n : Int) : vUn .neg (.int k n) = some (.int k (k.wrap (0 - n))) := (Eq.refl _).trans (Eq.refl _)
@[simp] theorem vUn_not (b : Bool) : vUn .not (.bool b) = some (.bool !b) := (Eq.refl _).trans (Eq.refl _)
@[simp] theorem vConv_int (k k' : IntKind) (n : Int) : vConv k (.int k' n) = some (.int k (k.wrap n)) := (Eq.refl _).trans (Eq.refl _)
@[simp] theorem vFaddr_at (f b o : Nat) : vFaddr f (.pointer (some ⟨b, o, none⟩)) = some (.pointer (some ⟨b, o + f, none⟩)) := by simp [vFaddr]
@[simp] theorem vField_agg (o n : Nat) (g : Bool) (cs : Array Value) : vField o n g (.agg cs) = partA cs.toList o n g := (Eq.refl _).trans (Eq.refl _)
@[simp] theorem vIaddr_at (e b o n c : Nat) (k : IntKind) (i : Int) : vIaddr e (.slice (some ⟨b, o, none⟩) n c) (.int k i) = if 0 ≤ i ∧ i < n then some (.pointer (some ⟨b, o + i.toNat * e, none⟩)) else none := by simp [vIaddr]
@[simp] theorem vIaddrA_at (l e b o : Nat) (k : IntKind) (i : Int) : vIaddrA l e (.pointer (some ⟨b, o, none⟩)) (.int k i) = if 0 ≤ i ∧ i < l then some (.pointer (some ⟨b, o + i.toNat * e, none⟩)) else none := by simp [vIaddrA]
@[simp] theorem vIndex_agg (l e : Nat) (g : Bool) (cs : Array Value) (k : IntKind) (i : Int) : vIndex l e g (.agg cs) (.int k i) = if 0 ≤ i ∧ i < l then partA cs.toList (i.toNat * e) e g else none := (Eq.refl _).trans (Eq.refl _)
@[simp] theorem vExtract_tup (vs : Array Value) (i : Nat) : vExtract (.tuple vs) i = vs[i]? := (Eq.refl _).trans (Eq.refl _)
@[simp] theorem vLen_slice (a : Option Addr) (n c : Nat) : vLen (.slice a n c) = some (.int .i64 n) := (Eq.refl _).trans (Eq.refl _)
@[simp] theorem vMx_int (m : Bool) (k k' : IntKind) (a b : Int) : vMx m (.int k a) (.int k' b) = some (.int k (if m = true then (if b > a then b else a) else (if b < a then b else a))) := (Eq.refl _).trans (Eq.refl _)
@[simp] theorem vSnil_slice (neg : Bool) (a : Option Addr) (n c : Nat) : vSnil neg (.slice a n c) = some (.bool (if neg = true then a.isSome else a.isNone)) := (Eq.refl _).trans (Eq.refl _)
@[simp] theorem vBox_agg (cs : Array Value) (σ : Heap) : vBox (.agg cs) σ = if cs.toList.all one = true then some (.pointer (some ⟨σ.size, 0, none⟩), σ.push ⟨cs.toList.length, cs.toList⟩) else none := (Eq.refl _).trans (Eq.refl _)
@[simp] theorem vBox_int (k : IntKind) (n : Int) (σ : Heap) : vBox (.int k n) σ = some (.pointer (some ⟨σ.size, 0, none⟩), σ.push ⟨1, [.int k n]⟩) := (Eq.refl _).trans (Eq.refl _)
@[simp] theorem vBox_bool (b : Bool) (σ : Heap) : vBox (.bool b) σ = some (.pointer (some ⟨σ.size, 0, none⟩), σ.push ⟨1, [.bool b]⟩) := (Eq.refl _).trans (Eq.refl _)
@[simp] theorem vBox_slice (a : Option Addr) (n c : Nat) (σ : Heap) : vBox (.slice a n c) σ = some (.pointer (some ⟨σ.size, 0, none⟩), σ.push ⟨1, [.slice a n c]⟩) := (Eq.refl _).trans (Eq.refl _)
@[simp] theorem vBox_ptr (a : Option Addr) (σ : Heap) : vBox (.pointer a) σ = some (.pointer (some ⟨σ.size, 0, none⟩), σ.push ⟨1, [.pointer a]⟩) := (Eq.refl _).trans (Eq.refl _)
@[simp] theorem vBox_func (f : Fn) (a c : Array Value) (σ : Heap) : vBox (.func f a c) σ = some (.pointer (some ⟨σ.size, 0, none⟩), σ.push ⟨1, [.func f a c]⟩) := (Eq.refl _).trans (Eq.refl _)
@[simp] theorem vMk_int (e b : Nat) (z : List Value) (n m : Int) (σ : Heap) : vMk e b z (.int .i64 n) (.int .i64 m) σ = if 0 ≤ n ∧ n ≤ m ∧ m * b ≤ 281474976710656 ∧ 0 < b then
    some (.slice (some ⟨σ.size, 0, none⟩) n.toNat m.toNat, σ.push ⟨e, zeroRow z m.toNat⟩) else none := (Eq.refl _).trans (Eq.refl _)
@[simp ↓] theorem kBool_bool (b : Bool) (A B : Prop) : kBool (.bool b) A B = if b = true then A else B := propext ⟨fun h => h, fun h => h⟩
@[simp ↓] theorem kG_bool (b c : Bool) (T F : Prop) : kG (.bool b) c T F = if b = c then T else F := by
  cases b <;> cases c <;> rfl
@[simp ↓] theorem kG_undef (c : Bool) (T F : Prop) : kG undef c T F = F := propext ⟨fun h => h, fun h => h⟩
@[simp] theorem kCallv_fn (P : Program) (w0 : World) (f : FuncId) (cs : Array Value) (args : List Value) (σ : Heap) (k : Value → Heap → Prop) : kCallv P w0 (.func (.func f) #[] cs) args σ k = (callOk P f = true ∧ ACalls P w0 f (args ++ cs.toList) σ k) := by simp [kCallv, fnOf]
@[simp] theorem kChk_nil (σ : Heap) : kChk [] σ = True := rfl
attribute [simp] vBuild vLit optInt kChk gO gV psEv

@[congr] theorem loopH_congr {α : Type} {b : (α → Heap → Prop) → α → Heap → Prop} {s s' : α} {σ σ' : Heap} (h1 : s = s') (h2 : σ = σ') : loopH b s σ = loopH b s' σ' := by rw [h1, h2]
@[congr] theorem kO_congr {o o' : Option Value} {k : Value → Prop} (h : o = o') : kO o k = kO o' k := by rw [h]
@[congr] theorem kH_congr {o o' : Option (Value × Heap)} {k : Value → Heap → Prop} (h : o = o') : kH o k = kH o' k := by rw [h]
@[congr] theorem kS_congr {o o' : Option Heap} {k : Heap → Prop} (h : o = o') : kS o k = kS o' k := by rw [h]
@[congr] theorem kG_congr {g g' : Value} {b : Bool} {T F : Prop} (h : g = g') : kG g b T F = kG g' b T F := by rw [h]
@[congr] theorem kBool_congr {g g' : Value} {T F : Prop} (h : g = g') : kBool g T F = kBool g' T F := by rw [h]
/-- A call that answers r and leaves the heap. -/
theorem ret_go {P : Program} {w0 : World} {f : FuncId} {args : List Value} {σ : Heap} {r : Value} {K : Value → Heap → Prop} (h : ACalls P w0 f args σ fun v σ' => v = r ∧ σ' = σ) (hk : K r σ) : ACalls P w0 f args σ K :=
  h.mono fun v σ' ⟨e1, e2⟩ => by subst e1 e2; exact hk
theorem ret_ext {P : Program} {w0 : World} {f : FuncId} {args : List Value} {σ : Heap} {r : Value} {K : Value → Heap → Prop} (h : ACalls P w0 f args σ fun v σ' => v = r ∧ Ext σ σ') (hk : ∀ σ', Ext σ σ' → K r σ') : ACalls P w0 f args σ K :=
  h.mono fun v σ' ⟨e1, e2⟩ => by subst e1; exact hk _ e2
theorem all_snoc {α : Type} {p : α → Bool} {L : List α} {i : Nat} (hi : i < L.length) (h : (L.take i).all p = true) (hp : p L[i] = true) : (L.take (i + 1)).all p = true := by
  rw [List.take_succ_eq_append_getElem hi, List.all_append, h]; simp [hp]
theorem all_no {α : Type} {p : α → Bool} {L : List α} {i : Nat} (hi : i < L.length) (hp : p L[i] = false) : L.all p = false := by
  rw [List.all_eq_false]; exact ⟨L[i], List.getElem_mem _, by simp [hp]⟩
theorem all_end {α : Type} {p : α → Bool} {L : List α} {i : Nat} (hi : L.length ≤ i) (h : (L.take i).all p = true) : L.all p = true := by
  rwa [List.take_of_length_le hi] at h
/-- A loop over 0 .. n - 1: what holds at each number. -/
theorem loop_for {α β : Type} {body : (α → Heap → Prop) → α → Heap → Prop} (n : Nat) (mk : Int → β → α) (I : Nat → β → Heap → Prop) {b : β} {σ : Heap} (h0 : I 0 b σ)
    (step : ∀ (J : α → Heap → Prop) (i : Nat) (b : β) (σ : Heap), i < n → I i b σ → (∀ b σ, I (i + 1) b σ → J (mk ((i : Int) + 1) b) σ) → body J (mk (i : Int) b) σ)
    (fin : ∀ (J : α → Heap → Prop) (b : β) (σ : Heap), I n b σ → body J (mk (n : Int) b) σ) : loopH body (mk 0 b) σ := by
  refine ⟨fun k s σ => ∃ (i : Nat) (b : β), s = mk (i : Int) b ∧ i + k = n ∧ I i b σ, n, ⟨0, b, rfl, by omega, h0⟩, ?_⟩
  rintro k _ σ ⟨i, b, rfl, hi, hI⟩
  by_cases hlt : i < n
  · exact step _ i b σ hlt hI fun b σ h => ⟨k - 1, by omega, i + 1, b, by rw [Int.natCast_succ], by omega, h⟩
  · have : i = n := by omega
    subst this
    exact fin _ b σ hI
/-- The same without more than the number. -/
theorem loop_for0 {body : (Value → Heap → Prop) → Value → Heap → Prop} (n : Nat) (I : Nat → Heap → Prop) {σ : Heap} (h0 : I 0 σ)
    (step : ∀ (J : Value → Heap → Prop) (i : Nat) (σ : Heap), i < n → I i σ → (∀ σ, I (i + 1) σ → J (.int .i64 ((i : Int) + 1)) σ) → body J (.int .i64 (i : Int)) σ)
    (fin : ∀ (J : Value → Heap → Prop) (σ : Heap), I n σ → body J (.int .i64 (n : Int)) σ) : loopH body (.int .i64 0) σ :=
  loop_for (β := Unit) n (fun i _ => .int .i64 i) (fun i _ σ => I i σ) (b := ()) h0 (fun J i _ σ hi hI hJ => step J i σ hi hI (fun σ h => hJ () σ h)) (fun J _ σ h => fin J σ h)
@[simp] theorem readCells_self (l : List Value) (n : Nat) (h : l.length = n) : readCells l 0 n = some l := by
  unfold readCells
  rw [if_pos (by omega)]
  simp [← h]
/-- A block, and that it is there. -/
def Has (σ : Heap) (i : Nat) (B : Blk) : Prop := σ.blk i = B ∧ i < σ.size
theorem Has.ext {σ σ' : Heap} {i : Nat} {B : Blk} (h : Has σ i B) (hE : Ext σ σ') : Has σ' i B := ⟨(hE.blk i h.2).trans h.1, Nat.lt_of_lt_of_le h.2 hE.size⟩
theorem boxed_has {σ σ2 : Heap} {B : Blk} (h : σ2.blk σ.size = B) (hs : σ2.size = σ.size + 1) : Has σ2 σ.size B := ⟨h, by omega⟩
/-- A heap with one block more, under a name of its own. -/
theorem boxed (σ : Heap) (B : Blk) : ∃ σ2, σ2 = σ.push B ∧ Ext σ σ2 ∧ σ2.blk σ.size = B ∧ σ2.base = σ.base ∧ σ2.size = σ.size + 1 ∧ ∀ i, i < σ.size → σ2.blk i = σ.blk i :=
  ⟨_, rfl, Ext.push _ _, push_new _ _, rfl, rfl, fun i hi => push_old _ _ hi⟩
end Go.AH
