/- What a draw leaves: the heap but for the reader's block. -/
import Derived.Test.YtennnifijepfhaaAhZ
import Derived.Test.YtennnifijepfhaaAhW
namespace Go.AH
open Go Go.RowKit
set_option linter.unusedVariables false
set_option linter.unusedSimpArgs false
/-- σ' goes on from σ, but for the block B. -/
structure Stp (B : Nat) (σ σ' : Heap) : Prop where
  base : σ'.base = σ.base
  size : σ.size ≤ σ'.size
  blk : ∀ i, i < σ.size → i ≠ B → σ'.blk i = σ.blk i
theorem Stp.refl (B : Nat) (σ : Heap) : Stp B σ σ := ⟨rfl, Nat.le_refl _, fun _ _ _ => rfl⟩
theorem Stp.trans {B : Nat} {a b c : Heap} (h : Stp B a b) (k : Stp B b c) : Stp B a c := ⟨k.base.trans h.base, Nat.le_trans h.size k.size, fun i hi hn => (k.blk i (Nat.lt_of_lt_of_le hi h.size) hn).trans (h.blk i hi hn)⟩
theorem Stp.of {B : Nat} {σ σ' : Heap} (h : Ext σ σ') : Stp B σ σ' := ⟨h.base, h.size, fun i hi _ => h.blk i hi⟩
theorem Stp.ext {B : Nat} {σ0 σ σ' : Heap} (h : Stp B σ σ') (h0 : Ext σ0 σ) (hB : σ0.size ≤ B) : Ext σ0 σ' :=
  ⟨h.base.trans h0.base, Nat.le_trans h0.size h.size, fun i hi => (h.blk i (Nat.lt_of_lt_of_le hi h0.size) (by omega)).trans (h0.blk i hi)⟩
theorem SlF.stp {α : Type} {R : Heap → α → List Value → List Nat → Prop} {sz : Nat} (hG : Gd R) {B : Nat} {σ σ' : Heap} {v : Value} {xs : List α} {fp : List Nat} (h : SlF R sz σ v xs fp) (k : Stp B σ σ') (hB : B ∉ fp) : SlF R sz σ' v xs fp :=
  h.frame hG k.base k.size fun i hi => k.blk i (h.ins hG i hi) fun e => hB (e ▸ hi)
theorem Acc.stp {α : Type} {R : Heap → α → List Value → List Nat → Prop} {sz : Nat} (hG : Gd R) {B : Nat} {lo : Nat} {σ σ' : Heap} {v : Value} {xs : List α} {ob : Option Nat} {es : List Nat} (h : Acc R sz lo σ v xs ob es) (k : Stp B σ σ') (hB : B ∉ ob.toList ++ es) : Acc R sz lo σ' v xs ob es :=
  h.frame hG k.base k.size fun i hi => k.blk i (h.sl.ins hG i hi) fun e => hB (e ▸ hi)
theorem Chg.stp {B : Nat} {ob : Option Nat} {σ0 σ σ' : Heap} (h : Chg ob σ σ') (h0 : Stp B σ0 σ) (hb : ∀ b ∈ ob, σ0.size ≤ b) : Stp B σ0 σ' :=
  ⟨h.base.trans h0.base, Nat.le_trans h0.size h.size, fun i hi hn => (h.blk i (Nat.lt_of_lt_of_le hi h0.size) fun b hb' => by have := hb b hb'; omega).trans (h0.blk i hi hn)⟩
/-- What a loop that draws and appends keeps: the heap but for the reader's block, the slice so far, its elements' property, all its blocks new. -/
structure Grow {α : Type} (R : Heap → α → List Value → List Nat → Prop) (sz : Nat) (B : Nat) (σ0 : Heap) (p : List α → Prop) (v : Value) (σ : Heap) : Prop where
  stp : Stp B σ0 σ
  acc : ∃ L ob es, Acc R sz σ0.size σ v L ob es ∧ (∀ i ∈ es, σ0.size ≤ i) ∧ (ob.toList ++ es).Nodup ∧ p L
theorem Grow.nil {α : Type} {R : Heap → α → List Value → List Nat → Prop} {sz : Nat} {B : Nat} {σ0 σ : Heap} {p : List α → Prop} (h : Stp B σ0 σ) (a : Option Addr) (hp : p []) : Grow R sz B σ0 p (.slice a 0 0) σ :=
  ⟨h, [], none, [], Acc.nil ⟨by rw [h.base]; exact σ0.hle, h.size⟩ a, by simp, by simp, hp⟩
theorem Grow.val {α : Type} {R : Heap → α → List Value → List Nat → Prop} {sz : Nat} {B : Nat} {σ0 σ : Heap} {p : List α → Prop} {v : Value} (h : Grow R sz B σ0 p v σ) : ∃ L fp, SlF R sz σ v L fp ∧ Fresh σ0 fp ∧ p L := by
  obtain ⟨L, ob, es, hA, he, hn, hp⟩ := h.acc
  refine ⟨L, _, hA.sl, ⟨hn, fun b hb => ?_⟩, hp⟩
  rcases List.mem_append.1 hb with hb | hb
  · exact (hA.ge b (by cases ob <;> simp_all)).1
  · exact he b hb
/-- The reader picks, other things are made. -/
theorem Grow.go {α : Type} {R : Heap → α → List Value → List Nat → Prop} {sz : Nat} (hG : Gd R) {B : Nat} {σ0 σ σ' : Heap} {p : List α → Prop} {v : Value} (h : Grow R sz B σ0 p v σ) (hB : B < σ0.size) (k : Stp B σ σ') : Grow R sz B σ0 p v σ' := by
  obtain ⟨L, ob, es, hA, he, hn, hp⟩ := h.acc
  refine ⟨h.stp.trans k, L, ob, es, hA.stp hG k fun hm => ?_, he, hn, hp⟩
  rcases List.mem_append.1 hm with hb | hb
  · have := (hA.ge B (by cases ob <;> simp_all)).1
    omega
  · have := he B hb
    omega
/-- One element more. -/
theorem Grow.add {α : Type} {R : Heap → α → List Value → List Nat → Prop} {sz : Nat} (hG : Gd R) (hsz : 0 < sz) {bytes : Nat} (hb : 0 < bytes) {B : Nat} {σ0 σ : Heap} {p q : List α → Prop} {v : Value} (h : Grow R sz B σ0 p v σ) {x : α} {cs : List Value} {f : List Nat} (hx : R σ x cs f) (hcs : cs.length = sz)
    (hf : ∀ L ob es, Acc R sz σ0.size σ v L ob es → (∀ i ∈ f, σ0.size ≤ i) ∧ f.Nodup ∧ (∀ i ∈ f, i ∉ ob.toList ++ es)) (hn : ∀ L, p L → (L.length + 1) * bytes ≤ 140737488355328 ∧ q (L ++ [x])) :
    ∃ v' σ', vAppend sz bytes v (.slice (some ⟨σ.size, 0, none⟩) 1 1) (σ.push ⟨sz, cs⟩) = some (v', σ') ∧ Grow R sz B σ0 q v' σ' ∧ σ'.base = σ.base ∧ σ.size ≤ σ'.size ∧ (∀ i, i < σ0.size → σ'.blk i = σ.blk i) ∧ ∃ ob : Option Nat, (∀ b ∈ ob, σ0.size ≤ b ∧ ∃ L es, Acc R sz σ0.size σ v L (some b) es) ∧ Chg ob σ σ' := by
  obtain ⟨L, ob, es, hA, he, hnd, hp⟩ := h.acc
  obtain ⟨f1, f2, f3⟩ := hf L ob es hA
  obtain ⟨n1, n2⟩ := hn L hp
  obtain ⟨v', σ', ob', e, hA', hc⟩ := hA.app1 hG hsz hx hcs (fun b hb hm => f3 b hm (by cases ob <;> simp_all)) hb n1
  have hob := hA'.ge
  have hlt : ∀ i ∈ es ++ f, i < σ.size := fun i hi => by
    rcases List.mem_append.1 hi with hi | hi
    · exact hA.sl.ins hG i (by simp [hi])
    · exact hG.ins hx i hi
  have hge := hA.ge
  refine ⟨v', σ', e, ⟨hc.stp h.stp fun b hb => (hge b hb).1, L ++ [x], ob', es ++ f, hA', fun i hi => ?_, ?_, n2⟩, hc.base, hc.size, fun i hi => hc.blk i (Nat.lt_of_lt_of_le hi h.stp.size) fun b hb => by have := (hge b hb).1; omega, ob, fun b hb => ⟨(hge b hb).1, L, es, by cases ob with
    | none => cases hb
    | some b' => cases hb; exact hA⟩, hc⟩
  · rcases List.mem_append.1 hi with hi | hi
    · exact he i hi
    · exact f1 i hi
  · refine List.nodup_append.2 ⟨by cases ob' <;> simp, List.nodup_append.2 ⟨(List.nodup_append.1 hnd).2.1, f2, fun a ha b hb' e => ?_⟩, fun a ha b hb' e => ?_⟩
    · subst e
      exact f3 a hb' (by simp [ha])
    · subst e
      exact hA'.out a (by cases ob' <;> simp_all) hb'
theorem xor_nonneg (x y : Nat) (hx : x < 4611686018427387904) (hy : y < 4611686018427387904) : 0 ≤ Go.bits .xor .i64 (x : Int) (y : Int) ∧ Go.bits .xor .i64 (x : Int) (y : Int) < 4611686018427387904 := by
  have h : (BitVec.ofInt 64 (x : Int) ^^^ BitVec.ofInt 64 (y : Int)).toNat = x ^^^ y := by
    rw [BitVec.toNat_xor]
    congr 1
    · simp; omega
    · simp; omega
  have hlt : x ^^^ y < 2 ^ 62 := Nat.xor_lt_two_pow (by omega) (by omega)
  have e : Go.bits .xor .i64 (x : Int) (y : Int) = IntKind.i64.wrap (((BitVec.ofInt 64 (x : Int) ^^^ BitVec.ofInt 64 (y : Int)).toNat : Nat) : Int) := rfl
  rw [e, h, w64 (by omega) (by omega)]
  omega
end Go.AH
