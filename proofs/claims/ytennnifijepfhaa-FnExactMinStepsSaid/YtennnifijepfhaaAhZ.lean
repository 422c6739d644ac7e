/- Slices that grow: what is appended, and what a slice that the call itself builds reads as. -/
import Derived.Test.YtennnifijepfhaaAhY
namespace Go.AH
open Go Go.RowKit
set_option linter.unusedVariables false
set_option linter.unusedSimpArgs false

theorem idx_div {k n sz : Nat} (h : k < n * sz) : k / sz < n ∧ k % sz < sz ∧ k / sz * sz + k % sz = k := by
  have hs : 0 < sz := Nat.pos_of_ne_zero fun e => by subst e; simp at h
  exact ⟨Nat.div_lt_of_lt_mul (by rw [Nat.mul_comm]; exact h), Nat.mod_lt _ hs, by rw [Nat.mul_comm]; exact Nat.div_add_mod k sz⟩
theorem mul_lt {i n j sz : Nat} (hi : i < n) (hj : j < sz) : i * sz + j < n * sz := by
  have : (i + 1) * sz ≤ n * sz := Nat.mul_le_mul_right _ hi
  rw [Nat.succ_mul] at this
  omega
section
variable {α : Type} {R : Heap → α → List Value → List Nat → Prop} {sz : Nat}
/-- All of a slice's cells, read at once. -/
theorem SlF.out (hG : Gd R) (hs : 0 < sz) {σ : Heap} {v : Value} {xs : List α} {fp : List Nat} (h : SlF R sz σ v xs fp) (hx : 0 < xs.length) :
    ∃ (b o c : Nat) (fps : List (List Nat)) (src : List Value), v = .slice (some ⟨b, o, none⟩) xs.length c ∧ 0 < c ∧ b < σ.size ∧ (σ.base ≤ b → (σ.blk b).esz = sz) ∧ fp = b :: fps.flatten ∧ fps.length = xs.length ∧ readCells (σ.blk b).cells o (xs.length * sz) = some src ∧ src.length = xs.length * sz ∧ src.all one = true ∧
      ∀ i x f, xs[i]? = some x → fps[i]? = some f → ∃ cs, cs.length = sz ∧ R σ x cs f ∧ ∀ j c', cs[j]? = some c' → src[i * sz + j]? = some c' := by
  rcases h.form with ⟨rfl, _⟩ | ⟨_, b, o, c, fps, e1, e2, e3, e4, e5, e6, e7⟩
  · simp at hx
  have get : ∀ i (hi : i < xs.length), ∃ f cs, fps[i]? = some f ∧ cs.length = sz ∧ R σ xs[i] cs f ∧ ∀ j c', cs[j]? = some c' → (σ.blk b).cells[o + i * sz + j]? = some c' := fun i hi => by
    obtain ⟨cs, g1, g2, g3⟩ := e7 i _ _ (List.getElem?_eq_getElem hi) (List.getElem?_eq_getElem (show i < fps.length by omega))
    exact ⟨_, cs, List.getElem?_eq_getElem _, g1, g2, g3⟩
  have hlen : o + xs.length * sz ≤ (σ.blk b).cells.length := by
    obtain ⟨f, cs, _, g1, _, g3⟩ := get (xs.length - 1) (by omega)
    have := g3 (sz - 1) (cs[sz - 1]'(by omega)) (List.getElem?_eq_getElem _)
    have h1 := (List.getElem?_eq_some_iff.1 this).1
    have h2 : (xs.length - 1) * sz + sz = xs.length * sz := by rw [← Nat.succ_mul]; congr 1; omega
    omega
  have hsrc : ∀ k, k < xs.length * sz → (((σ.blk b).cells.drop o).take (xs.length * sz))[k]? = (σ.blk b).cells[o + k]? := fun k hk => by
    rw [List.getElem?_take, if_pos hk, List.getElem?_drop]
  refine ⟨b, o, c, fps, _, e1, e2, e3, e4, e5, e6, by unfold readCells; rw [if_pos hlen], by simp; omega, ?_, ?_⟩
  · rw [List.all_eq_true]
    intro y hy
    obtain ⟨k, hk, rfl⟩ := List.mem_iff_getElem.1 hy
    have hk' : k < xs.length * sz := by simp at hk; omega
    have hd := idx_div hk'
    obtain ⟨f, cs, _, g1, g2, g3⟩ := get _ hd.1
    have h1 := g3 (k % sz) (cs[k % sz]'(by omega)) (List.getElem?_eq_getElem _)
    have h2 : o + k / sz * sz + k % sz = o + k := by have := hd.2.2; omega
    rw [h2, ← hsrc k hk', List.getElem?_eq_getElem hk] at h1
    injection h1 with h1
    rw [h1]
    exact List.all_eq_true.1 (hG.ok g2) _ (List.getElem_mem _)
  · intro i x f hxi hfi
    obtain ⟨cs, g1, g2, g3⟩ := e7 i x f hxi hfi
    refine ⟨cs, g1, g2, fun j c' hj => ?_⟩
    have hi := (List.getElem?_eq_some_iff.1 hxi).1
    have hj' := (List.getElem?_eq_some_iff.1 hj).1
    rw [hsrc _ (mul_lt hi (by omega)), ← Nat.add_assoc]
    exact g3 j c' hj
/-- A slice in a block that holds just its cells. -/
theorem SlF.into {σ : Heap} {b c : Nat} {xs : List α} {fps : List (List Nat)} (hx : 0 < xs.length) (hc : 0 < c) (hb : b < σ.size) (he : (σ.blk b).esz = sz) (hf : fps.length = xs.length)
    (h : ∀ i x f, xs[i]? = some x → fps[i]? = some f → ∃ cs, cs.length = sz ∧ R σ x cs f ∧ ∀ j c', cs[j]? = some c' → (σ.blk b).cells[i * sz + j]? = some c') : SlF R sz σ (.slice (some ⟨b, 0, none⟩) xs.length c) xs (b :: fps.flatten) :=
  ⟨.inr ⟨hx, b, 0, c, fps, rfl, hc, hb, fun _ => he, rfl, hf, fun i x f h1 h2 => by
    obtain ⟨cs, g1, g2, g3⟩ := h i x f h1 h2
    exact ⟨cs, g1, g2, fun j c' hj => by rw [Nat.zero_add]; exact g3 j c' hj⟩⟩⟩
/-- A slice that the call builds: nothing yet, or a block of its own, not below lo. es: the blocks of its elements. -/
structure Acc (R : Heap → α → List Value → List Nat → Prop) (sz : Nat) (lo : Nat) (σ : Heap) (v : Value) (xs : List α) (ob : Option Nat) (es : List Nat) : Prop where
  sl : SlF R sz σ v xs (ob.toList ++ es)
  lov : σ.base ≤ lo ∧ lo ≤ σ.size
  own : (xs = [] ∧ ob = none ∧ es = [] ∧ ∃ a, v = .slice a 0 0) ∨ (0 < xs.length ∧ ∃ b c, ob = some b ∧ v = .slice (some ⟨b, 0, none⟩) xs.length c ∧ 0 < c ∧ lo ≤ b ∧ b < σ.size ∧ (σ.blk b).esz = sz)
  out : ∀ b ∈ ob, b ∉ es
theorem Acc.nil {lo : Nat} {σ : Heap} (h : σ.base ≤ lo ∧ lo ≤ σ.size) (a : Option Addr) : Acc R sz lo σ (.slice a 0 0) [] none [] :=
  ⟨⟨.inl ⟨rfl, rfl, a, 0, rfl, fun _ => rfl⟩⟩, h, .inl ⟨rfl, rfl, rfl, a, rfl⟩, by simp⟩
theorem Acc.len {lo : Nat} {σ : Heap} {v : Value} {xs : List α} {ob : Option Nat} {es : List Nat} (h : Acc R sz lo σ v xs ob es) : ∃ a c, v = .slice a xs.length c := h.sl.len
theorem Acc.ge {lo : Nat} {σ : Heap} {v : Value} {xs : List α} {ob : Option Nat} {es : List Nat} (h : Acc R sz lo σ v xs ob es) : ∀ b ∈ ob, lo ≤ b ∧ b < σ.size := by
  intro b hb
  rcases h.own with ⟨_, rfl, _⟩ | ⟨_, b', c, rfl, _, _, h1, h2, _⟩
  · cases hb
  · cases hb; exact ⟨h1, h2⟩
/-- The heap goes on and leaves its blocks. -/
theorem Acc.frame (hG : Gd R) {lo : Nat} {σ σ' : Heap} {v : Value} {xs : List α} {ob : Option Nat} {es : List Nat} (h : Acc R sz lo σ v xs ob es) (hb : σ'.base = σ.base) (hs : σ.size ≤ σ'.size) (hf : ∀ i ∈ ob.toList ++ es, σ'.blk i = σ.blk i) : Acc R sz lo σ' v xs ob es := by
  refine ⟨h.sl.frame hG hb hs hf, ⟨by rw [hb]; exact h.lov.1, Nat.le_trans h.lov.2 hs⟩, h.own.imp id ?_, h.out⟩
  rintro ⟨h1, b, c, rfl, h2, h3, h4, h5, h6⟩
  exact ⟨h1, b, c, rfl, h2, h3, h4, by omega, by rw [hf b (by simp)]; exact h6⟩
theorem Acc.go (hG : Gd R) {lo : Nat} {σ σ' : Heap} {v : Value} {xs : List α} {ob : Option Nat} {es : List Nat} (h : Acc R sz lo σ v xs ob es) (hE : Ext σ σ') : Acc R sz lo σ' v xs ob es :=
  h.frame hG hE.base hE.size fun i hi => hE.blk i (h.sl.ins hG i hi)
/-- σ' goes on from σ, but for the block ob. -/
structure Chg (ob : Option Nat) (σ σ' : Heap) : Prop where
  base : σ'.base = σ.base
  size : σ.size ≤ σ'.size
  blk : ∀ i, i < σ.size → (∀ b ∈ ob, i ≠ b) → σ'.blk i = σ.blk i
theorem Chg.ext {ob : Option Nat} {σ0 σ σ' : Heap} (h : Chg ob σ σ') (h0 : Ext σ0 σ) (hb : ∀ b ∈ ob, σ0.size ≤ b) : Ext σ0 σ' :=
  ⟨h.base.trans h0.base, Nat.le_trans h0.size h.size, fun i hi => (h.blk i (Nat.lt_of_lt_of_le hi h0.size) fun b hb' => by have := hb b hb'; omega).trans (h0.blk i hi)⟩
theorem getElem?_append_cases {β : Type} {l m : List β} {i : Nat} {x : β} (h : (l ++ m)[i]? = some x) : (i < l.length ∧ l[i]? = some x) ∨ (l.length ≤ i ∧ m[i - l.length]? = some x) := by
  by_cases hi : i < l.length
  · rw [List.getElem?_append_left hi] at h; exact .inl ⟨hi, h⟩
  · rw [List.getElem?_append_right (by omega)] at h; exact .inr ⟨by omega, h⟩
/-- A slice is appended. -/
theorem Acc.app' (hG : Gd R) (hsz : 0 < sz) {bytes : Nat} {lo : Nat} {σ : Heap} {v t : Value} {xs ys : List α} {ob : Option Nat} {es fq : List Nat} (h : Acc R sz lo σ v xs ob es) (k : SlF R sz σ t ys fq) (hd : ∀ b ∈ ob, b ∉ fq)
    (hb : 0 < bytes) (hn : (xs.length + ys.length) * bytes ≤ 140737488355328) :
    ∃ v' σ' ob', vAppend sz bytes v t σ = some (v', σ') ∧ Acc R sz lo σ' v' (xs ++ ys) ob' (es ++ fq.drop 1) ∧ Chg ob σ σ' ∧ (ys ≠ [] → ob' = some σ.size) := by
  by_cases hy : ys = []
  · subst hy
    have hfq : fq = [] := by
      rcases k.form with ⟨_, h, _⟩ | ⟨h, _⟩
      · exact h
      · simp at h
    subst hfq
    obtain ⟨a, c, rfl⟩ := h.len
    obtain ⟨a', c', rfl⟩ := k.len
    refine ⟨.slice a xs.length c, σ, ob, by simp [vAppend, appendA], by simpa using h, ⟨rfl, Nat.le_refl _, fun _ _ _ => rfl⟩, fun h => absurd rfl h⟩
  have hyl : 0 < ys.length := List.length_pos_iff.2 hy
  obtain ⟨bt, ot, ct, fpt, src, rfl, hct, hbt, _, rfl, hfl, hrd, hsl, hone, hel⟩ := k.out hG hsz hyl
  have hssz := h.lov.2
  have hlob := h.lov.1
  rcases h.own with ⟨rfl, rfl, rfl, a, rfl⟩ | ⟨hxl, b, c, rfl, rfl, hc, hb0, hbs, hes⟩
  · refine ⟨.slice (some ⟨σ.size, 0, none⟩) ys.length ys.length, σ.push ⟨sz, src⟩, some σ.size, ?_, ⟨?_, ⟨hlob, by simp; omega⟩, .inr ⟨by simpa using hyl, σ.size, ys.length, rfl, by simp, hyl, hssz, by simp, by simp⟩, ?_⟩, ⟨rfl, by simp, fun i hi _ => push_old _ _ hi⟩, fun _ => rfl⟩
    · simp only [List.length_nil, Nat.zero_add] at hn
      simp [vAppend, appendA, hrd, hone, hb, hsz, hn, show ys.length ≠ 0 by omega]
    · have : SlF R sz (σ.push ⟨sz, src⟩) (.slice (some ⟨σ.size, 0, none⟩) ys.length ys.length) ys (σ.size :: fpt.flatten) := by
        refine SlF.into hyl hyl (by simp) (by simp) hfl fun i x f hx hf => ?_
        obtain ⟨cs, g1, g2, g3⟩ := hel i x f hx hf
        exact ⟨cs, g1, hG.fr g2 rfl (by simp) fun q hq => push_old _ _ (hG.ins g2 q hq), fun j c' hj => by simpa using g3 j c' hj⟩
      simpa using this
    · intro q hq
      simp at hq
      subst hq
      intro hm
      simp only [List.drop_succ_cons, List.drop_zero, List.nil_append] at hm
      have := k.ins hG σ.size (by simp only [List.mem_cons]; exact .inr hm)
      omega
  · obtain ⟨b2, o2, c2, fps, pre, e1, _, _, _, e5, hfl2, hrd2, hsl2, _, hel2⟩ := h.sl.out hG hsz hxl
    injection e1 with e1 _ e1'
    injection e1 with e1
    injection e1 with e1 e2 _
    subst e1 e2 e1'
    have hes2 : es = fps.flatten := by simpa using e5
    have hbne : b ∉ es := h.out b rfl
    have hbnq : b ∉ bt :: fpt.flatten := hd b rfl
    have hne : (σ.blk b).cells ≠ [] := by
      intro e
      rw [e] at hrd2
      unfold readCells at hrd2
      split at hrd2
      · rename_i hh
        simp at hh
        have : 0 < xs.length * sz := Nat.mul_pos hxl hsz
        omega
      · cases hrd2
    have off : ∀ q, q < σ.size → q ≠ b → ((σ.put b []).push ⟨sz, pre ++ src⟩).blk q = σ.blk q := fun q h1 h2 => by
      rw [push_old _ _ (by simpa using h1), put_off _ _ h2]
    refine ⟨.slice (some ⟨σ.size, 0, none⟩) (xs.length + ys.length) (xs.length + ys.length), (σ.put b []).push ⟨sz, pre ++ src⟩, some σ.size, ?_, ⟨?_, ⟨hlob, by simp; omega⟩, .inr ⟨by simp; omega, σ.size, xs.length + ys.length, rfl, by simp, by omega, hssz, by simp, ?_⟩, ?_⟩, ⟨rfl, by simp, fun i hi hne => off i hi (hne b rfl)⟩, fun _ => rfl⟩
    · simp [vAppend, appendA, hrd, hrd2, hone, hb, hsz, hn, show ys.length ≠ 0 by omega, show c ≠ 0 by omega, hes, hne, show σ.base ≤ b by omega]
    · have hl : (xs ++ ys).length = xs.length + ys.length := by simp
      have : SlF R sz ((σ.put b []).push ⟨sz, pre ++ src⟩) (.slice (some ⟨σ.size, 0, none⟩) (xs ++ ys).length (xs.length + ys.length)) (xs ++ ys) (σ.size :: (fps ++ fpt).flatten) := by
        have hnew : ((σ.put b []).push ⟨sz, pre ++ src⟩).blk σ.size = ⟨sz, pre ++ src⟩ := push_new (σ.put b []) _
        refine SlF.into (by omega) (by omega) (by simp) (by rw [hnew]) (by simp; omega) fun i x f hx hf => ?_
        rw [hnew]
        rcases getElem?_append_cases hx with ⟨hi, hx⟩ | ⟨hi, hx⟩
        · rw [List.getElem?_append_left (by omega)] at hf
          obtain ⟨cs, g1, g2, g3⟩ := hel2 i x f hx hf
          refine ⟨cs, g1, hG.fr g2 rfl (by simp) fun q hq => off q (hG.ins g2 q hq) fun e => ?_, fun j c' hj => ?_⟩
          · subst e; exact hbne (by rw [hes2]; exact mem_flatten_of hf hq)
          · have hj' := (List.getElem?_eq_some_iff.1 hj).1
            rw [List.getElem?_append_left (by rw [hsl2]; exact mul_lt hi (by omega))]
            exact g3 j c' hj
        · rw [List.getElem?_append_right (by omega), hfl2] at hf
          obtain ⟨cs, g1, g2, g3⟩ := hel _ x f hx hf
          refine ⟨cs, g1, hG.fr g2 rfl (by simp) fun q hq => off q (hG.ins g2 q hq) fun e => ?_, fun j c' hj => ?_⟩
          · subst e; exact hbnq (by simp only [List.mem_cons]; exact .inr (mem_flatten_of hf hq))
          · have h1 : xs.length * sz ≤ i * sz := Nat.mul_le_mul_right _ hi
            rw [List.getElem?_append_right (by rw [hsl2]; omega), hsl2, show i * sz + j - xs.length * sz = (i - xs.length) * sz + j by rw [Nat.sub_mul]; omega]
            exact g3 j c' hj
      rw [hl] at this
      simpa [hes2] using this
    · have hnew : ((σ.put b []).push ⟨sz, pre ++ src⟩).blk σ.size = ⟨sz, pre ++ src⟩ := push_new (σ.put b []) _
      rw [hnew]
    · intro q hq
      simp at hq
      subst hq
      intro hm
      simp only [List.drop_succ_cons, List.drop_zero, List.mem_append] at hm
      rcases hm with hm | hm
      · have := h.sl.ins hG σ.size (by simp [hm])
        omega
      · have := k.ins hG σ.size (by simp only [List.mem_cons]; exact .inr hm)
        omega
theorem Acc.app (hG : Gd R) (hsz : 0 < sz) {bytes : Nat} {lo : Nat} {σ : Heap} {v t : Value} {xs ys : List α} {ob : Option Nat} {es fq : List Nat} (h : Acc R sz lo σ v xs ob es) (k : SlF R sz σ t ys fq) (hd : ∀ b ∈ ob, b ∉ fq)
    (hb : 0 < bytes) (hn : (xs.length + ys.length) * bytes ≤ 140737488355328) :
    ∃ v' σ' ob', vAppend sz bytes v t σ = some (v', σ') ∧ Acc R sz lo σ' v' (xs ++ ys) ob' (es ++ fq.drop 1) ∧ Chg ob σ σ' := by
  obtain ⟨v', σ', ob', e, hA, hc, _⟩ := h.app' hG hsz k hd hb hn
  exact ⟨v', σ', ob', e, hA, hc⟩
/-- A slice of one element, just made. -/
theorem SlF.one (hG : Gd R) (hsz : 0 < sz) {σ : Heap} {x : α} {cs : List Value} {f : List Nat} (hx : R σ x cs f) (hcs : cs.length = sz) : SlF R sz (σ.push ⟨sz, cs⟩) (.slice (some ⟨σ.size, 0, none⟩) 1 1) [x] (σ.size :: f) := by
  have := SlF.into (R := R) (sz := sz) (σ := σ.push ⟨sz, cs⟩) (b := σ.size) (c := 1) (xs := [x]) (fps := [f]) (by simp) (by omega) (by simp) (by simp) rfl fun i y g hy hg => by
    have hi : i = 0 := by have := (List.getElem?_eq_some_iff.1 hy).1; simp at this; exact this
    subst hi
    simp at hy hg
    subst hy hg
    exact ⟨cs, hcs, hG.fr hx rfl (by simp) fun q hq => push_old _ _ (hG.ins hx q hq), fun j c' hj => by simpa using hj⟩
  simpa using this
theorem Acc.one (hG : Gd R) (hsz : 0 < sz) {lo : Nat} {σ : Heap} (hE : σ.base ≤ lo ∧ lo ≤ σ.size) {x : α} {cs : List Value} {f : List Nat} (hx : R σ x cs f) (hcs : cs.length = sz) : Acc R sz lo (σ.push ⟨sz, cs⟩) (.slice (some ⟨σ.size, 0, none⟩) 1 1) [x] (some σ.size) f :=
  ⟨SlF.one hG hsz hx hcs, ⟨hE.1, by have := hE.2; simp; omega⟩, .inr ⟨by simp, σ.size, 1, rfl, rfl, by omega, hE.2, by simp, by simp⟩, fun b hb => by
    simp at hb
    subst hb
    intro hm
    have := hG.ins hx _ hm
    omega⟩
/-- One element is appended. -/
theorem Acc.app1' (hG : Gd R) (hsz : 0 < sz) {bytes : Nat} {lo : Nat} {σ : Heap} {v : Value} {xs : List α} {ob : Option Nat} {es : List Nat} (h : Acc R sz lo σ v xs ob es) {x : α} {cs : List Value} {f : List Nat} (hx : R σ x cs f) (hcs : cs.length = sz) (hd : ∀ b ∈ ob, b ∉ f)
    (hb : 0 < bytes) (hn : (xs.length + 1) * bytes ≤ 140737488355328) :
    ∃ v' σ' ob', vAppend sz bytes v (.slice (some ⟨σ.size, 0, none⟩) 1 1) (σ.push ⟨sz, cs⟩) = some (v', σ') ∧ Acc R sz lo σ' v' (xs ++ [x]) ob' (es ++ f) ∧ Chg ob σ σ' ∧ ob' = some (σ.size + 1) := by
  have h2 : Acc R sz lo (σ.push ⟨sz, cs⟩) v xs ob es := h.go hG (Ext.push _ _)
  have hob : ∀ b ∈ ob, b < σ.size := fun b hb => h.sl.ins hG b (by cases hb; simp)
  obtain ⟨v', σ', ob', e, hA, hc, hn'⟩ := h2.app' hG hsz (SlF.one hG hsz hx hcs) (fun b hb => by
    have h1 := hob b hb
    simp only [List.mem_cons, not_or]
    exact ⟨by omega, hd b hb⟩) hb (by simpa using hn)
  refine ⟨v', σ', ob', e, by simpa using hA, ⟨hc.base, by have := hc.size; simp at this; omega, fun i hi hne => ?_⟩, by simpa using hn' (by simp)⟩
  rw [hc.blk i (by simp; omega) hne, push_old _ _ hi]
theorem Acc.app1 (hG : Gd R) (hsz : 0 < sz) {bytes : Nat} {lo : Nat} {σ : Heap} {v : Value} {xs : List α} {ob : Option Nat} {es : List Nat} (h : Acc R sz lo σ v xs ob es) {x : α} {cs : List Value} {f : List Nat} (hx : R σ x cs f) (hcs : cs.length = sz) (hd : ∀ b ∈ ob, b ∉ f)
    (hb : 0 < bytes) (hn : (xs.length + 1) * bytes ≤ 140737488355328) :
    ∃ v' σ' ob', vAppend sz bytes v (.slice (some ⟨σ.size, 0, none⟩) 1 1) (σ.push ⟨sz, cs⟩) = some (v', σ') ∧ Acc R sz lo σ' v' (xs ++ [x]) ob' (es ++ f) ∧ Chg ob σ σ' := by
  obtain ⟨v', σ', ob', e, hA, hc, _⟩ := h.app1' hG hsz hx hcs hd hb hn
  exact ⟨v', σ', ob', e, hA, hc⟩
theorem flat_get {β : Type} {enc : α → List β} (hl : ∀ x, (enc x).length = sz) : ∀ (xs : List α) (i : Nat) (x : α) (j : Nat), xs[i]? = some x → j < sz → (xs.flatMap enc)[i * sz + j]? = (enc x)[j]?
  | [], i, x, j, h, _ => by simp at h
  | y :: xs, 0, x, j, h, hj => by
    simp at h
    subst h
    rw [List.flatMap_cons, Nat.zero_mul, Nat.zero_add, List.getElem?_append_left (by rw [hl]; exact hj)]
  | y :: xs, i + 1, x, j, h, hj => by
    simp at h
    rw [List.flatMap_cons, List.getElem?_append_right (by rw [hl, Nat.succ_mul]; omega), hl, show (i + 1) * sz + j - sz = i * sz + j by rw [Nat.succ_mul]; omega]
    exact flat_get hl xs i x j h hj
/-- A block that holds the elements' cells, elements without blocks of their own. -/
theorem SlF.flat {enc : α → List Value} (hl : ∀ x, (enc x).length = sz) {σ : Heap} (hR : ∀ x, R σ x (enc x) []) {b c : Nat} {xs : List α} (hx : 0 < xs.length) (hc : 0 < c) (hb : b < σ.size) (he : (σ.blk b).esz = sz) (h : (σ.blk b).cells = xs.flatMap enc) : SlF R sz σ (.slice (some ⟨b, 0, none⟩) xs.length c) xs [b] := by
  have := SlF.into (R := R) (sz := sz) (σ := σ) (b := b) (c := c) (xs := xs) (fps := List.replicate xs.length []) hx hc hb he (by simp) fun i x f hxi hf => by
    have hf : f = [] := List.eq_of_mem_replicate (List.mem_of_getElem? hf)
    subst hf
    refine ⟨enc x, hl x, hR x, fun j c' hj => ?_⟩
    have hj' := (List.getElem?_eq_some_iff.1 hj).1
    rw [h, flat_get hl xs i x j hxi (by rw [← hl x]; exact hj')]
    exact hj
  rwa [nil_flatten] at this
theorem map_flat {β : Type} (f : α → β) : ∀ xs : List α, xs.map f = xs.flatMap fun x => [f x]
  | [] => rfl
  | x :: xs => by rw [List.map_cons, List.flatMap_cons, map_flat f xs]; rfl
theorem IntsF.flat {σ : Heap} {b c : Nat} {xs : List Int} (hx : 0 < xs.length) (hc : 0 < c) (hb : b < σ.size) (he : (σ.blk b).esz = 1) (h : (σ.blk b).cells = xs.map fun x => .int .i64 x) : IntsF σ (.slice (some ⟨b, 0, none⟩) xs.length c) xs [b] :=
  SlF.flat (enc := fun x => [.int .i64 x]) (fun _ => rfl) (fun _ => ⟨rfl, rfl⟩) hx hc hb he (by rw [h, map_flat])
/-- A part of a slice. -/
theorem SlF.cut (hs : 0 < sz) {σ : Heap} {v : Value} {xs : List α} {fp : List Nat} (h : SlF R sz σ v xs fp) {lo hi : Nat} (h1 : lo ≤ hi) (h2 : hi ≤ xs.length) {vl vh : Option Value} (el : (vl = none ∧ lo = 0) ∨ vl = some (.int .i64 lo)) (eh : (vh = none ∧ hi = xs.length) ∨ vh = some (.int .i64 hi)) :
    ∃ v' fp', vSlice sz v vl vh none σ = some v' ∧ SlF R sz σ v' ((xs.drop lo).take (hi - lo)) fp' ∧ ∀ i ∈ fp', i ∈ fp := by
  obtain ⟨l, hl, hl0⟩ : ∃ l : Option Int, optInt vl = some l ∧ l.getD 0 = (lo : Int) := by
    rcases el with ⟨rfl, rfl⟩ | rfl
    · exact ⟨none, rfl, rfl⟩
    · exact ⟨some lo, rfl, rfl⟩
  obtain ⟨m, hm, hm0⟩ : ∃ m : Option Int, optInt vh = some m ∧ m.getD xs.length = (hi : Int) ∧ (m = none ∨ m = some (hi : Int)) := by
    rcases eh with ⟨rfl, rfl⟩ | rfl
    · exact ⟨none, rfl, rfl, .inl rfl⟩
    · exact ⟨some hi, rfl, rfl, .inr rfl⟩
  have e0 : ∀ x, vSlice sz x vl vh none σ = sliceA σ sz x l m none := fun x => by unfold vSlice; rw [hl, hm]; rfl
  rcases h.form with ⟨rfl, rfl, a, c, rfl, hn⟩ | ⟨hp, b, o, c, fps, rfl, hc, hb, he, rfl, hfl, hel⟩
  · have hh : hi = 0 := by simpa using h2
    subst hh
    have hl' : lo = 0 := by omega
    subst hl'
    cases a with
    | none =>
      have hc0 := hn rfl
      subst hc0
      refine ⟨.slice none 0 0, [], ?_, ⟨.inl ⟨by simp, rfl, none, 0, rfl, fun _ => rfl⟩⟩, fun _ h => h⟩
      rw [e0]
      have : m.getD 0 = 0 := by rcases hm0.2 with rfl | rfl <;> rfl
      simp [sliceA, hl0, this]
    | some a =>
      have : m.getD ((0 : Nat) : Int) = 0 := by rcases hm0.2 with rfl | rfl <;> rfl
      have hgo : sliceA σ sz (.slice (some a) 0 c) l m none = some (.slice (some ⟨a.block, a.off + 0, none⟩) 0 (capA c 0)) := by
        simp only [sliceA, hl0, this, Option.getD_none]
        rw [if_pos (by simp)]
        simp
      rw [e0]
      exact ⟨_, [], hgo, ⟨.inl ⟨by simp, rfl, _, _, rfl, fun e => by cases e⟩⟩, fun _ h => h⟩
  · have hgo : sliceA σ sz (.slice (some ⟨b, o, none⟩) xs.length c) l m none = some (.slice (some ⟨b, o + lo * sz, none⟩) (hi - lo) (capA c lo)) := by
      simp only [sliceA, hl0, hm0.1, Option.getD_none]
      rw [if_pos ⟨by simp, .inr he, by omega, by omega, by omega, by omega⟩]
      simp
    rw [e0]
    by_cases heq : lo = hi
    · subst heq
      rw [Nat.sub_self] at hgo
      exact ⟨_, [], hgo, ⟨.inl ⟨by simp, rfl, _, _, rfl, fun e => by cases e⟩⟩, fun _ h => by cases h⟩
    · have hlen : ((xs.drop lo).take (hi - lo)).length = hi - lo := by simp; omega
      refine ⟨_, b :: ((fps.drop lo).take (hi - lo)).flatten, hgo, ⟨.inr ⟨by omega, b, o + lo * sz, capA c lo, (fps.drop lo).take (hi - lo), by rw [hlen], by unfold capA; split <;> omega, hb, he, rfl, by simp; omega, fun i x f hx hf => ?_⟩⟩, fun i hi => ?_⟩
      · rw [List.getElem?_take] at hx hf
        split at hx
        · rename_i hi'
          rw [if_pos hi'] at hf
          rw [List.getElem?_drop] at hx hf
          obtain ⟨cs, g1, g2, g3⟩ := hel _ x f hx hf
          refine ⟨cs, g1, g2, fun j c' hj => ?_⟩
          have := g3 j c' hj
          rw [show o + lo * sz + i * sz + j = o + (lo + i) * sz + j by rw [Nat.add_mul]; omega]
          exact this
        · cases hx
      · simp only [List.mem_cons] at hi ⊢
        rcases hi with rfl | hi
        · exact .inl rfl
        · obtain ⟨f, hf, hif⟩ := List.mem_flatten.1 hi
          exact .inr (List.mem_flatten.2 ⟨f, List.mem_of_mem_drop (List.mem_of_mem_take hf), hif⟩)
/-- One element's cells are written. -/
theorem SlF.upd (hG : Gd R) (hs : 0 < sz) {σ : Heap} {v : Value} {xs : List α} {fp : List Nat} (h : SlF R sz σ v xs fp) {i : Nat} (hi : i < xs.length) (hnd : fp.Nodup) :
    ∃ b o c cs f, v = .slice (some ⟨b, o, none⟩) xs.length c ∧ 0 < c ∧ b < σ.size ∧ b ∈ fp ∧ cs.length = sz ∧ R σ xs[i] cs f ∧ readCells (σ.blk b).cells (o + i * sz) sz = some cs ∧ (∀ k ∈ f, k ∈ fp ∧ k ≠ b) ∧
      ∀ (C : List Value) (x' : α) (cs' : List Value) (f' : List Nat), (∀ k, k < o + i * sz ∨ o + i * sz + sz ≤ k → C[k]? = (σ.blk b).cells[k]?) → cs'.length = sz → (∀ j c', cs'[j]? = some c' → C[o + i * sz + j]? = some c') → R (σ.put b C) x' cs' f' →
        ∃ fp', SlF R sz (σ.put b C) v (xs.set i x') fp' ∧ (∀ k ∈ fp', k ∈ fp ∨ k ∈ f') ∧ (f' = f → fp' = fp) := by
  rcases h.form with ⟨rfl, _⟩ | ⟨hp, b, o, c, fps, e1, e2, e3, e4, rfl, e6, e7⟩
  · simp at hi
  have hfi : i < fps.length := by omega
  obtain ⟨cs, g1, g2, g3⟩ := e7 i _ _ (List.getElem?_eq_getElem hi) (List.getElem?_eq_getElem hfi)
  have hbn : b ∉ fps.flatten := (List.nodup_cons.1 hnd).1
  refine ⟨b, o, c, cs, fps[i], e1, e2, e3, by simp, g1, g2, readCells_of hs g1 g3, fun k hk => ?_, fun C x' cs' f' hC hl hc' hR => ?_⟩
  · have hk' : k ∈ fps.flatten := mem_flatten_of (List.getElem?_eq_getElem hfi) hk
    exact ⟨by simp only [List.mem_cons]; exact .inr hk', fun e => hbn (e ▸ hk')⟩
  · refine ⟨b :: (fps.set i f').flatten, ⟨.inr ⟨by simpa using hp, b, o, c, fps.set i f', by simpa using e1, e2, e3, fun hb => by simp; exact e4 (by simpa using hb), rfl, by simp [e6], fun j y g hy hg => ?_⟩⟩, fun k hk => ?_, fun e => ?_⟩
    · by_cases hji : i = j
      · subst hji
        simp [hi] at hy
        simp [hfi] at hg
        subst hy hg
        exact ⟨cs', hl, hR, fun j c' hj => by simpa using hc' j c' hj⟩
      · rw [List.getElem?_set_ne hji] at hy hg
        obtain ⟨ds, q1, q2, q3⟩ := e7 j y g hy hg
        refine ⟨ds, q1, hG.fr q2 rfl (Nat.le_refl _) fun k hk => put_off _ _ fun e => hbn (e ▸ mem_flatten_of hg hk), fun j' c' hj' => ?_⟩
        have hj'' := (List.getElem?_eq_some_iff.1 hj').1
        rw [put_at]
        show C[o + j * sz + j']? = some c'
        rw [hC _ (by
          rcases Nat.lt_or_gt_of_ne hji with hlt | hlt
          · right
            have : (i + 1) * sz ≤ j * sz := Nat.mul_le_mul_right _ hlt
            rw [Nat.succ_mul] at this
            omega
          · left
            have : (j + 1) * sz ≤ i * sz := Nat.mul_le_mul_right _ hlt
            rw [Nat.succ_mul] at this
            omega)]
        exact q3 j' c' hj'
    · simp only [List.mem_cons] at hk ⊢
      rcases hk with rfl | hk
      · exact .inl (.inl rfl)
      · obtain ⟨g, hg, hkg⟩ := List.mem_flatten.1 hk
        rcases List.mem_or_eq_of_mem_set hg with hg | rfl
        · exact .inl (.inr (List.mem_flatten.2 ⟨g, hg, hkg⟩))
        · exact .inr hkg
    · subst e
      rw [List.set_getElem_self]
/-- One number is written. -/
theorem IntsF.put {σ : Heap} {a : Option Addr} {n c : Nat} {L : List Int} {fp : List Nat} (h : IntsF σ (.slice a n c) L fp) (hnd : fp.Nodup) {i : Nat} (hi : i < L.length) (m : Int) :
    ∃ b o, a = some ⟨b, o, none⟩ ∧ n = L.length ∧ b ∈ fp ∧ b < σ.size ∧ o + i + 1 ≤ (σ.blk b).cells.length ∧ IntsF (σ.put b (setCells (σ.blk b).cells (o + i) [.int .i64 m])) (.slice a n c) (L.set i m) fp := by
  obtain ⟨b, o, c', cs, f, e, _, hb, hm, hl, ⟨rfl, rfl⟩, hrd, _, hup⟩ := h.upd RIF_gd (by omega) hi hnd
  injection e with e1 e2 e3
  subst e1 e2 e3
  obtain ⟨q1, q2, _⟩ := readCells_eq hrd
  rw [Nat.mul_one] at q2 hup
  refine ⟨b, o, rfl, rfl, hm, hb, by omega, ?_⟩
  obtain ⟨fp', k1, _, k3⟩ := hup (setCells (σ.blk b).cells (o + i) [.int .i64 m]) m [.int .i64 m] [] (fun k hk => by
    rw [setCells_get _ _ _ _ (by simp; omega), if_neg (by simp; omega)]) rfl (fun j c' hj => by
    rw [setCells_get _ _ _ _ (by simp; omega)]
    have hj' := (List.getElem?_eq_some_iff.1 hj).1
    simp at hj'
    subst hj'
    rw [if_pos (by simp)]
    simpa using hj) ⟨rfl, rfl⟩
  rw [← k3 rfl]
  exact k1
/-- Inside one element's blocks something is written; its cells stay. -/
theorem SlF.inner (hG : Gd R) (hs : 0 < sz) {σ : Heap} {v : Value} {xs : List α} {fp : List Nat} (h : SlF R sz σ v xs fp) {i : Nat} (hi : i < xs.length) (hnd : fp.Nodup) :
    ∃ b o c cs f, v = .slice (some ⟨b, o, none⟩) xs.length c ∧ 0 < c ∧ b < σ.size ∧ b ∈ fp ∧ cs.length = sz ∧ R σ xs[i] cs f ∧ readCells (σ.blk b).cells (o + i * sz) sz = some cs ∧ (∀ k ∈ f, k ∈ fp) ∧
      ∀ (σ' : Heap) (x' : α), σ'.base = σ.base → σ.size ≤ σ'.size → (∀ k, k < σ.size → k ∉ f → σ'.blk k = σ.blk k) → R σ' x' cs f → SlF R sz σ' v (xs.set i x') fp := by
  rcases h.form with ⟨rfl, _⟩ | ⟨hp, b, o, c, fps, e1, e2, e3, e4, rfl, e6, e7⟩
  · simp at hi
  have hfi : i < fps.length := by omega
  obtain ⟨cs, g1, g2, g3⟩ := e7 i _ _ (List.getElem?_eq_getElem hi) (List.getElem?_eq_getElem hfi)
  have hbn : b ∉ fps.flatten := (List.nodup_cons.1 hnd).1
  have hnf := (List.nodup_cons.1 hnd).2
  have hin : ∀ k ∈ fps[i], k ∈ fps.flatten := fun k hk => mem_flatten_of (List.getElem?_eq_getElem hfi) hk
  refine ⟨b, o, c, cs, fps[i], e1, e2, e3, by simp, g1, g2, readCells_of hs g1 g3, fun k hk => by simp only [List.mem_cons]; exact .inr (hin k hk), fun σ' x' hb hsz hoff hR => ?_⟩
  have hbb : σ'.blk b = σ.blk b := hoff b e3 fun hm => hbn (hin b hm)
  refine ⟨.inr ⟨by simpa using hp, b, o, c, fps, by simpa using e1, e2, by omega, fun hb' => by rw [hbb]; exact e4 (by omega), rfl, by simpa using e6, fun j y g hy hg => ?_⟩⟩
  rw [hbb]
  by_cases hji : i = j
  · subst hji
    simp [hi] at hy
    rw [List.getElem?_eq_getElem hfi] at hg
    injection hg with hg
    subst hy hg
    exact ⟨cs, g1, hR, g3⟩
  · rw [List.getElem?_set_ne hji] at hy
    obtain ⟨ds, q1, q2, q3⟩ := e7 j y g hy hg
    refine ⟨ds, q1, hG.fr q2 hb hsz fun k hk => hoff k (hG.ins q2 k hk) fun hm => ?_, q3⟩
    have hd := List.pairwise_flatten.1 hnf
    have hjl : j < fps.length := (List.getElem?_eq_some_iff.1 hg).1
    have hgj : fps[j] = g := (List.getElem?_eq_some_iff.1 hg).2
    have hp2 := List.pairwise_iff_getElem.1 hd.2
    rcases Nat.lt_or_gt_of_ne hji with hlt | hlt
    · exact hp2 i j hfi hjl hlt k hm k (by rw [hgj]; exact hk) rfl
    · exact hp2 j i hjl hfi hlt k (by rw [hgj]; exact hk) k hm rfl
end
/-- A square of truths, row by row. -/
def matB (N : Nat) (R : Nat → Nat → Bool) : List Value := (List.range (N * N)).map fun k => .bool (R (k / N) (k % N))
theorem matB_len (N : Nat) (R : Nat → Nat → Bool) : (matB N R).length = N * N := by simp [matB]
theorem mat_idx {N a b : Nat} (ha : a < N) (hb : b < N) : a * N + b < N * N ∧ (a * N + b) / N = a ∧ (a * N + b) % N = b := by
  refine ⟨mul_lt ha hb, ?_, ?_⟩
  · rw [Nat.mul_comm, Nat.mul_add_div (by omega), Nat.div_eq_of_lt hb]; rfl
  · rw [Nat.mul_comm, Nat.mul_add_mod, Nat.mod_eq_of_lt hb]
theorem matB_get {N a b : Nat} (R : Nat → Nat → Bool) (ha : a < N) (hb : b < N) : (matB N R)[a * N + b]? = some (.bool (R a b)) := by
  obtain ⟨h1, h2, h3⟩ := mat_idx ha hb
  unfold matB
  rw [List.getElem?_map, List.getElem?_range h1, Option.map_some, h2, h3]
theorem matB_set {N a b : Nat} (R : Nat → Nat → Bool) (ha : a < N) (hb : b < N) (v : Bool) : setCells (matB N R) (a * N + b) [.bool v] = matB N fun x y => if x = a ∧ y = b then v else R x y := by
  obtain ⟨h1, h2, h3⟩ := mat_idx ha hb
  apply List.ext_getElem?
  intro k
  rw [setCells_get _ _ _ _ (by rw [matB_len]; simp; omega)]
  unfold matB
  rw [List.getElem?_map, List.getElem?_map]
  by_cases hk : k < N * N
  · rw [List.getElem?_range hk, Option.map_some, Option.map_some]
    by_cases he : k = a * N + b
    · subst he
      rw [if_pos (by simp), h2, h3]
      simp
    · rw [if_neg (by simp; omega)]
      show some (Value.bool (R (k / N) (k % N))) = some (Value.bool (if k / N = a ∧ k % N = b then v else R (k / N) (k % N)))
      rw [if_neg]
      rintro ⟨e1, e2⟩
      apply he
      rw [← e1, ← e2, Nat.mul_comm]
      exact (Nat.div_add_mod k N).symm
  · rw [if_neg (by simp; omega)]
    rw [List.getElem?_eq_none (l := List.range (N * N)) (by simp; omega)]; rfl
end Go.AH
