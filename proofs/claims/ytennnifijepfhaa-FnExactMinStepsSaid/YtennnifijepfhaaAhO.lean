/- Slices with the blocks that they are made of: reading, framing, fresh ones, and appending. -/
import Derived.Test.YtennnifijepfhaaAhT
namespace Go.AH
open Go Go.RowKit
set_option linter.unusedVariables false
set_option linter.unusedSimpArgs false

theorem setCells_get : ∀ (vs l : List Value) (o j : Nat), o + vs.length ≤ l.length → (setCells l o vs)[j]? = if o ≤ j ∧ j < o + vs.length then vs[j - o]? else l[j]?
  | [], l, o, j, h => by simp [setCells]; intro h1 h2; omega
  | v :: vs, l, o, j, h => by
    rw [setCells, setCells_get vs _ (o + 1) j (by simp at h ⊢; omega)]
    simp only [List.length_cons] at h ⊢
    by_cases h1 : o + 1 ≤ j ∧ j < o + 1 + vs.length
    · rw [if_pos h1, if_pos (by omega), show j - o = (j - (o + 1)) + 1 by omega, List.getElem?_cons_succ]
    · rw [if_neg h1]
      by_cases h2 : j = o
      · subst h2
        rw [if_pos (by omega)]
        simp [List.getElem?_set, show j < l.length by omega]
      · rw [if_neg (by omega), List.getElem?_set, if_neg (by omega)]
theorem push_blk (σ : Heap) (b : Blk) (i : Nat) : (σ.push b).blk i = if i = σ.size then b else σ.blk i := rfl
theorem put_blk (σ : Heap) (i j : Nat) (cs : List Value) : (σ.put i cs).blk j = if j = i then ⟨(σ.blk i).esz, cs⟩ else σ.blk j := rfl
/-- Cells read out of a row. -/
theorem readCells_of {l : List Value} {o n : Nat} {cs : List Value} (hn : 0 < n) (hc : cs.length = n) (h : ∀ j c', cs[j]? = some c' → l[o + j]? = some c') : readCells l o n = some cs := by
  have e := h (n - 1) (cs[n - 1]'(by omega)) (List.getElem?_eq_getElem _)
  have hl : o + n ≤ l.length := by
    have := (List.getElem?_eq_some_iff.1 e).1
    omega
  unfold readCells
  rw [if_pos hl]
  congr 1
  apply List.ext_getElem?
  intro j
  rw [List.getElem?_take]
  by_cases hj : j < n
  · rw [if_pos hj, List.getElem?_drop, h j (cs[j]'(by omega)) (List.getElem?_eq_getElem _), List.getElem?_eq_getElem (show j < cs.length by omega)]
  · rw [if_neg hj, List.getElem?_eq_none (by omega)]

/-- What an element's relation must bear: it holds as long as its own blocks stay, these lie in the heap, and its cells may be stored. -/
structure Gd {α : Type} (R : Heap → α → List Value → List Nat → Prop) : Prop where
  fr : ∀ {σ σ' : Heap} {x : α} {cs : List Value} {f : List Nat}, R σ x cs f → σ'.base = σ.base → σ.size ≤ σ'.size → (∀ i ∈ f, σ'.blk i = σ.blk i) → R σ' x cs f
  ins : ∀ {σ : Heap} {x : α} {cs : List Value} {f : List Nat}, R σ x cs f → ∀ i ∈ f, i < σ.size
  ok : ∀ {σ : Heap} {x : α} {cs : List Value} {f : List Nat}, R σ x cs f → cs.all one = true
structure SlF {α : Type} (R : Heap → α → List Value → List Nat → Prop) (sz : Nat) (σ : Heap) (v : Value) (xs : List α) (fp : List Nat) : Prop where
  form : (xs = [] ∧ fp = [] ∧ ∃ a c, v = .slice a 0 c ∧ (a = none → c = 0)) ∨
    (0 < xs.length ∧ ∃ (b o c : Nat) (fps : List (List Nat)), v = .slice (some ⟨b, o, none⟩) xs.length c ∧ 0 < c ∧ b < σ.size ∧ (σ.base ≤ b → (σ.blk b).esz = sz) ∧ fp = b :: fps.flatten ∧ fps.length = xs.length ∧
      ∀ i x f, xs[i]? = some x → fps[i]? = some f → ∃ cs, cs.length = sz ∧ R σ x cs f ∧ ∀ j c', cs[j]? = some c' → (σ.blk b).cells[o + i * sz + j]? = some c')
variable {α : Type} {R : Heap → α → List Value → List Nat → Prop} {sz : Nat}
theorem mem_flatten_of {fps : List (List Nat)} {i : Nat} {f : List Nat} (h : fps[i]? = some f) {k : Nat} (hk : k ∈ f) : k ∈ fps.flatten := List.mem_flatten.2 ⟨f, List.mem_of_getElem? h, hk⟩
theorem SlF.frame (hG : Gd R) {σ σ' : Heap} {v : Value} {xs : List α} {fp : List Nat} (h : SlF R sz σ v xs fp) (hb : σ'.base = σ.base) (hs : σ.size ≤ σ'.size) (hf : ∀ i ∈ fp, σ'.blk i = σ.blk i) : SlF R sz σ' v xs fp := by
  refine ⟨h.form.imp id ?_⟩
  rintro ⟨hp, b, o, c, fps, e1, e2, e3, e4, rfl, e6, e7⟩
  have hbb : σ'.blk b = σ.blk b := hf b (by simp)
  refine ⟨hp, b, o, c, fps, e1, e2, by omega, fun k => by rw [hbb]; exact e4 (by omega), rfl, e6, fun i x f hx hfi => ?_⟩
  obtain ⟨cs, g1, g2, g3⟩ := e7 i x f hx hfi
  exact ⟨cs, g1, hG.fr g2 hb hs fun k hk => hf k (by simp only [List.mem_cons]; exact .inr (mem_flatten_of hfi hk)), fun j c' hj => by rw [hbb]; exact g3 j c' hj⟩
theorem SlF.ins (hG : Gd R) {σ : Heap} {v : Value} {xs : List α} {fp : List Nat} (h : SlF R sz σ v xs fp) : ∀ i ∈ fp, i < σ.size := by
  rcases h.form with ⟨_, rfl, _⟩ | ⟨hp, b, o, c, fps, e1, e2, e3, e4, rfl, e6, e7⟩
  · intro i hi; cases hi
  · intro i hi
    simp only [List.mem_cons] at hi
    rcases hi with rfl | hi
    · exact e3
    · obtain ⟨f, hf, hif⟩ := List.mem_flatten.1 hi
      obtain ⟨k, hk⟩ := List.getElem?_of_mem hf
      have hkl : k < xs.length := by have := (List.getElem?_eq_some_iff.1 hk).1; omega
      obtain ⟨cs, _, g2, _⟩ := e7 k xs[k] f (List.getElem?_eq_getElem hkl) hk
      exact hG.ins g2 i hif
theorem SlF.ext (hG : Gd R) {σ σ' : Heap} {v : Value} {xs : List α} {fp : List Nat} (h : SlF R sz σ v xs fp) (he : Ext σ σ') : SlF R sz σ' v xs fp :=
  h.frame hG he.base he.size fun i hi => he.blk i (h.ins hG i hi)
theorem SlF.nil (R : Heap → α → List Value → List Nat → Prop) (sz : Nat) (σ : Heap) : SlF R sz σ (.slice none 0 0) [] [] := ⟨.inl ⟨rfl, rfl, none, 0, rfl, fun _ => rfl⟩⟩
theorem SlF.len {σ : Heap} {v : Value} {xs : List α} {fp : List Nat} (hs : SlF R sz σ v xs fp) : ∃ a c, v = .slice a xs.length c := by
  rcases hs.form with ⟨rfl, _, a, c, rfl, _⟩ | ⟨_, b, o, c, _, rfl, _⟩
  · exact ⟨a, c, rfl⟩
  · exact ⟨_, c, rfl⟩
/-- Where it has an element. -/
theorem SlF.at_ {σ : Heap} {v : Value} {xs : List α} {fp : List Nat} (hs : SlF R sz σ v xs fp) (hsz : 0 < sz) {i : Nat} (hi : i < xs.length) :
    ∃ b o c cs f, v = .slice (some ⟨b, o, none⟩) xs.length c ∧ 0 < c ∧ b < σ.size ∧ (σ.base ≤ b → (σ.blk b).esz = sz) ∧ cs.length = sz ∧ R σ xs[i] cs f ∧ readCells (σ.blk b).cells (o + i * sz) sz = some cs ∧ b ∈ fp ∧ ∀ k ∈ f, k ∈ fp := by
  rcases hs.form with ⟨rfl, _⟩ | ⟨_, b, o, c, fps, e1, e2, e3, e4, rfl, e6, e7⟩
  · simp at hi
  · have hfl : i < fps.length := by omega
    obtain ⟨cs, g1, g2, g3⟩ := e7 i _ _ (List.getElem?_eq_getElem hi) (List.getElem?_eq_getElem hfl)
    exact ⟨b, o, c, cs, fps[i], e1, e2, e3, e4, g1, g2, readCells_of hsz g1 g3, by simp, fun k hk => by simp only [List.mem_cons]; exact .inr (mem_flatten_of (List.getElem?_eq_getElem hfl) hk)⟩
/-- The blocks are new since σ, and each is there once. -/
def Fresh (σ : Heap) (fp : List Nat) : Prop := fp.Nodup ∧ ∀ b ∈ fp, σ.size ≤ b
theorem Fresh.nil (σ : Heap) : Fresh σ [] := ⟨List.nodup_nil, fun _ h => by cases h⟩
theorem Fresh.old {σ σ' : Heap} {fp : List Nat} (h : Fresh σ' fp) (he : σ.size ≤ σ'.size) : Fresh σ fp := ⟨h.1, fun b hb => Nat.le_trans he (h.2 b hb)⟩
theorem Fresh.append {σ σ' : Heap} {fp fq : List Nat} (h : Fresh σ fp) (k : Fresh σ' fq) (hs : σ.size ≤ σ'.size) (hin : ∀ i ∈ fp, i < σ'.size) : Fresh σ (fp ++ fq) := by
  refine ⟨List.nodup_append.2 ⟨h.1, k.1, fun a ha b hb e => ?_⟩, fun b hb => ?_⟩
  · subst e
    have := hin a ha
    have := k.2 a hb
    omega
  · rcases List.mem_append.1 hb with hb | hb
    · exact h.2 b hb
    · exact Nat.le_trans hs (k.2 b hb)
/-- Whole numbers. -/
def RIF (_ : Heap) (x : Int) (cs : List Value) (f : List Nat) : Prop := cs = [.int .i64 x] ∧ f = []
theorem RIF_gd : Gd RIF := ⟨fun h _ _ _ => h, fun h i hi => absurd hi (by rw [h.2]; simp), fun h => by rw [h.1]; rfl⟩
abbrev IntsF (σ : Heap) (v : Value) (xs : List Int) (fp : List Nat) : Prop := SlF RIF 1 σ v xs fp
theorem SlF.ints {σ : Heap} {v : Value} {xs : List Int} {fp : List Nat} (h : IntsF σ v xs fp) : Ints σ v xs := by
  refine ⟨h.form.imp (fun ⟨h1, _, h2⟩ => ⟨h1, h2⟩) ?_⟩
  rintro ⟨hp, b, o, c, fps, e1, e2, e3, e4, rfl, e6, e7⟩
  refine ⟨hp, b, o, c, e1, e2, e3, e4, fun i x hx => ?_⟩
  have hi : i < fps.length := by have := (List.getElem?_eq_some_iff.1 hx).1; omega
  obtain ⟨cs, g1, g2, g3⟩ := e7 i x _ hx (List.getElem?_eq_getElem hi)
  exact ⟨cs, g1, g2.1, g3⟩
theorem nil_flatten {n : Nat} : (List.replicate n ([] : List Nat)).flatten = [] := by
  induction n with
  | zero => rfl
  | succ n ih => simp [List.replicate_succ, ih]
/-- A slice of whole numbers in its one block. -/
theorem IntsF.of {σ : Heap} {v : Value} {xs : List Int} (h : Ints σ v xs) : ∃ fp, IntsF σ v xs fp ∧ (fp = [] ∨ ∃ b o c, v = .slice (some ⟨b, o, none⟩) xs.length c ∧ fp = [b]) := by
  rcases h.form with ⟨h1, h2⟩ | ⟨hp, b, o, c, e1, e2, e3, e4, e5⟩
  · exact ⟨[], ⟨.inl ⟨h1, rfl, h2⟩⟩, .inl rfl⟩
  · refine ⟨[b], ⟨.inr ⟨hp, b, o, c, List.replicate xs.length [], e1, e2, e3, e4, by rw [nil_flatten], by simp, fun i x f hx hf => ?_⟩⟩, .inr ⟨b, o, c, e1, rfl⟩⟩
    obtain ⟨cs, g1, g2, g3⟩ := e5 i x hx
    refine ⟨cs, g1, ⟨g2, ?_⟩, g3⟩
    exact List.eq_of_mem_replicate (List.mem_of_getElem? hf)
theorem fresh_ints {σ σ' : Heap} {v : Value} {L : List Int} {c : Nat} (h : Ints σ' v L) (e : v = .slice (some ⟨σ.size, 0, none⟩) L.length c) : ∃ fp, IntsF σ' v L fp ∧ Fresh σ fp := by
  obtain ⟨fp, h1, h2⟩ := IntsF.of h
  refine ⟨fp, h1, ?_⟩
  rcases h2 with rfl | ⟨b, o, c', e', rfl⟩
  · exact Fresh.nil _
  · rw [e] at e'
    injection e' with e1
    simp only [Option.some.injEq, Addr.mk.injEq] at e1
    obtain ⟨rfl, _⟩ := e1
    exact ⟨by simp, by simp⟩
/-- A cell that bears a slice. -/
def RSF (R : Heap → α → List Value → List Nat → Prop) (sz : Nat) (σ : Heap) (xs : List α) (cs : List Value) (f : List Nat) : Prop := ∃ v, cs = [v] ∧ SlF R sz σ v xs f
theorem RSF_gd (hG : Gd R) (sz : Nat) : Gd (RSF R sz) :=
  ⟨fun ⟨v, e, h⟩ hb hs hf => ⟨v, e, h.frame hG hb hs hf⟩, fun ⟨v, e, h⟩ => h.ins hG, fun ⟨v, e, h⟩ => by
    obtain ⟨a, c, rfl⟩ := h.len
    rw [e]; rfl⟩
end Go.AH
