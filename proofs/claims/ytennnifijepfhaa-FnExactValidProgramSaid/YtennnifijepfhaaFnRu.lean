/- Rules and programs: what the tests of the reference and of the program compute. -/
import Derived.Test.YtennnifijepfhaaCoRv
import Derived.Test.YtennnifijepfhaaDtRu
import Derived.Test.YtennnifijepfhaaExF
import Derived.Test.YtennnifijepfhaaAhZ
namespace Go.Proofs.Ytennnifijepfhaa
open Go Go.AH
set_option linter.unusedSimpArgs false
set_option linter.unusedVariables false
set_option maxRecDepth 100000
variable {w0 : World}
theorem cell_of' {l : List Value} {o n j : Nat} {cs : List Value} {v : Value} (h : readCells l o n = some cs) (hj : cs[j]? = some v) : l[o + j]? = some v := by
  obtain ⟨h1, h2, h3⟩ := readCells_eq h
  have : j < cs.length := (List.getElem?_eq_some_iff.1 hj).1
  rw [← h3 j (by omega)]; exact hj
theorem Ats.at_ {σ : Heap} {a : Option Addr} {c n : Nat} {L : List At} {fp : List Nat} (h : Ats σ (.slice a n c) L fp) {i : Nat} (hi : i < L.length) : ∃ b o, a = some ⟨b, o, none⟩ ∧ 0 < c ∧ b < σ.size ∧ readCells (σ.blk b).cells (o + i * 4) 4 = some L[i].cs ∧
    (σ.blk b).cells[o + i * 4]? = some (.int .i64 L[i].p) ∧ (σ.blk b).cells[o + i * 4 + 1]? = some (.int .i64 L[i].x) ∧ (σ.blk b).cells[o + i * 4 + 2]? = some (.int .i64 L[i].y) ∧ (σ.blk b).cells[o + i * 4 + 3]? = some (.bool L[i].n) := by
  obtain ⟨b, o, c', cs, f, e, hc, hb, _, hcs, ⟨rfl, _⟩, hrd, _⟩ := SlF.at_ h (by omega) hi
  injection e with e1 e2 e3
  subst e1 e2 e3
  exact ⟨b, o, rfl, hc, hb, hrd, cell_of' (j := 0) hrd rfl, cell_of' (j := 1) hrd rfl, cell_of' (j := 2) hrd rfl, cell_of' (j := 3) hrd rfl⟩
theorem Rus.at_ {σ : Heap} {a : Option Addr} {c n : Nat} {L : List Ru} {fp : List Nat} (h : Rus σ (.slice a n c) L fp) {i : Nat} (hi : i < L.length) : ∃ b o v f, a = some ⟨b, o, none⟩ ∧ 0 < c ∧ b < σ.size ∧ Ats σ v L[i].b f ∧ readCells (σ.blk b).cells (o + i * 5) 5 = some (L[i].h.cs ++ [v]) ∧
    (σ.blk b).cells[o + i * 5]? = some (.int .i64 L[i].h.p) ∧ (σ.blk b).cells[o + i * 5 + 4]? = some v := by
  obtain ⟨b, o, c', cs, f, e, hc, hb, _, hcs, ⟨v, rfl, hv⟩, hrd, _⟩ := SlF.at_ h (by omega) hi
  injection e with e1 e2 e3
  subst e1 e2 e3
  exact ⟨b, o, v, f, rfl, hc, hb, hv, hrd, cell_of' (j := 0) hrd rfl, cell_of' (j := 4) hrd rfl⟩
def okAt (a : At) : Bool := inR a.p 0 3 && inR a.x 0 3 && inR a.y 0 3
theorem sAtom_ok (x : At) (σ : Heap) : ACalls Try.prog w0 101 [.agg x.cs.toArray] σ fun v σ' => v = .bool (okAt x) ∧ Ext σ σ' := by
  refine go101 fun K hK => ?_
  have hE : Ext σ (σ.push ⟨4, x.cs⟩) := Ext.push _ _
  simp [H101]
  refine ret_go (inRange_ok _ _ _ _) ?_
  cases h1 : inR x.p 0 3
  · simp; exact hK _ _ ⟨by simp [okAt, h1], hE⟩
  simp
  refine ret_go (inRange_ok _ _ _ _) ?_
  cases h2 : inR x.x 0 3
  · simp; exact hK _ _ ⟨by simp [okAt, h1, h2], hE⟩
  simp
  refine ret_go (inRange_ok _ _ _ _) ?_
  cases h3 : inR x.y 0 3
  · simp; exact hK _ _ ⟨by simp [okAt, h1, h2, h3], hE⟩
  simp; exact hK _ _ ⟨by simp [okAt, h1, h2, h3], hE⟩
theorem iAtom_ok (x : At) (σ : Heap) : ACalls Try.prog w0 100 [.agg x.cs.toArray] σ fun v σ' => v = .bool (okAt x) ∧ Ext σ σ' := by
  refine go100 fun K hK => ?_
  have hE : Ext σ (σ.push ⟨4, x.cs⟩) := Ext.push _ _
  by_cases h1 : 0 ≤ x.p
  case neg => simp [H100, h1]; exact hK _ _ ⟨by simp [okAt, inR, h1], hE⟩
  by_cases h2 : x.p ≤ 3
  case neg => simp [H100, h1, h2]; exact hK _ _ ⟨by simp [okAt, inR, h2], hE⟩
  by_cases h3 : 0 ≤ x.x
  case neg => simp [H100, h1, h2, h3]; exact hK _ _ ⟨by simp [okAt, inR, h3], hE⟩
  by_cases h4 : x.x ≤ 3
  case neg => simp [H100, h1, h2, h3, h4]; exact hK _ _ ⟨by simp [okAt, inR, h4], hE⟩
  by_cases h5 : 0 ≤ x.y
  case neg => simp [H100, h1, h2, h3, h4, h5]; exact hK _ _ ⟨by simp [okAt, inR, h5], hE⟩
  by_cases h6 : x.y ≤ 3
  case neg => simp [H100, h1, h2, h3, h4, h5, h6]; exact hK _ _ ⟨by simp [okAt, inR, h6], hE⟩
  simp [H100, h1, h2, h3, h4, h5, h6]; exact hK _ _ ⟨by simp [okAt, inR, h1, h2, h3, h4, h5, h6], hE⟩
/-- The atom binds the variable. -/
def bnA (v : Int) (a : At) : Bool := !a.n && (decide (a.x = v) || decide (a.y = v))
theorem any_snoc {α : Type} {p : α → Bool} {L : List α} {i : Nat} (hi : i < L.length) (h : (L.take i).any p = false) (hp : p L[i] = false) : (L.take (i + 1)).any p = false := by
  rw [List.take_succ_eq_append_getElem hi, List.any_append, h]; simp [hp]
theorem any_yes {α : Type} {p : α → Bool} {L : List α} {i : Nat} (hi : i < L.length) (hp : p L[i] = true) : L.any p = true := by
  rw [List.any_eq_true]; exact ⟨L[i], List.getElem_mem _, hp⟩
theorem any_end {α : Type} {p : α → Bool} {L : List α} {i : Nat} (hi : L.length ≤ i) (h : (L.take i).any p = false) : L.any p = false := by
  rwa [List.take_of_length_le hi] at h
theorem bound_ok {σ : Heap} {x : At} {bv : Value} {B : List At} {fp : List Nat} (h : Ats σ bv B fp) (hB : B.length ≤ 9223372036854775807) (v : Int) : ACalls Try.prog w0 102 [.agg (x.cs ++ [bv]).toArray, .int .i64 v] σ fun r σ' => r = .bool (B.any (bnA v)) ∧ Ext σ σ' := by
  refine go102 fun K hK => ?_
  obtain ⟨a, c, rfl⟩ := h.len
  obtain ⟨σ2, e2, hE, hl2, hb2, _, _⟩ := boxed σ ⟨5, x.cs ++ [.slice a B.length c]⟩
  simp [H102]
  simp only [List.cons_append, List.nil_append] at e2 hl2
  rw [← e2]
  refine loop_for0 B.length (fun i σ' => σ' = σ2 ∧ (B.take i).any (bnA v) = false) ⟨rfl, by simp⟩ ?_ ?_
  · rintro J i σ' hlt ⟨rfl, hall⟩ hJ
    obtain ⟨b, o, rfl, hc, hb, hrd, h0, h1, h2, h3⟩ := Ats.at_ (h.ext RAt_gd hE) hlt
    have hw := wrap_suc hlt hB
    simp [H102_l0, hlt, hl2]
    cases hn : B[i].n
    · by_cases hx : B[i].x = v
      · simp [h3, hlt, hl2, hn, h1, hx]
        exact hK _ _ ⟨by rw [any_yes hlt (by simp [bnA, hn, hx])], hE⟩
      by_cases hy : B[i].y = v
      · simp [h3, hlt, hl2, hn, h1, h2, hx, hy]
        exact hK _ _ ⟨by rw [any_yes hlt (by simp [bnA, hn, hy])], hE⟩
      · simp [h3, hlt, hl2, hn, h1, h2, hx, hy, hw]
        exact hJ _ ⟨rfl, any_snoc hlt hall (by simp [bnA, hn, hx, hy])⟩
    · simp [h3, hn, hw]
      exact hJ _ ⟨rfl, any_snoc hlt hall (by simp [bnA, hn])⟩
  · rintro J σ' ⟨rfl, hall⟩
    simp [H102_l0, hl2]
    exact hK _ _ ⟨by rw [any_end (Nat.le_refl _) hall], hE⟩
def okBo (x : Ru) (a : At) : Bool := okAt a && x.b.any (bnA a.x) && x.b.any (bnA a.y)
def okRu (x : Ru) : Bool := okAt x.h && !x.h.n && decide (2 ≤ x.h.p) && x.b.any (bnA x.h.x) && x.b.any (bnA x.h.y) && inR x.b.length 1 3 && x.b.all (okBo x)
theorem sRule_ok {σ : Heap} {x : Ru} {bv : Value} {fp : List Nat} (h : Ats σ bv x.b fp) (hB : x.b.length ≤ 9223372036854775807) : ACalls Try.prog w0 90 [.agg (x.h.cs ++ [bv]).toArray] σ fun r σ' => r = .bool (okRu x) ∧ Ext σ σ' := by
  refine go90 fun K hK => ?_
  obtain ⟨a, c, rfl⟩ := h.len
  obtain ⟨σ2, e2, hE2, hl2, hb2, hs2, _⟩ := boxed σ ⟨5, x.h.cs ++ [.slice a x.b.length c]⟩
  have k2 := boxed_has hl2 hs2
  simp only [List.cons_append, List.nil_append] at e2
  simp [H90, ← e2, readCells, k2.1]
  refine ret_ext (sAtom_ok _ _) fun σ3 hE3 => ?_
  have k3 := k2.ext hE3
  have hE := hE2.trans hE3
  cases h1 : okAt x.h
  · simp; exact hK _ _ ⟨by simp [okRu, h1], hE⟩
  cases h2 : x.h.n
  case true => simp [k3.1, h2]; exact hK _ _ ⟨by simp [okRu, h2], hE⟩
  by_cases h3 : x.h.p < 2
  · simp [k3.1, h2, h3]; exact hK _ _ ⟨by simp [okRu, show ¬ 2 ≤ x.h.p by omega], hE⟩
  simp [k3.1, h2, h3, readCells, -List.any_eq_true]
  refine ret_ext (bound_ok (x := ⟨x.h.p, x.h.x, x.h.y, false⟩) (h.ext RAt_gd hE) hB _) fun σ4 hE4 => ?_
  have k4 := k3.ext hE4
  have hE := hE.trans hE4
  cases h4 : x.b.any (bnA x.h.x)
  · simp; exact hK _ _ ⟨by simp only [okRu, h4]; simp, hE⟩
  simp [k4.1, readCells]
  refine ret_ext (bound_ok (x := x.h) (h.ext RAt_gd hE) hB _) fun σ5 hE5 => ?_
  have k5 := k4.ext hE5
  have hE := hE.trans hE5
  cases h5 : x.b.any (bnA x.h.y)
  · simp; exact hK _ _ ⟨by simp only [okRu, h5]; simp, hE⟩
  simp [k5.1]
  refine ret_go (inRange_ok _ _ _ _) ?_
  cases h6 : inR x.b.length 1 3
  · simp; exact hK _ _ ⟨by simp only [okRu, h6]; simp, hE⟩
  simp
  have hhd : (okAt x.h && !x.h.n && decide (2 ≤ x.h.p) && x.b.any (bnA x.h.x) && x.b.any (bnA x.h.y) && inR x.b.length 1 3) = true := by
    simp only [h1, h2, h4, h5, h6, show 2 ≤ x.h.p by omega, decide_true]; rfl
  refine loop_for0 x.b.length (fun i σ' => Ext σ σ' ∧ Has σ' σ.size ⟨5, x.h.cs ++ [.slice a x.b.length c]⟩ ∧ (x.b.take i).all (okBo x) = true) ⟨hE, k5, by simp⟩ ?_ ?_
  · rintro J i σ' hlt ⟨hE, k, hall⟩ hJ
    obtain ⟨b, o, rfl, hc, hb, hrd, c0, c1, c2, c3⟩ := Ats.at_ (h.ext RAt_gd hE) hlt
    have hw := wrap_suc hlt hB
    simp [H90_l0, hlt, k.1, hrd]
    refine ret_ext (sAtom_ok x.b[i] _) fun σ3 hE3 => ?_
    have k3 := k.ext hE3
    have hE' := hE.trans hE3
    have c1 := (congrArg (·.cells[o + i * 4 + 1]?) (hE3.blk b hb)).trans c1
    have hb3 := Nat.lt_of_lt_of_le hb hE3.size
    cases g1 : okAt x.b[i]
    · simp; exact hK _ _ ⟨by rw [okRu, all_no hlt (by simp [okBo, g1])]; simp, hE'⟩
    simp [k3.1, hlt, c1, readCells]
    refine ret_ext (bound_ok (x := x.h) (h.ext RAt_gd hE') hB _) fun σ4 hE4 => ?_
    have k4 := k3.ext hE4
    have c2 := (congrArg (·.cells[o + i * 4 + 2]?) ((hE3.trans hE4).blk b hb)).trans c2
    have hE' := hE'.trans hE4
    cases g2 : x.b.any (bnA x.b[i].x)
    · simp; exact hK _ _ ⟨by rw [okRu, all_no hlt (by simp only [okBo, g2]; simp)]; simp, hE'⟩
    simp [k4.1, hlt, c2, readCells]
    refine ret_ext (bound_ok (x := x.h) (h.ext RAt_gd hE') hB _) fun σ5 hE5 => ?_
    have k5 := k4.ext hE5
    have hE' := hE'.trans hE5
    cases g3 : x.b.any (bnA x.b[i].y)
    · simp; exact hK _ _ ⟨by rw [okRu, all_no hlt (by simp only [okBo, g3]; simp)]; simp, hE'⟩
    simp [hw]
    exact hJ _ ⟨hE', k5, all_snoc hlt hall (by simp only [okBo, g1, g2, g3]; rfl)⟩
  · rintro J σ' ⟨hE, k, hall⟩
    simp [H90_l0, k.1]
    exact hK _ _ ⟨by rw [okRu, all_end (Nat.le_refl _) hall, hhd]; rfl, hE⟩
def arr4 (f : Int → Bool) : List Value := [.bool (f 0), .bool (f 1), .bool (f 2), .bool (f 3)]
theorem four {x : Int} (h0 : 0 ≤ x) (h3 : x ≤ 3) : x = 0 ∨ x = 1 ∨ x = 2 ∨ x = 3 := by omega
theorem arr4_set (f : Int → Bool) {x : Int} (h0 : 0 ≤ x) (h3 : x ≤ 3) : setCells (arr4 f) x.toNat [.bool true] = arr4 (fun v => f v || decide (x = v)) := by
  rcases four h0 h3 with rfl | rfl | rfl | rfl <;> simp [arr4, setCells]
theorem arr4_get (f : Int → Bool) {x : Int} (h0 : 0 ≤ x) (h3 : x ≤ 3) : (arr4 f)[x.toNat]? = some (.bool (f x)) := by
  rcases four h0 h3 with rfl | rfl | rfl | rfl <;> rfl
theorem arr4_len (f : Int → Bool) : (arr4 f).length = 4 := rfl
theorem okAt_rg {a : At} (h : okAt a = true) : (0 ≤ a.x ∧ a.x ≤ 3) ∧ 0 ≤ a.y ∧ a.y ≤ 3 := by
  simp [okAt, inR] at h; omega
theorem any_take1 {α : Type} (p : α → Bool) {L : List α} {i : Nat} (hi : i < L.length) : (L.take (i + 1)).any p = ((L.take i).any p || p L[i]) := by
  rw [List.take_succ_eq_append_getElem hi, List.any_append]; simp
theorem iRule_ok {σ : Heap} {x : Ru} {bv : Value} {fp : List Nat} (h : Ats σ bv x.b fp) (hB : x.b.length ≤ 9223372036854775807) : ACalls Try.prog w0 89 [.agg (x.h.cs ++ [bv]).toArray] σ fun r σ' => r = .bool (okRu x) ∧ Ext σ σ' := by
  refine go89 fun K hK => ?_
  obtain ⟨a, c, rfl⟩ := h.len
  obtain ⟨σ2, e2, hE2, hl2, hb2, hs2, _⟩ := boxed σ ⟨5, x.h.cs ++ [.slice a x.b.length c]⟩
  have k2 := boxed_has hl2 hs2
  simp only [List.cons_append, List.nil_append] at e2
  simp [H89, ← e2, readCells, k2.1]
  refine ret_ext (iAtom_ok _ _) fun σ3 hE3 => ?_
  have k3 := k2.ext hE3
  have hE := hE2.trans hE3
  cases h1 : okAt x.h
  · simp; exact hK _ _ ⟨by simp [okRu, h1], hE⟩
  cases h2 : x.h.n
  case true => simp [k3.1, h2]; exact hK _ _ ⟨by simp [okRu, h2], hE⟩
  by_cases h3 : x.h.p < 2
  · simp [k3.1, h2, h3]; exact hK _ _ ⟨by simp [okRu, show ¬ 2 ≤ x.h.p by omega], hE⟩
  by_cases h4 : (x.b.length : Int) < 1
  · simp [k3.1, h2, h3, h4]; exact hK _ _ ⟨by simp only [okRu, show inR x.b.length 1 3 = false by simp [inR]; omega]; simp, hE⟩
  by_cases h5 : 3 < (x.b.length : Int)
  · simp [k3.1, h2, h3, h4, h5]; exact hK _ _ ⟨by simp only [okRu, show inR x.b.length 1 3 = false by simp [inR]; omega]; simp, hE⟩
  have h6 : inR x.b.length 1 3 = true := by simp [inR]; omega
  have hbs3 := σ3.hle
  obtain ⟨σ4, e4, hE4, hl4, hb4, hs4, _⟩ := boxed σ3 ⟨4, arr4 fun _ => false⟩
  have e4' := e4
  simp only [arr4] at e4'
  have kr := k3.ext hE4
  have ka := boxed_has hl4 hs4
  have hEσ := hE.trans hE4
  simp [k3.1, h2, h3, h4, h5, fillA, setCells, hbs3, push_old _ _ k3.2]
  rw [← e4']
  have hlt3 : σ.size < σ3.size := k3.2
  refine loop_for0 x.b.length (fun i σ' => Ext σ σ' ∧ Has σ' σ.size ⟨5, x.h.cs ++ [.slice a x.b.length c]⟩ ∧ Has σ' σ3.size ⟨4, arr4 fun v => (x.b.take i).any (bnA v)⟩ ∧ (x.b.take i).all okAt = true) ⟨hEσ, kr, by simpa using ka, by simp⟩ ?_ ?_
  · rintro J i σ' hlt ⟨hE, kr, ka, hall⟩ hJ
    obtain ⟨b, o, rfl, hc, hb, hrd, c0, c1, c2, c3⟩ := Ats.at_ (h.ext RAt_gd hE) hlt
    have hw := wrap_suc hlt hB
    have hbs := σ'.hle
    have hne : (0 : Int) < x.b.length := by omega
    obtain ⟨σa, ea, hEa, hla, hba, hsa, _⟩ := boxed σ' ⟨4, x.b[i].cs⟩
    have kx := boxed_has hla hsa
    simp [H89_l1, hlt, hrd, hbs, setCells, ← ea, kx.1]
    refine ret_ext (iAtom_ok x.b[i] _) fun σb hEb => ?_
    have hE1 := hEa.trans hEb
    have kas : σ3.size < σ'.size := ka.2
    have kr := kr.ext hE1
    have ka := ka.ext hE1
    have kx := kx.ext hEb
    have hEσ := hE.trans hE1
    cases g1 : okAt x.b[i]
    · simp; exact hK _ _ ⟨by
        have : x.b.all (okBo x) = false := all_no hlt (by simp [okBo, g1])
        rw [okRu, this]; simp, hEσ⟩
    cases g2 : x.b[i].n
    case true =>
      simp [kx.1, g2, hw]
      refine hJ _ ⟨hEσ, kr, ?_, all_snoc hlt hall g1⟩
      have : (fun v => (x.b.take (i + 1)).any (bnA v)) = fun v => (x.b.take i).any (bnA v) := funext fun v => by rw [any_take1 _ hlt]; simp [bnA, g2]
      rw [this]; exact ka
    obtain ⟨⟨r0, r1⟩, r2, r3⟩ := okAt_rg g1
    have hbb := σb.hle
    have hbB : σb.base ≤ σ3.size := by rw [hEσ.base]; have := σ.hle; omega
    have hxs : σ'.size ≠ σ3.size := by omega
    have hxs' : ¬ σ3.size = σ'.size := fun e => hxs e.symm
    have q0 : x.b[i].x.toNat + 1 ≤ 4 := by omega
    have q1 : x.b[i].y.toNat + 1 ≤ 4 := by omega
    simp [kx.1, g2, r0, r1, r2, r3, show x.b[i].x < 4 by omega, show x.b[i].y < 4 by omega, ka.1, hbB, arr4_len, q0, arr4_set, put_blk, hxs, q1, hw, partA]
    refine hJ _ ⟨Ext.put (id := σ3.size) (Ext.put (id := σ3.size) hEσ (by omega) _) (by omega) _, ⟨?_, kr.2⟩, ⟨?_, ka.2⟩, all_snoc hlt hall g1⟩
    · rw [put_off _ _ (by omega), put_off _ _ (by omega)]; exact kr.1
    · simp only [put_blk, if_true]
      rw [ka.1]
      congr 1
      congr 1
      funext v
      rw [any_take1 _ hlt]
      simp [bnA, g2, Bool.or_assoc]
  · rintro J σ' ⟨hE, kr, ka, hall⟩
    rw [List.take_of_length_le (Nat.le_refl _)] at ka hall
    have hne : ¬ (x.b.length : Int) < x.b.length := by omega
    simp [H89_l1, kr.1, readCells, fillA, setCells, zeroRow]
    have hA := Acc.one (R := RAt) (sz := 4) RAt_gd (by omega) hE (x := x.h) (cs := x.h.cs) (f := []) ⟨rfl, rfl⟩ rfl
    have kr2 := kr.ext (Ext.push σ' ⟨4, x.h.cs⟩)
    have hk : Ats (σ'.push ⟨4, x.h.cs⟩) (.slice a x.b.length c) x.b fp := h.ext RAt_gd (hE.pushed _)
    obtain ⟨v', σ5, ob', e5, hA5, hs5, hb5, hoff5⟩ := hA.app (bytes := 32) RAt_gd (by omega) hk (fun b hb => by
      simp at hb
      subst hb
      intro hm
      have := h.ins RAt_gd _ hm
      have := hE.size
      omega) (by omega) (by simp; omega)
    obtain ⟨a', c', rfl⟩ := hA5.len
    have hl2' : (([x.h] ++ x.b).length : Int) = x.b.length + 1 := by simp
    simp [kr2.1, e5]
    have ka5 : Has σ5 σ3.size ⟨4, arr4 fun v => x.b.any (bnA v)⟩ := by
      have h1 : σ3.size < σ'.size := ka.2
      have h2 : σ'.size + 1 ≤ σ5.size := hs5
      refine ⟨?_, by omega⟩
      rw [hoff5 _ (by simp; omega) (fun b hb => by simp at hb; omega), push_old _ _ h1]
      exact ka.1
    have hE5 := hA5.ext
    have hgood : ∀ y ∈ [x.h] ++ x.b, okAt y = true := fun y hy => by
      simp at hy
      rcases hy with rfl | hy
      · exact h1
      · exact List.all_eq_true.1 hall y hy
    refine loop_for0 ([x.h] ++ x.b).length (fun i σ'' => Ext σ5 σ'' ∧ (([x.h] ++ x.b).take i).all (fun y => x.b.any (bnA y.x) && x.b.any (bnA y.y)) = true) ⟨Ext.refl _, by simp⟩ ?_ ?_
    · rintro J i σ6 hlt ⟨hE6, hall2⟩ hJ
      obtain ⟨b, o, rfl, hc, hb, hrd, c0, c1, c2, c3⟩ := Ats.at_ (hA5.sl.ext RAt_gd hE6) hlt
      have hw := wrap_suc hlt (by simp; omega)
      have hbs := σ6.hle
      have ka6 := ka5.ext hE6
      have hok := hgood _ (List.getElem_mem hlt)
      generalize hy : ([x.h] ++ x.b)[i] = y at *
      obtain ⟨⟨r0, r1⟩, r2, r3⟩ := okAt_rg hok
      obtain ⟨σa, ea, hEa, hla, hba, hsa, _⟩ := boxed σ6 ⟨4, y.cs⟩
      have ka7 := ka6.ext hEa
      have hi2 : (i : Int) < x.b.length + 1 := by simp at hlt; omega
      have hK2 : (x.b.any (bnA y.x) && x.b.any (bnA y.y)) = false → K (.bool false) σa := fun hf => hK _ _ ⟨by
        have hno : ([x.h] ++ x.b).all (fun y => x.b.any (bnA y.x) && x.b.any (bnA y.y)) = false := all_no hlt (by rw [hy]; exact hf)
        have : okRu x = false := by
          cases hr : okRu x
          · rfl
          · exfalso
            simp only [okRu, Bool.and_eq_true] at hr
            have : ([x.h] ++ x.b).all (fun y => x.b.any (bnA y.x) && x.b.any (bnA y.y)) = true := by
              rw [List.all_append, Bool.and_eq_true]
              refine ⟨by simp only [List.all_cons, List.all_nil, hr.1.1.1.2, hr.1.1.2]; rfl, List.all_eq_true.2 fun z hz => ?_⟩
              have := List.all_eq_true.1 hr.2 z hz
              simp only [okBo, Bool.and_eq_true] at this
              rw [this.1.2, this.2]; rfl
            rw [hno] at this
            cases this
        rw [this], hE5.trans (hE6.trans hEa)⟩
      cases g1 : x.b.any (bnA y.x)
      · simp [H89_l0, hi2, hrd, hbs, setCells, ← ea, hla, r0, show y.x < 4 by omega, ka7.1, arr4_get, r1, g1]
        exact hK2 (by simp [g1])
      cases g2 : x.b.any (bnA y.y)
      · simp [H89_l0, hi2, hrd, hbs, setCells, ← ea, hla, r0, show y.x < 4 by omega, ka7.1, arr4_get, r1, g1, r2, show y.y < 4 by omega, r3, g2]
        exact hK2 (by simp [g2])
      simp [H89_l0, hi2, hrd, hbs, setCells, ← ea, hla, r0, show y.x < 4 by omega, ka7.1, arr4_get, r1, g1, r2, show y.y < 4 by omega, r3, g2, hw]
      exact hJ _ ⟨hE6.trans hEa, all_snoc hlt hall2 (by rw [hy, g1, g2]; rfl)⟩
    · rintro J σ6 ⟨hE6, hall2⟩
      have hne2 : ¬ ((x.b.length : Int) + 1 < x.b.length + 1) := by omega
      simp [H89_l0]
      refine hK _ _ ⟨?_, hE5.trans hE6⟩
      rw [List.take_of_length_le (Nat.le_refl _)] at hall2
      rw [List.all_append, Bool.and_eq_true] at hall2
      obtain ⟨q1, q2⟩ := hall2
      simp only [List.all_cons, List.all_nil, Bool.and_true, Bool.and_eq_true] at q1
      have q3 : x.b.all (okBo x) = true := List.all_eq_true.2 fun z hz => by
        have g1 := List.all_eq_true.1 hall z hz
        have g2 := List.all_eq_true.1 q2 z hz
        simp only [Bool.and_eq_true] at g2
        simp only [okBo, g1, g2.1, g2.2]; rfl
      simp only [okRu, h1, h2, h6, q1.1, q1.2, q3, show 2 ≤ x.h.p by omega, decide_true]
      rfl
end Go.Proofs.Ytennnifijepfhaa
