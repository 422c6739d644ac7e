/- The reference's test of graphs, and the law. -/
import Derived.Test.YtennnifijepfhaaFnGs
namespace Go.Proofs.Ytennnifijepfhaa
open Go Go.AH
set_option linter.unusedSimpArgs false
set_option linter.unusedVariables false
set_option maxRecDepth 100000
variable {w0 : World}
theorem sValidGraph_ok {σ : Heap} {s : Value} {L : List Chan} {fp : List Nat} (h : Chans σ s L fp) (hL : L.length ≤ 9223372036854775807) {n : Int} (hn : I64 n) : ACalls Try.prog w0 61 [.int .i64 n, s] σ fun v σ' => v = .bool (okGr n L) ∧ Ext σ σ' := by
  refine go61 fun K hK => ?_
  obtain ⟨a, c, rfl⟩ := h.len
  have hno : okGr n L = false → ∀ σ', Ext σ σ' → K (.bool false) σ' := fun hf σ' hE => hK _ _ ⟨by rw [hf], hE⟩
  simp [H61]
  refine ret_go (inRange_ok _ _ _ _) ?_
  cases h1 : inR n 1 6
  · simp
    exact hno (by rw [okGr, h1]; rfl) _ (Ext.refl _)
  by_cases h3 : 12 < (L.length : Int)
  · simp [h3]
    exact hno (by rw [okGr, decide_eq_false (show ¬ L.length ≤ 12 by omega)]; simp) _ (Ext.refl _)
  have hr : 1 ≤ n ∧ n ≤ 6 := by simpa [inR] using h1
  have hw1 : IntKind.i64.wrap (n - 1) = n - 1 := w64 (by omega) (by omega)
  simp [-Int.not_lt, -Int.not_le, h3]
  refine loop_for0 L.length (fun i σ' => Ext σ σ' ∧ (L.take i).all (okCh n) = true) ⟨Ext.refl _, by simp⟩ ?_ ?_
  · rintro J i σ' hlt ⟨hE, hall⟩ hJ
    obtain ⟨b, o, rfl, hc, hb, hrd⟩ := Chans.at_ (h.ext RCh_gd hE) hlt
    have hw := wrap_suc hlt hL
    have hbs := σ'.hle
    obtain ⟨σ2, e2, hE2, hl2, _, _, _⟩ := boxed σ' ⟨3, [.int .i64 L[i].fr, .int .i64 L[i].to, .int .i64 L[i].st]⟩
    have hE' := hE.trans hE2
    have hno' : okCh n L[i] = false → K (.bool false) σ2 := fun hf => hno (by rw [okGr, all_no hlt hf]; simp) _ hE'
    simp [H61_l0, hlt, hrd, hbs, setCells, ← e2, hl2, hw1]
    refine ret_go (inRange_ok _ _ _ _) ?_
    cases g1 : inR L[i].fr 0 (n - 1)
    · simp; exact hno' (by rw [okCh, g1]; rfl)
    simp [hl2, hw1]
    refine ret_go (inRange_ok _ _ _ _) ?_
    cases g2 : inR L[i].to 0 (n - 1)
    · simp; exact hno' (by rw [okCh, g2, Bool.and_false]; rfl)
    simp [hl2, hw1]
    refine ret_go (inRange_ok _ _ _ _) ?_
    cases g3 : inR L[i].st 0 3
    · simp; exact hno' (by rw [okCh, g3, Bool.and_false])
    simp [hw]
    exact hJ _ ⟨hE', all_snoc hlt hall (by rw [okCh, g1, g2, g3]; rfl)⟩
  rintro J σ1 ⟨hE1, hall⟩
  have hall := all_end (Nat.le_refl _) hall
  obtain ⟨n, rfl⟩ : ∃ k : Nat, n = k := ⟨n.toNat, by omega⟩
  have hch := chOk_of hall
  have hokg : okGr n L = sOkG n L := by rw [okG_eq (by omega) hch, okGr, hall, h1, decide_eq_true (show L.length ≤ 12 by omega)]; rfl
  simp [H61_l0]
  refine (minSteps_ok (h.ext RCh_gd hE1) hL (by omega) (by omega) hch).mono ?_
  rintro v σ2 ⟨hE2, w, rfl, _⟩
  simp
  exact hK _ _ ⟨by rw [hokg], hE1.trans hE2⟩
theorem ValidGraph_ok {σ : Heap} {s : Value} {L : List Chan} {fp : List Nat} (h : Chans σ s L fp) (hL : L.length ≤ 9223372036854775807) {n : Int} (hn : I64 n) : ACalls Try.prog w0 21 [.int .i64 n, s] σ fun v σ' => v = .bool (okGr n L) ∧ Ext σ σ' := by
  refine go21 fun K hK => ?_
  simp [H21]
  refine ret_ext (sValidGraph_ok h hL hn) fun σ1 hE => ?_
  simp
  exact hK _ _ ⟨rfl, hE⟩
theorem lawGraph_ok {σ : Heap} {s : Value} {L : List Chan} {fp : List Nat} {n : Int} (hn : I64 n) (h : Chans σ s L fp) (hL : L.length ≤ 9223372036854775807) : ACalls Try.prog w0 5 [.int .i64 n, s] σ fun v σ' => v = .bool true := by
  refine go5 fun K hK => ?_
  simp [H5]
  refine ret_go (szChannelS_ok h hL) ?_
  by_cases hs : sub 1048576 L.length < 0
  · simp [hs]
    exact hK _ _ rfl
  have hl : L.length ≤ 1048576 := by unfold sub at hs; split at hs <;> omega
  simp [hs]
  refine (toChannelS_ok h (by omega)).mono ?_
  rintro v2 σ2 ⟨hE2, f2, h2, _⟩
  simp
  refine ret_ext (ValidGraph_ok h2 hL hn) fun σ3 hE3 => ?_
  simp
  refine (toChannelS_ok (h.ext RCh_gd (hE2.trans hE3)) (by omega)).mono ?_
  rintro v4 σ4 ⟨hE4, f4, h4, _⟩
  simp
  refine ret_ext (iValidGraph_ok h4 hL n) fun σ5 hE5 => ?_
  simp
  refine (toChannelS_ok (h.ext RCh_gd (((hE2.trans hE3).trans hE4).trans hE5)) (by omega)).mono ?_
  rintro v6 σ6 ⟨hE6, f6, h6, _⟩
  simp
  refine ret_ext (eqChannelS_ok (h4.ext RCh_gd (hE5.trans hE6)) h6 hL) fun σ7 hE7 => ?_
  simp
  exact hK _ _ rfl
end Go.Proofs.Ytennnifijepfhaa
