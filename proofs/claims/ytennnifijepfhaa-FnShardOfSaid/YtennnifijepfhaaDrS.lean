/- The draw for ShardOf, and the law: rows with the same key have the same worker. -/
import Derived.Test.YtennnifijepfhaaCoSh
import Derived.Test.YtennnifijepfhaaDrA
import Derived.Test.YtennnifijepfhaaExF
namespace Go.Proofs.Ytennnifijepfhaa
open Go Go.AH
set_option linter.unusedSimpArgs false
set_option linter.unusedVariables false
set_option maxRecDepth 100000
variable {w0 : World}
theorem Rdr.all {σ : Heap} {B : Nat} {fb : List Nat} {q : Nat} (h : Rdr σ B fb q) : ∀ i ∈ B :: fb, i < σ.size := by
  obtain ⟨a, c, p, L, h1, h2, h3, h4, h5, h6, h7⟩ := h.h
  intro i hi
  rcases List.mem_cons.1 hi with rfl | hi
  · exact h1.2
  · exact h3.ins RUF_gd i hi
theorem randomRow_ok {σ : Heap} {B : Nat} {fb : List Nat} {q : Nat} (h : Rdr σ B fb q) (n : Nat) (hn : n ≤ 1000) (hq : q + n ≤ 1000000000) : ACalls Try.prog w0 83 [.pointer (some ⟨B, 0, none⟩), .int .i64 n] σ fun v σ' =>
    Rdr σ' B fb (q + n) ∧ Stp B σ σ' ∧ ∃ L fp, IntsF σ' v L fp ∧ Fresh σ fp ∧ L.length = n ∧ ∀ x ∈ L, 0 ≤ x ∧ x ≤ 3 := by
  refine go83 fun K hK => ?_
  simp [H83, fillA, zeroRow]
  have hB := h.lt
  refine loop_for (β := Value) (b := .slice (some ⟨σ.size, 0, none⟩) 0 0) n (fun i v => (v, Value.int .i64 i)) (fun i v σ' => Grow RIF 1 B σ (fun L => L.length = i ∧ ∀ x ∈ L, 0 ≤ x ∧ x ≤ 3) v σ' ∧ Rdr σ' B fb (q + i)) ⟨Grow.nil (Stp.of (Ext.push _ _)) _ (by simp), h.ext (Ext.push _ _)⟩ ?_ ?_
  · rintro J i v σ' hi ⟨hG, hR⟩ hJ
    have hw := wrap_suc hi (by omega)
    simp [H83_l0, hi]
    refine (pick_ok hR (by omega) 4 (by omega)).mono ?_
    rintro _ σ2 ⟨m, rfl, m0, m1, _, hR2, hS2⟩
    have hG2 := hG.go RIF_gd hB hS2
    obtain ⟨v', σ3, e, hG3, hb3, hs3, hl3, _⟩ := hG2.add (q := fun L => L.length = i + 1 ∧ ∀ x ∈ L, 0 ≤ x ∧ x ≤ 3) (bytes := 8) (cs := [.int .i64 m]) (f := []) RIF_gd (by omega) (by omega) ⟨rfl, rfl⟩ rfl (fun _ _ _ _ => by simp) (fun L ⟨h1, h2⟩ => ⟨by omega, by simp [h1], fun x hx => by
      rcases List.mem_append.1 hx with hx | hx
      · exact h2 x hx
      · simp at hx; subst hx; have := m1 (by omega); omega⟩)
    simp [fillA, zeroRow, setCells, e, hw]
    exact hJ _ _ ⟨hG3, by rw [← Nat.add_assoc]; exact hR2.frame hb3 hs3 fun i hi => hl3 i (h.all i hi)⟩
  · rintro J v σ' ⟨hG, hR⟩
    simp [H83_l0]
    obtain ⟨L, fp, h1, h2, h3⟩ := hG.val
    exact hK _ _ ⟨hR, hG.stp, L, fp, h1, h2, h3⟩
def SmRow (L : List Int) : Prop := L.length ≤ 7 ∧ ∀ x ∈ L, -10000 ≤ x ∧ x ≤ 10000
theorem anyRow_ok {σ : Heap} {B : Nat} {fb : List Nat} {q : Nat} (h : Rdr σ B fb q) (hq : q + 20 ≤ 1000000000) : ACalls Try.prog w0 58 [.pointer (some ⟨B, 0, none⟩)] σ fun v σ' =>
    Rdr σ' B fb (q + 20) ∧ Stp B σ σ' ∧ ∃ L fp, IntsF σ' v L fp ∧ Fresh σ fp ∧ SmRow L := by
  refine go58 fun K hK => ?_
  have hB := h.lt
  simp [H58]
  refine (pick_ok h (by omega) 4 (by omega)).mono ?_
  rintro _ σ1 ⟨m, rfl, m0, m1, _, hR1, hS1⟩
  have m4 := m1 (by omega)
  obtain ⟨k, rfl⟩ : ∃ k : Nat, m = k := ⟨m.toNat, by omega⟩
  have hw : IntKind.i64.wrap (1 + (k : Int)) = ((k + 1 : Nat) : Int) := by rw [w64 (by omega) (by omega)]; omega
  simp [hw]
  have : ((k : Int) + 1) = ((k + 1 : Nat) : Int) := rfl
  rw [this]
  refine (randomRow_ok hR1 (k + 1) (by omega) (by omega)).mono ?_
  rintro v σ2 ⟨hR2, hS2, L, fp, hL, hF, hl, hx⟩
  simp
  refine (pick_ok hR2 (by omega) 10 (by omega)).mono ?_
  rintro _ σ3 ⟨m, rfl, m0, m1, _, hR3, hS3⟩
  have hBfp : B ∉ fp := fun hm => by have := hF.2 B hm; have := hS1.size; omega
  have hL3 := hL.stp RIF_gd hS3 hBfp
  have hS := (hS1.trans hS2).trans hS3
  have hsm : SmRow L := ⟨by omega, fun x hx' => by have := hx x hx'; omega⟩
  have hF0 : Fresh σ fp := hF.old hS1.size
  by_cases c0 : m = 0
  · simp [c0, fillA, zeroRow]
    exact hK _ _ ⟨(hR3.ext (Ext.push _ _)).mono (by omega), hS.trans (Stp.of (Ext.push _ _)), [], [], ⟨.inl ⟨rfl, rfl, _, 0, rfl, fun _ => rfl⟩⟩, Fresh.nil _, by simp [SmRow]⟩
  by_cases c1 : m = 1
  · simp [c1]
    refine (randomRow_ok hR3 7 (by omega) (by omega)).mono ?_
    rintro v2 σ4 ⟨hR4, hS4, L2, fp2, hL2, hF2, hl2, hx2⟩
    simp
    exact hK _ _ ⟨hR4.mono (by omega), hS.trans hS4, L2, fp2, hL2, hF2.old hS.size, by omega, fun x hx' => by have := hx2 x hx'; omega⟩
  by_cases c2 : m = 2
  case neg =>
    simp [c0, c1, c2]
    exact hK _ _ ⟨hR3.mono (by omega), hS, L, fp, hL3, hF0, hsm⟩
  obtain ⟨a, c, rfl⟩ := hL3.len
  simp [c2]
  refine (pick_ok hR3 (by omega) L.length (by omega)).mono ?_
  rintro _ σ4 ⟨j, rfl, j0, j1, _, hR4, hS4⟩
  have jl := j1 (by omega)
  obtain ⟨j, rfl⟩ : ∃ k : Nat, j = k := ⟨j.toNat, by omega⟩
  have hL4 := hL3.stp RIF_gd hS4 hBfp
  have hR4' := hR4.ext (Ext.push σ4 ⟨1, [10000, -10000, -9999, 9999].map fun x => .int .i64 x⟩)
  have hli : IntsF (σ4.push ⟨1, [10000, -10000, -9999, 9999].map fun x => .int .i64 x⟩) (.slice (some ⟨σ4.size, 0, none⟩) 4 4) [10000, -10000, -9999, 9999] [σ4.size] := litInts rfl (by simp)
  simp at hli hR4'
  simp [fillA, zeroRow, setCells]
  refine (one_ok hR4' (by omega) hli (by simp; have := hR4.lt; omega) (by simp) (by simp)).mono ?_
  rintro _ σ5 ⟨m, rfl, hm, hR5, hS5⟩
  have hBlt4 := hR4.lt
  have hS45 := (Stp.of (B := B) (Ext.push σ4 ⟨1, [.int .i64 10000, .int .i64 (-10000), .int .i64 (-9999), .int .i64 9999]⟩)).trans hS5
  have hL5 := hL4.stp RIF_gd hS45 hBfp
  obtain ⟨b, o, rfl, _, hbm, hb, hlen, hput⟩ := IntsF.put hL5 hF.1 (i := j) (by omega) m
  have hbase : σ5.base ≤ b := by
    have h1 := hF.2 b hbm
    have h2 := (hS.trans hS4).base
    have h3 := hS45.base
    have := σ.hle
    have := hS1.size
    omega
  have hjl : j < L.length := by omega
  have hsz : σ1.size ≤ b := hF.2 b hbm
  have hfr : ∀ i, i < σ.size → i ≠ b := fun i hi => by have := hS1.size; omega
  simp [hjl, hbase, hlen]
  refine hK _ _ ⟨?_, ?_, L.set j m, fp, hput, hF0, by simp; omega, fun x hx' => ?_⟩
  · refine (hR5.frame (σ' := σ5.put b _) rfl (Nat.le_refl _) fun i hi => ?_).mono (by omega)
    exact put_off _ _ (hfr i (h.all i hi))
  · have hS' := (hS.trans hS4).trans hS45
    exact ⟨hS'.base, hS'.size, fun i hi hn => by rw [put_off _ _ (hfr i hi)]; exact hS'.blk i hi hn⟩
  · rcases List.mem_or_eq_of_mem_set hx' with hx' | rfl
    · have := hx x hx'; omega
    · simp at hm; omega
theorem workersOf_ok {σ : Heap} {B : Nat} {fb : List Nat} {q : Nat} (h : Rdr σ B fb q) (hq : q + 1 ≤ 1000000000) : ACalls Try.prog w0 60 [.pointer (some ⟨B, 0, none⟩)] σ fun v σ' =>
    ∃ m : Int, v = .int .i64 m ∧ 0 ≤ m ∧ m ≤ 9 ∧ Rdr σ' B fb (q + 1) ∧ Stp B σ σ' := by
  refine go60 fun K hK => ?_
  have hR := h.ext (Ext.push σ ⟨1, [1, 2, 3, 4, 8, 0, 9].map fun x => .int .i64 x⟩)
  have hli : IntsF (σ.push ⟨1, [1, 2, 3, 4, 8, 0, 9].map fun x => .int .i64 x⟩) (.slice (some ⟨σ.size, 0, none⟩) 7 7) [1, 2, 3, 4, 8, 0, 9] [σ.size] := litInts rfl (by simp)
  simp at hR hli
  simp [H60, fillA, zeroRow, setCells]
  refine (one_ok hR (by omega) hli (by simp; have := h.lt; omega) (by simp) (by simp)).mono ?_
  rintro _ σ2 ⟨m, rfl, hm, hR2, hS2⟩
  simp at hm
  simp
  exact hK _ _ ⟨m, rfl, by omega, by omega, hR2, (Stp.of (Ext.push _ _)).trans hS2⟩
theorem drawShardOf_ok {σ : Heap} {s : Value} {L : List Int} {fp : List Nat} (h : SlF RUF 1 σ s L fp) (hby : ∀ x ∈ L, 0 ≤ x ∧ x ≤ 255) : ACalls Try.prog w0 19 [s] σ fun v σ' =>
    Ext σ σ' ∧ ∃ (w : Value) (k m : Int) (M : List Int) (f : List Nat), v = .tuple #[w, .int .i64 k, .int .i64 m] ∧ IntsF σ' w M f ∧ SmRow M := by
  refine go19 fun K hK => ?_
  simp [H19]
  refine (newReader_ok h hby).mono ?_
  rintro _ σ1 ⟨fb, rfl, hR1, hE1⟩
  simp
  refine (anyRow_ok hR1 (by omega)).mono ?_
  rintro w σ2 ⟨hR2, hS2, M, f, hM, hF, hsm⟩
  obtain ⟨a, c, rfl⟩ := hM.len
  have hml := hsm.1
  have hw1 : IntKind.i64.wrap ((M.length : Int) + 2) = M.length + 2 := w64 (by omega) (by omega)
  simp [hw1]
  refine (pick_ok hR2 (by omega) (M.length + 2) (by omega)).mono ?_
  rintro _ σ3 ⟨k1, rfl, k0, k2, _, hR3, hS3⟩
  simp
  refine (pick_ok hR3 (by omega) 2 (by omega)).mono ?_
  rintro _ σ4 ⟨k3, rfl, k4, k5, _, hR4, hS4⟩
  simp
  refine (workersOf_ok hR4 (by omega)).mono ?_
  rintro _ σ5 ⟨m, rfl, m0, m1, hR5, hS5⟩
  simp
  have hB : σ.size ∉ f := fun hm => by have := hF.2 _ hm; have := hR1.lt; omega
  refine hK _ _ ⟨((hS2.trans hS3).trans (hS4.trans hS5)).ext hE1 (Nat.le_refl _), _, _, _, M, f, rfl, ((hM.stp RIF_gd hS3 hB).stp RIF_gd hS4 hB).stp RIF_gd hS5 hB, hsm⟩
theorem okRow_set {M : List Int} {i : Nat} (h : okRow M = true) : okRow (M.set i 7) = true := by
  simp only [okRow, Bool.and_eq_true, List.length_set] at h ⊢
  refine ⟨List.all_eq_true.2 fun x hx => ?_, h.2⟩
  rcases List.mem_or_eq_of_mem_set hx with hx | rfl
  · exact List.all_eq_true.1 h.1 x hx
  · decide
theorem shardVal_valid {L : List Int} {k m : Int} (h : 0 ≤ shardVal L k m) : okRow L = true ∧ 0 ≤ k ∧ k ≤ L.length ∧ 1 ≤ m ∧ m ≤ 8 ∧ shardVal L k m = Int.tmod (hsh (L.take k.toNat)) m := by
  unfold shardVal at h ⊢
  split at h
  · rename_i hc
    obtain ⟨h1, h2, h3⟩ := hc
    rw [if_pos ⟨h1, h2, h3⟩]
    simp [inR] at h2 h3
    exact ⟨h1, h2.1, h2.2, h3.1, h3.2, rfl⟩
  · omega
theorem shardVal_eq {L : List Int} {k m : Int} (h1 : okRow L = true) (h2 : 0 ≤ k) (h3 : k ≤ L.length) (h4 : 1 ≤ m) (h5 : m ≤ 8) : shardVal L k m = Int.tmod (hsh (L.take k.toNat)) m := by
  unfold shardVal
  rw [if_pos ⟨h1, by simp [inR, h2, h3], by simp [inR, h4, h5]⟩]
theorem IntsF.fp1 {σ : Heap} {v : Value} {L : List Int} {fp : List Nat} (h : IntsF σ v L fp) : fp.drop 1 = [] := by
  rcases h.form with ⟨_, rfl, _⟩ | ⟨_, b, o, c, fps, _, _, _, _, rfl, hl, he⟩
  · rfl
  · show fps.flatten = []
    rw [List.flatten_eq_nil_iff]
    intro f hf
    obtain ⟨i, hi⟩ := List.getElem?_of_mem hf
    have hil : i < L.length := by have := (List.getElem?_eq_some_iff.1 hi).1; omega
    obtain ⟨cs, _, ⟨_, hfe⟩, _⟩ := he i _ f (List.getElem?_eq_getElem hil) hi
    exact hfe
theorem lawShard {σ : Heap} {s : Value} {L : List Int} {fp : List Nat} (h : SlF RUF 1 σ s L fp) (hby : ∀ x ∈ L, 0 ≤ x ∧ x ≤ 255) : ACalls Try.prog w0 4 [s] σ fun v σ' => v = .bool true := by
  refine go4 fun K hK => ?_
  obtain ⟨a, c, rfl⟩ := h.len
  by_cases hl : 1048576 < (L.length : Int)
  · simp [H4, hl]
    exact hK _ _ rfl
  simp [H4, hl]
  refine (drawShardOf_ok h hby).mono ?_
  rintro _ σ1 ⟨hE1, w, k, m, M, f, rfl, hM, hsm⟩
  obtain ⟨a1, c1, rfl⟩ := hM.len
  have hml := hsm.1
  simp
  refine ret_go (iShard_ok hM.ints (by omega) k m) ?_
  simp
  refine ret_go (sShard_ok hM.ints (by omega) k m) ?_
  by_cases hneg : shardVal M k m < 0
  · simp [hneg]
    refine ret_go (sShard_ok hM.ints (by omega) k m) ?_
    simp
    exact hK _ _ rfl
  obtain ⟨v1, v2, v3, v4, v5, v6⟩ := shardVal_valid (by omega : 0 ≤ shardVal M k m)
  obtain ⟨k, rfl⟩ : ∃ j : Nat, k = j := ⟨k.toNat, by omega⟩
  have hpos : 0 < M.length := by
    simp only [okRow, Bool.and_eq_true] at v1
    have := v1.2
    simp [inR] at this
    omega
  simp [-Int.not_lt, -Int.not_le, hneg, fillA, zeroRow]
  have hA := Acc.nil (R := RIF) (sz := 1) (lo := σ1.size) (σ := σ1.push ⟨1, []⟩) ⟨by simpa using σ1.hle, by simp⟩ (some ⟨σ1.size, 0, none⟩)
  obtain ⟨v', σ2, ob, e, hA2, hc2⟩ := hA.app (bytes := 8) RIF_gd (by omega) (hM.ext RIF_gd (Ext.push _ _)) (by simp) (by omega) (by simp; omega)
  have hE2 : Ext σ1 σ2 := hc2.ext (Ext.push _ _) (by simp)
  simp [e]
  obtain ⟨a2, c2, rfl⟩ := hA2.len
  have hf1 := IntsF.fp1 hM
  rw [hf1] at hA2
  simp only [List.nil_append] at hA2 ⊢
  have hnd : (ob.toList ++ []).Nodup := by cases ob <;> simp
  have hob := hA2.ge
  have hkn : k ≤ M.length := by omega
  refine loop_count (fun r s σ' => ∃ (i : Nat) (N : List Int), s = .int .i64 i ∧ i + r = M.length ∧ k ≤ i ∧ Ext σ1 σ' ∧ IntsF σ' (.slice a2 M.length c2) N (ob.toList ++ []) ∧ N.length = M.length ∧ okRow N = true ∧ N.take k = M.take k) (M.length - k) ⟨k, M, rfl, by omega, Nat.le_refl _, hE2, by simpa using hA2.sl, rfl, v1, rfl⟩ ?_
  rintro J hJ r _ σ' ⟨i, N, rfl, hi, hki, hE, hN, hNl, hNok, hNt⟩
  by_cases hlt : i < M.length
  · obtain ⟨b, o, rfl, _, hbm, hb, hlen, hput⟩ := IntsF.put hN hnd (i := i) (by omega) 7
    have hbob : σ1.size ≤ b := (hob b (by simpa using hbm)).1
    have hbase : σ'.base ≤ b := by rw [hE.base]; have := σ1.hle; omega
    have hw := wrap_suc hlt (by omega)
    simp [H4_l0, hlt, hbase, hlen, hw]
    refine againH (r - 1) (by omega) (hJ _ _ _ ⟨i + 1, N.set i 7, by simp, by omega, by omega, Ext.put hE hbob _, hput, by simp [hNl], okRow_set hNok, ?_⟩)
    rw [List.take_set_of_le (by omega), hNt]
  · have hnm : Int.tmod (hsh (M.take k)) m < m := Int.tmod_lt_of_pos _ (by omega)
    have e1 : shardVal N (k : Int) m = shardVal M (k : Int) m := by
      rw [v6, shardVal_eq hNok (by omega) (by omega) v4 v5]
      simp [hNt]
    have e2 : shardVal M (k : Int) 1 = 0 := by
      rw [shardVal_eq v1 (by omega) (by omega) (by omega) (by omega), Int.tmod_one]
    have hlt2 : shardVal M (k : Int) m < m := by rw [v6]; simpa using hnm
    simp [H4_l0, hlt, hlt2]
    refine ret_go (iShard_ok (L := N) hN.ints (by omega) k m) ?_
    simp [e1]
    refine ret_go (iShard_ok (hM.ext RIF_gd hE).ints (by omega) k 1) ?_
    simp [e2]
    exact hK _ _ rfl
end Go.Proofs.Ytennnifijepfhaa
