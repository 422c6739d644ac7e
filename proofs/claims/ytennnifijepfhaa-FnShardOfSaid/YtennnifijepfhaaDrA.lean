/- The reader: what it picks. -/
import Derived.Test.YtennnifijepfhaaCoDr
import Derived.Test.YtennnifijepfhaaAhV
import Derived.Test.YtennnifijepfhaaDtI
namespace Go.Proofs.Ytennnifijepfhaa
open Go Go.AH
set_option linter.unusedSimpArgs false
set_option linter.unusedVariables false
set_option maxRecDepth 100000
variable {w0 : World}
/-- A reader in the block B: its bytes lie elsewhere, and it has picked at most q times. -/
structure Rdr (σ : Heap) (B : Nat) (fb : List Nat) (q : Nat) : Prop where
  h : ∃ (a : Option Addr) (c p : Nat) (L : List Int), Has σ B ⟨2, [.slice a L.length c, .int .i64 p]⟩ ∧ σ.base ≤ B ∧ SlF RUF 1 σ (.slice a L.length c) L fb ∧ L.length ≤ 2000 ∧ (∀ x ∈ L, 0 ≤ x ∧ x ≤ 255) ∧ B ∉ fb ∧ p ≤ q
theorem Rdr.mono {σ : Heap} {B : Nat} {fb : List Nat} {q r : Nat} (h : Rdr σ B fb q) (k : q ≤ r) : Rdr σ B fb r := by
  obtain ⟨a, c, p, L, h1, h2, h3, h4, h5, h6, h7⟩ := h.h
  exact ⟨a, c, p, L, h1, h2, h3, h4, h5, h6, by omega⟩
theorem Rdr.lt {σ : Heap} {B : Nat} {fb : List Nat} {q : Nat} (h : Rdr σ B fb q) : B < σ.size := by
  obtain ⟨a, c, p, L, h1, _⟩ := h.h
  exact h1.2
theorem Rdr.ext {σ σ' : Heap} {B : Nat} {fb : List Nat} {q : Nat} (h : Rdr σ B fb q) (hE : Ext σ σ') : Rdr σ' B fb q := by
  obtain ⟨a, c, p, L, h1, h2, h3, h4, h5, h6, h7⟩ := h.h
  exact ⟨a, c, p, L, h1.ext hE, by rw [hE.base]; exact h2, h3.ext RUF_gd hE, h4, h5, h6, h7⟩
/-- Blocks above the reader's and its bytes' may change. -/
theorem Rdr.frame {σ σ' : Heap} {B : Nat} {fb : List Nat} {q : Nat} (h : Rdr σ B fb q) (hb : σ'.base = σ.base) (hs : σ.size ≤ σ'.size) (hf : ∀ i ∈ B :: fb, σ'.blk i = σ.blk i) : Rdr σ' B fb q := by
  obtain ⟨a, c, p, L, h1, h2, h3, h4, h5, h6, h7⟩ := h.h
  exact ⟨a, c, p, L, ⟨(hf B (by simp)).trans h1.1, by have := h1.2; omega⟩, by rw [hb]; exact h2, h3.frame RUF_gd hb hs fun i hi => hf i (by simp [hi]), h4, h5, h6, h7⟩
theorem RUF.cell {σ : Heap} {a : Option Addr} {n c : Nat} {L : List Int} {fp : List Nat} (h : SlF RUF 1 σ (.slice a n c) L fp) (h0 : 0 < L.length) : ∃ b o, a = some ⟨b, o, none⟩ ∧ 0 < c ∧ b < σ.size ∧ b ∈ fp ∧ ∀ i (hi : i < L.length), (σ.blk b).cells[o + i]? = some (.int .u8 L[i]) := by
  obtain ⟨b, o, c', cs, f, e, hc, hb, _, _, _, _, hm, _⟩ := SlF.at_ h (by omega) h0
  injection e with e1 e2 e3
  subst e1 e2 e3
  refine ⟨b, o, rfl, hc, hb, hm, fun i hi => ?_⟩
  obtain ⟨b2, o2, c2, cs2, f2, e, _, _, _, _, ⟨rfl, _⟩, hrd, _⟩ := SlF.at_ h (by omega) hi
  cases e
  obtain ⟨q1, q2, q3⟩ := readCells_eq hrd
  have := q3 0 (by omega)
  simp at this
  rw [← this]
theorem pick_ok {σ : Heap} {B : Nat} {fb : List Nat} {q : Nat} (h : Rdr σ B fb q) (hq : q ≤ 1000000000) (n : Int) (hn : n ≤ 1000000000) : ACalls Try.prog w0 59 [.pointer (some ⟨B, 0, none⟩), .int .i64 n] σ fun v σ' =>
    ∃ m : Int, v = .int .i64 m ∧ 0 ≤ m ∧ (1 ≤ n → m < n) ∧ (n < 1 → m = 0) ∧ Rdr σ' B fb (q + 1) ∧ Stp B σ σ' := by
  obtain ⟨a, c, p, L, hh, hbase, hsl, hlen, hby, hnb, hp⟩ := h.h
  refine go59 fun K hK => ?_
  have hw1 : IntKind.i64.wrap ((p : Int) + 1) = (p : Int) + 1 := w64 (by omega) (by omega)
  have hw2 : IntKind.i64.wrap (p : Int) = p := w64 (by omega) (by omega)
  have hsz := hh.2
  obtain ⟨σ2, e2⟩ : ∃ σ2, σ2 = σ.put B [.slice a L.length c, .int .i64 ((p : Int) + 1)] := ⟨_, rfl⟩
  have hs2 : Stp B σ σ2 := by rw [e2]; exact ⟨rfl, Nat.le_refl _, fun i hi hn => put_off _ _ hn⟩
  have hl2 : σ2.blk B = ⟨2, [.slice a L.length c, .int .i64 ((p : Int) + 1)]⟩ := by rw [e2]; simp [hh.1]
  have hsl2 : SlF RUF 1 σ2 (.slice a L.length c) L fb := hsl.stp RUF_gd hs2 hnb
  have hR : Rdr σ2 B fb (q + 1) := ⟨a, c, p + 1, L, ⟨hl2, by have := hs2.size; omega⟩, by rw [hs2.base]; exact hbase, hsl2, hlen, hby, hnb, by omega⟩
  have hK2 : ∀ m : Int, 0 ≤ m → (1 ≤ n → m < n) → (n < 1 → m = 0) → K (.int .i64 m) σ2 := fun m h0 h1 h2 => hK _ _ ⟨m, rfl, h0, h1, h2, hR, hs2⟩
  by_cases hn1 : n < 1
  · simp [H59, hh.1, hbase, setCells, hw1, ← e2, hn1]
    exact hK2 0 (by omega) (by omega) (by omega)
  by_cases hL0 : L.length = 0
  · have : (L.length : Int) = 0 := by omega
    have hnil := List.eq_nil_of_length_eq_zero hL0
    subst hnil
    simp only [List.length_nil] at e2 hl2 hh
    simp [-Int.not_lt, -Int.not_le, H59, hh.1, hbase, setCells, hw1, ← e2, hn1, hl2]
    exact hK2 0 (by omega) (by omega) (by omega)
  have hnil : ¬ L = [] := fun e => hL0 (by rw [e]; rfl)
  obtain ⟨b, o, rfl, hc, hb, hm, hcell⟩ := RUF.cell hsl2 (by omega)
  have hne : ¬ (L.length : Int) = 0 := by omega
  have hn0 : ¬ n = 0 := by omega
  have rem : ∀ x : Int, 0 ≤ x → 0 ≤ x.tmod n ∧ x.tmod n < n := fun x hx => by
    rw [Int.tmod_eq_emod_of_nonneg hx]
    exact ⟨Int.emod_nonneg _ hn0, Int.emod_lt_of_pos _ (by omega)⟩
  by_cases hlt : p < L.length
  · have hbt := hby _ (List.getElem_mem hlt)
    have hw3 : IntKind.i64.wrap L[p] = L[p] := w64 (by omega) (by omega)
    simp [-Int.not_lt, -Int.not_le, H59, hh.1, hbase, setCells, hw1, ← e2, hn1, hl2, hne, hnil, hw2, hlt, hcell, hw3, hn0]
    have := rem L[p] hbt.1
    exact hK2 _ this.1 (fun _ => this.2) (by omega)
  · obtain ⟨r1, hr1, l1⟩ : ∃ r, p % L.length = r ∧ r < L.length := ⟨_, rfl, Nat.mod_lt _ (by omega)⟩
    obtain ⟨r2, hr2, l2⟩ : ∃ r, (7 * p + 3) % L.length = r ∧ r < L.length := ⟨_, rfl, Nat.mod_lt _ (by omega)⟩
    have e1 : ((p : Int).tmod L.length) = (r1 : Int) := by rw [← hr1]; rfl
    have e2' : (((p : Int) * 7 + 3).tmod L.length) = (r2 : Int) := by
      rw [← hr2, show (p : Int) * 7 + 3 = ((7 * p + 3 : Nat) : Int) by omega]; rfl
    have b1 := hby _ (List.getElem_mem l1)
    have b2 := hby _ (List.getElem_mem l2)
    have e3 : ((p : Int).tdiv L.length) = ((p / L.length : Nat) : Int) := rfl
    have hd : p / L.length ≤ p := Nat.div_le_self _ _
    have c1 := hcell _ l1
    have c2 := hcell _ l2
    generalize hx1 : L[r1] = x1 at *
    generalize hx2 : L[r2] = x2 at *
    generalize hx3 : p / L.length = d at *
    have hw3 : IntKind.i64.wrap x1 = x1 := w64 (by omega) (by omega)
    have hw4 : IntKind.i64.wrap x2 = x2 := w64 (by omega) (by omega)
    have hw5 : IntKind.i64.wrap ((p : Int) * 7) = p * 7 := w64 (by omega) (by omega)
    have hw6 : IntKind.i64.wrap ((p : Int) * 7 + 3) = p * 7 + 3 := w64 (by omega) (by omega)
    have hw7 : IntKind.i64.wrap (x1 * 131) = x1 * 131 := w64 (by omega) (by omega)
    have hw8 : IntKind.i64.wrap (x2 * 1117) = x2 * 1117 := w64 (by omega) (by omega)
    have hw9 : IntKind.i64.wrap ((p : Int) * 29) = p * 29 := w64 (by omega) (by omega)
    have hwa : IntKind.i64.wrap (x1 * 131 + x2 * 1117) = x1 * 131 + x2 * 1117 := w64 (by omega) (by omega)
    have hwb : IntKind.i64.wrap (x1 * 131 + x2 * 1117 + p * 29) = x1 * 131 + x2 * 1117 + p * 29 := w64 (by omega) (by omega)
    have hwc : IntKind.i64.wrap ((d : Int) * 53) = d * 53 := w64 (by omega) (by omega)
    have hwd : IntKind.i64.wrap (x1 * 131 + x2 * 1117 + p * 29 + d * 53) = x1 * 131 + x2 * 1117 + p * 29 + d * 53 := w64 (by omega) (by omega)
    have hwe : IntKind.i64.wrap (d : Int) = d := w64 (by omega) (by omega)
    obtain ⟨y, hy⟩ : ∃ y : Nat, x1 * 131 + x2 * 1117 + p * 29 + d * 53 = (y : Int) := ⟨(x1 * 131 + x2 * 1117 + p * 29 + d * 53).toNat, by omega⟩
    have hy1 : y < 4611686018427387904 := by omega
    have hy2 : y / 64 < 4611686018427387904 := by omega
    have hwy : IntKind.i64.wrap (y : Int) = (y : Int) := w64 (by omega) (by omega)
    obtain ⟨z, hz⟩ : ∃ z, y / 64 = z := ⟨_, rfl⟩
    have ey : (y : Int).tdiv 64 = (z : Int) := by rw [← hz]; rfl
    have hwf : IntKind.i64.wrap (z : Int) = (z : Int) := w64 (by omega) (by omega)
    have hxor := xor_nonneg y z hy1 (by omega)
    have hnl : ¬ (p : Int) < L.length := by omega
    have e4 : (7 * p + 3 : Int) = p * 7 + 3 := by omega
    simp [-Int.not_lt, -Int.not_le, H59, hh.1, hbase, setCells, hw1, ← e2, hn1, hl2, hne, hnil, hw2, hnl, e1, e2', e3, l1, l2, c1, c2, hw3, hw4, hw5, hw6, hw7, hw8, hw9, hwa, hwb, hwc, hwd, hwe, hy, hwy, ey, hwf, hn0, show ¬ p < L.length from hlt]
    have := rem _ hxor.1
    exact hK2 _ this.1 (fun _ => this.2) (by omega)
theorem newReader_ok {σ : Heap} {s : Value} {L : List Int} {fp : List Nat} (h : SlF RUF 1 σ s L fp) (hby : ∀ x ∈ L, 0 ≤ x ∧ x ≤ 255) : ACalls Try.prog w0 57 [s] σ fun v σ' =>
    ∃ fb, v = .pointer (some ⟨σ.size, 0, none⟩) ∧ Rdr σ' σ.size fb 0 ∧ Ext σ σ' := by
  refine go57 fun K hK => ?_
  obtain ⟨a, c, rfl⟩ := h.len
  have hs := σ.hle
  by_cases hl : 2000 < (L.length : Int)
  · obtain ⟨v', f', e, hsl, hf⟩ := h.cut (lo := 0) (hi := 2000) (by omega) (by omega) (by omega) (vl := none) (vh := some (.int .i64 2000)) (.inl ⟨rfl, rfl⟩) (.inr rfl)
    obtain ⟨a2, c2, rfl⟩ := hsl.len
    have hl2 : ((L.drop 0).take (2000 - 0)).length = 2000 := by simp; omega
    simp [H57, hl, e, fillA, setCells]
    refine hK _ _ ⟨f', rfl, ⟨a2, c2, 0, (L.drop 0).take (2000 - 0), ⟨by simp, by simp⟩, hs, hsl.ext RUF_gd (Ext.push _ _), by omega, fun x hx => hby x (by simpa using List.mem_of_mem_take hx), fun hm => ?_, Nat.le_refl _⟩, Ext.push _ _⟩
    have := hsl.ins RUF_gd _ hm
    omega
  · simp [H57, hl, fillA, setCells]
    refine hK _ _ ⟨fp, rfl, ⟨a, c, 0, L, ⟨by simp, by simp⟩, hs, h.ext RUF_gd (Ext.push _ _), by omega, hby, fun hm => ?_, Nat.le_refl _⟩, Ext.push _ _⟩
    have := h.ins RUF_gd _ hm
    omega
theorem one_ok {σ : Heap} {B : Nat} {fb : List Nat} {q : Nat} (h : Rdr σ B fb q) (hq : q ≤ 1000000000) {s : Value} {L : List Int} {fp : List Nat} (hs : IntsF σ s L fp) (hB : B ∉ fp) (h0 : 0 < L.length) (hn : L.length ≤ 1000000000) : ACalls Try.prog w0 84 [.pointer (some ⟨B, 0, none⟩), s] σ fun v σ' =>
    ∃ m : Int, v = .int .i64 m ∧ m ∈ L ∧ Rdr σ' B fb (q + 1) ∧ Stp B σ σ' := by
  refine go84 fun K hK => ?_
  obtain ⟨a, c, rfl⟩ := hs.len
  simp [H84]
  refine (pick_ok h hq L.length (by omega)).mono ?_
  rintro v σ2 ⟨m, rfl, m0, m1, _, hR, hS⟩
  have hlt := m1 (by omega)
  obtain ⟨k, rfl⟩ : ∃ k : Nat, m = k := ⟨m.toNat, by omega⟩
  have hk : k < L.length := by omega
  obtain ⟨b, o, c', e, hc, hb, hcell⟩ := Ints.at_ (hs.stp RIF_gd hS hB).ints hk
  cases e
  simp [hk, hcell]
  exact hK _ _ ⟨_, rfl, List.getElem_mem _, hR, hS⟩
/-- A list of numbers, just made. -/
theorem litInts {σ : Heap} {L : List Int} {n : Nat} (hn : n = L.length) (h0 : 0 < L.length) : IntsF (σ.push ⟨1, L.map fun x => .int .i64 x⟩) (.slice (some ⟨σ.size, 0, none⟩) n n) L [σ.size] := by
  subst hn
  exact IntsF.flat h0 h0 (by simp) (by simp) (by simp)
theorem reads_byte1 : Reads Try.prog 5 RUF fun x => 0 ≤ x ∧ x ≤ 255 := reads_byte Try.underlying5
theorem cu1 : Try.prog.cellsOf 5 = 1 := by kernel_rfl
theorem reads_bytes : Reads Try.prog 27 (RSF RUF 1) (PSl fun x => 0 ≤ x ∧ x ≤ 255) := reads_slice Try.underlying27 cu1 (by omega) reads_byte1
end Go.Proofs.Ytennnifijepfhaa
