/- MinSteps: the reference's and the program's walk. -/
import Derived.Test.YtennnifijepfhaaFnGv
import Derived.Test.YtennnifijepfhaaPlMs
namespace Go.Proofs.Ytennnifijepfhaa
open Go Go.AH
set_option linter.unusedSimpArgs false
set_option linter.unusedVariables false
set_option maxRecDepth 100000
variable {w0 : World}
def msV (n : Int) (L : List Chan) (a b : Int) : Int := if okGr n L = true ∧ inR a 0 (n - 1) = true ∧ inR b 0 (n - 1) = true then Dm (dI L) n.toNat a.toNat b.toNat else -1
theorem MinSteps_ok {σ : Heap} {s : Value} {L : List Chan} {fp : List Nat} (h : Chans σ s L fp) (hL : L.length ≤ 9223372036854775807) {n a b : Int} (hn : I64 n) (ha : I64 a) (hb : I64 b) : ACalls Try.prog w0 33 [.int .i64 n, s, .int .i64 a, .int .i64 b] σ fun v σ' => v = .int .i64 (msV n L a b) ∧ Ext σ σ' := by
  refine go33 fun K hK => ?_
  have hno : ¬ (okGr n L = true ∧ inR a 0 (n - 1) = true ∧ inR b 0 (n - 1) = true) → ∀ σ', Ext σ σ' → K (.int .i64 (-1)) σ' := fun hf σ' hE => hK _ _ ⟨by rw [msV, if_neg hf], hE⟩
  simp [H33]
  refine ret_ext (sValidGraph_ok h hL hn) fun σ1 hE1 => ?_
  cases h1 : okGr n L
  · simp
    exact hno (by simp [h1]) _ hE1
  have hr : 1 ≤ n ∧ n ≤ 6 := by
    have := h1
    simp [okGr, inR] at this
    omega
  have hch : L.all (okCh n) = true := by
    have := h1
    unfold okGr at this
    simp only [Bool.and_eq_true] at this
    exact this.1.2
  have hw1 : IntKind.i64.wrap (n - 1) = n - 1 := w64 (by omega) (by omega)
  simp [hw1]
  refine ret_go (inRange_ok _ _ _ _) ?_
  cases h2 : inR a 0 (n - 1)
  · simp
    exact hno (by simp [h2]) _ hE1
  simp [hw1]
  refine ret_go (inRange_ok _ _ _ _) ?_
  cases h3 : inR b 0 (n - 1)
  · simp
    exact hno (by simp [h3]) _ hE1
  have ha : 0 ≤ a ∧ a ≤ n - 1 := by simpa [inR] using h2
  have hb : 0 ≤ b ∧ b ≤ n - 1 := by simpa [inR] using h3
  have hv : msV n L a b = Dm (dI L) n.toNat a.toNat b.toNat := by rw [msV, if_pos ⟨h1, h2, h3⟩]
  obtain ⟨n, rfl⟩ : ∃ k : Nat, n = k := ⟨n.toNat, by omega⟩
  obtain ⟨a, rfl⟩ : ∃ k : Nat, a = k := ⟨a.toNat, by omega⟩
  obtain ⟨b, rfl⟩ : ∃ k : Nat, b = k := ⟨b.toNat, by omega⟩
  have hch := chOk_of hch
  simp only [Int.toNat_natCast] at hv
  simp
  refine (minSteps_ok (h.ext RCh_gd hE1) hL (by omega) (by omega) hch).mono ?_
  rintro v σ2 ⟨hE2, w, rfl, hM⟩
  have hok : sOkG n L = true := by
    rw [okG_eq (by omega) hch]
    unfold okGr at h1
    simp only [Bool.and_eq_true] at h1
    exact h1.2
  obtain ⟨xs, fpM, hM, hxl⟩ := hM hok
  obtain ⟨bM, oM, cM, rfl, hrow⟩ := hM.get (by omega)
  have a6 : a < xs.length := by omega
  have b6 : b < n := by omega
  have q := hrow a a6
  have k := (hM.rows a a6).1
  simp [q, a6, b6, k.1, rowV_len]
  exact hK _ _ ⟨by rw [hv], hE1.trans hE2⟩
theorem bf1_row {n : Nat} (f : Nat → Int) (c : Chan) : rowV n (bf1 f c) = if 0 ≤ f c.fr.toNat ∧ (f c.to.toNat < 0 ∨ f c.fr.toNat + c.st < f c.to.toNat) then rowV n fun k => if k = c.to.toNat then f c.fr.toNat + c.st else f k else rowV n f := by
  unfold bf1; split <;> rfl
theorem iMinSteps_ok {σ : Heap} {s : Value} {L : List Chan} {fp : List Nat} (h : Chans σ s L fp) (hL : L.length ≤ 9223372036854775807) {n a b : Int} (hn : I64 n) (ha : I64 a) (hb : I64 b) : ACalls Try.prog w0 34 [.int .i64 n, s, .int .i64 a, .int .i64 b] σ fun v σ' => v = .int .i64 (msV n L a b) ∧ Ext σ σ' := by
  refine go34 fun K hK => ?_
  obtain ⟨ad, c, rfl⟩ := h.len
  have hno : ¬ (okGr n L = true ∧ inR a 0 (n - 1) = true ∧ inR b 0 (n - 1) = true) → ∀ σ', Ext σ σ' → K (.int .i64 (-1)) σ' := fun hf σ' hE => hK _ _ ⟨by rw [msV, if_neg hf], hE⟩
  simp [H34]
  refine ret_ext (iValidGraph_ok h hL n) fun σ1 hE1 => ?_
  cases h1 : okGr n L
  · simp
    exact hno (by simp [h1]) _ hE1
  have hr : 1 ≤ n ∧ n ≤ 6 := by
    have := h1
    simp [okGr, inR] at this
    omega
  have hl12 : L.length ≤ 12 := by
    have := h1
    simp [okGr] at this
    omega
  have hch : L.all (okCh n) = true := by
    have := h1
    unfold okGr at this
    simp only [Bool.and_eq_true] at this
    exact this.1.2
  by_cases a1 : a < 0
  · simp [a1]
    exact hno (by simp [inR]; omega) _ hE1
  by_cases a2 : n ≤ a
  · simp [-Int.not_lt, -Int.not_le, a1, a2]
    exact hno (by simp [inR]; omega) _ hE1
  by_cases b1 : b < 0
  · simp [-Int.not_lt, -Int.not_le, a1, a2, b1]
    exact hno (by simp [inR]; omega) _ hE1
  by_cases b2 : n ≤ b
  · simp [-Int.not_lt, -Int.not_le, a1, a2, b1, b2]
    exact hno (by simp [inR]; omega) _ hE1
  have hv : msV n L a b = Dm (dI L) n.toNat a.toNat b.toNat := by rw [msV, if_pos ⟨h1, by simp [inR]; omega, by simp [inR]; omega⟩]
  obtain ⟨n, rfl⟩ : ∃ k : Nat, n = k := ⟨n.toNat, by omega⟩
  obtain ⟨a, rfl⟩ : ∃ k : Nat, a = k := ⟨a.toNat, by omega⟩
  obtain ⟨b, rfl⟩ : ∃ k : Nat, b = k := ⟨b.toNat, by omega⟩
  have hch := chOk_of hch
  simp only [Int.toNat_natCast] at hv
  have hbs1 := σ1.hle
  have hlo := hE1.size
  obtain ⟨σ2, e2, hE2, hl2, _, hs2, _⟩ := boxed σ1 ⟨6, rowV 6 fun _ => 0⟩
  have k2 := boxed_has hl2 hs2
  have e2' : σ1.push ⟨6, [.int .i64 0, .int .i64 0, .int .i64 0, .int .i64 0, .int .i64 0, .int .i64 0]⟩ = σ2 := by rw [e2]; rfl
  simp [-Int.not_lt, -Int.not_le, a1, a2, b1, b2, fillA, setCells, hbs1]
  rw [e2']
  refine loop_for0 6 (fun j σ'' => Ext σ σ'' ∧ Has σ'' σ1.size ⟨6, rowV 6 fun b => if b < j then -1 else 0⟩) ⟨hE1.trans hE2, by simpa using k2⟩ ?_ ?_
  · rintro J j σ' hj ⟨hE, k⟩ hJ
    have hw := wrap_suc hj (by omega)
    have hbB : σ'.base ≤ σ1.size := by rw [hE.base]; have := σ.hle; omega
    simp [H34_l2, show (j : Int) < 6 by omega, k.1, rowV_len, hbB, show j + 1 ≤ 6 by omega, hw]
    refine hJ _ ⟨Ext.put hE hlo _, ⟨?_, k.2⟩⟩
    simp [k.1]
    rw [rowV_set (fun b => if b < j then -1 else 0) hj (-1)]
    congr 1
    funext b
    by_cases hb : b = j
    · simp [hb]
    · by_cases hb2 : b < j
      · simp [hb, hb2, show b < j + 1 by omega]
      · simp [hb, hb2, show ¬ b < j + 1 by omega]
  rintro J σ3 ⟨hE3, k3⟩
  have hbB : σ3.base ≤ σ1.size := by rw [hE3.base]; have := σ.hle; omega
  have a6 : a < 6 := by omega
  obtain ⟨σ4, e4⟩ : ∃ σ4, σ4 = σ3.put σ1.size (rowV 6 (bfI a)) := ⟨_, rfl⟩
  have hE4 : Ext σ σ4 := by rw [e4]; exact Ext.put hE3 hlo _
  have k4 : Has σ4 σ1.size ⟨6, rowV 6 (bfI a)⟩ := by rw [e4]; exact ⟨by simp [k3.1], k3.2⟩
  have hs4 : (rowV 6 fun b => if b < 6 then -1 else 0).set a (.int .i64 0) = rowV 6 (bfI a) := by
    have := rowV_set (fun b => if b < 6 then -1 else 0) a6 0
    simp only [setCells] at this
    rw [this]
    exact List.map_congr_left fun x hx => by
      have := List.mem_range.1 hx
      unfold bfI
      by_cases hxa : x = a
      · simp [hxa]
      · simp [hxa, this]
  simp [H34_l2, show (a : Int) < 6 by omega, k3.1, rowV_len, hbB, show a + 1 ≤ 6 by omega, hs4, setCells, ← e4]
  refine loop_for0 n (fun r σ' => Ext σ σ' ∧ Has σ' σ1.size ⟨6, rowV 6 (bfN L a r)⟩ ∧ ∀ x, -1 ≤ bfN L a r x ∧ bfN L a r x ≤ 36 * r) ⟨hE4, k4, fun x => by show -1 ≤ bfI a x ∧ bfI a x ≤ _; unfold bfI; split <;> omega⟩ ?_ ?_
  · rintro J r σ' hr' ⟨hE, k, hbd⟩ hJ
    have hwr := wrap_suc hr' (by omega)
    have hnext : bfN L a (r + 1) = L.foldl bf1 (bfN L a r) := rfl
    rw [hnext] at hJ
    generalize bfN L a r = f at *
    simp [H34_l0, show (r : Int) < n by omega]
    refine loop_for0 L.length (fun i σ' => Ext σ σ' ∧ Has σ' σ1.size ⟨6, rowV 6 ((L.take i).foldl bf1 f)⟩ ∧ ∀ x, -1 ≤ (L.take i).foldl bf1 f x ∧ (L.take i).foldl bf1 f x ≤ 36 * r + 3 * i) ⟨hE, by simpa using k, fun x => by have := hbd x; simp; omega⟩ ?_ ?_
    · rintro J2 i σ' hlt ⟨hE, k, hbd⟩ hJ2
      obtain ⟨bb, o, rfl, hc, hb, hrd⟩ := Chans.at_ (h.ext RCh_gd hE) hlt
      have hw := wrap_suc hlt hL
      have hbs := σ'.hle
      obtain ⟨σx, ex, hEx, hlx, _, hsx, _⟩ := boxed σ' ⟨3, [.int .i64 L[i].fr, .int .i64 L[i].to, .int .i64 L[i].st]⟩
      have hE' := hE.trans hEx
      have k' := k.ext hEx
      have hbB : σx.base ≤ σ1.size := by rw [hE'.base]; have := σ.hle; omega
      have hci := hch _ (List.getElem_mem hlt)
      have hsn : (L.take (i + 1)).foldl bf1 f = bf1 ((L.take i).foldl bf1 f) L[i] := by rw [List.take_succ_eq_append_getElem hlt, List.foldl_append]; rfl
      have hbd2 := fun x => bf1_bd hch hbd (List.getElem_mem hlt) x
      rw [hsn] at hJ2
      generalize (L.take i).foldl bf1 f = g at *
      have hbd3 : ∀ x, -1 ≤ bf1 g L[i] x ∧ bf1 g L[i] x ≤ 36 * r + 3 * ((i + 1 : Nat) : Int) := fun x => by have := hbd2 x; omega
      obtain ⟨fr, hfr⟩ : ∃ m : Nat, L[i].fr = m := ⟨L[i].fr.toNat, by omega⟩
      obtain ⟨to, hto⟩ : ∃ m : Nat, L[i].to = m := ⟨L[i].to.toNat, by omega⟩
      have f6 : fr < 6 := by omega
      have t6 : to < 6 := by omega
      have q1 := rowV_get g f6
      have q2 := rowV_get g t6
      have hrow := bf1_row (n := 6) g L[i]
      rw [hfr, hto] at hrow
      simp only [Int.toNat_natCast] at hrow
      rw [hfr, hto] at ex hlx hrd
      have hbf := hbd fr
      have hbt := hbd to
      have hws : IntKind.i64.wrap (g fr + L[i].st) = g fr + L[i].st := w64 (by omega) (by omega)
      have hdo : (0 ≤ g fr ∧ (g to < 0 ∨ g fr + L[i].st < g to)) → J2 (.int .i64 ((i : Int) + 1)) (σx.put σ1.size ((rowV 6 g).set to (.int .i64 (g fr + L[i].st)))) := fun hcnd => by
        refine hJ2 _ ⟨Ext.put hE' hlo _, ⟨?_, k'.2⟩, hbd3⟩
        rw [if_pos hcnd] at hrow
        have := rowV_set g t6 (g fr + L[i].st)
        simp only [setCells] at this
        simp [k'.1]
        rw [this, hrow]
      have hskip : ¬ (0 ≤ g fr ∧ (g to < 0 ∨ g fr + L[i].st < g to)) → J2 (.int .i64 ((i : Int) + 1)) σx := fun hcnd => by
        refine hJ2 _ ⟨hE', ?_, hbd3⟩
        rw [if_neg hcnd] at hrow
        rw [hrow]; exact k'
      generalize L[i].st = st at *
      have f6' : (fr : Int) < 6 := by omega
      have t6' : (to : Int) < 6 := by omega
      have hlen : to + 1 ≤ 6 := t6
      by_cases g1 : 0 ≤ g fr
      · by_cases g2 : g to < 0
        · have := hdo ⟨g1, .inl g2⟩
          simp [-Int.not_lt, -Int.not_le, H34_l1, hlt, hrd, hbs, setCells, ← ex, hlx, k'.1, f6', t6', rowV_len, q1, q2, hbB, hlen, hw, hws, g1, g2]
          exact this
        · by_cases g3 : g fr + st < g to
          · have := hdo ⟨g1, .inr g3⟩
            simp [-Int.not_lt, -Int.not_le, H34_l1, hlt, hrd, hbs, setCells, ← ex, hlx, k'.1, f6', t6', rowV_len, q1, q2, hbB, hlen, hw, hws, g1, g2, g3]
            exact this
          · have := hskip (by omega)
            simp [-Int.not_lt, -Int.not_le, H34_l1, hlt, hrd, hbs, setCells, ← ex, hlx, k'.1, f6', t6', rowV_len, q1, q2, hbB, hlen, hw, hws, g1, g2, g3]
            exact this
      · have := hskip (by omega)
        simp [-Int.not_lt, -Int.not_le, H34_l1, hlt, hrd, hbs, setCells, ← ex, hlx, k'.1, f6', t6', rowV_len, q1, q2, hbB, hlen, hw, hws, g1]
        exact this
    · rintro J2 σ' ⟨hE, k, hbd⟩
      rw [List.take_of_length_le (Nat.le_refl _)] at k hbd
      simp [H34_l1, hwr]
      exact hJ _ ⟨hE, k, fun x => by have := hbd x; omega⟩
  · rintro J σ5 ⟨hE5, k5, _⟩
    have b6 : b < 6 := by omega
    have q := rowV_get (bfN L a n) b6
    simp [H34_l0, show (b : Int) < 6 by omega, k5.1, q, rowV_len, b6]
    exact hK _ _ ⟨by rw [hv, bf_end hch (by omega) (by omega)], hE5⟩
theorem lawMinSteps_ok {σ : Heap} {s : Value} {L : List Chan} {fp : List Nat} {n a b : Int} (hn : I64 n) (h : Chans σ s L fp) (hL : L.length ≤ 9223372036854775807) (ha : I64 a) (hb : I64 b) : ACalls Try.prog w0 9 [.int .i64 n, s, .int .i64 a, .int .i64 b] σ fun v σ' => v = .bool true := by
  refine go9 fun K hK => ?_
  simp [H9]
  refine ret_go (szChannelS_ok h hL) ?_
  by_cases hs : sub 1048576 L.length < 0
  · simp [hs]
    exact hK _ _ rfl
  have hl : L.length ≤ 1048576 := by unfold sub at hs; split at hs <;> omega
  simp [hs]
  refine (toChannelS_ok h (by omega)).mono ?_
  rintro v2 σ2 ⟨hE2, f2, h2, _⟩
  simp
  refine ret_ext (MinSteps_ok h2 hL hn ha hb) fun σ3 hE3 => ?_
  simp
  refine (toChannelS_ok (h.ext RCh_gd (hE2.trans hE3)) (by omega)).mono ?_
  rintro v4 σ4 ⟨hE4, f4, h4, _⟩
  simp
  refine ret_ext (iMinSteps_ok h4 hL hn ha hb) fun σ5 hE5 => ?_
  simp
  refine (toChannelS_ok (h.ext RCh_gd (((hE2.trans hE3).trans hE4).trans hE5)) (by omega)).mono ?_
  rintro v6 σ6 ⟨hE6, f6, h6, _⟩
  simp
  refine ret_ext (eqChannelS_ok (h4.ext RCh_gd (hE5.trans hE6)) h6 hL) fun σ7 hE7 => ?_
  simp
  exact hK _ _ rfl
end Go.Proofs.Ytennnifijepfhaa
