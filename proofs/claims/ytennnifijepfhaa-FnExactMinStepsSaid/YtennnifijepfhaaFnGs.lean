/- The smallest sums of steps, as the reference computes them. -/
import Derived.Test.YtennnifijepfhaaFnGr
namespace Go.Proofs.Ytennnifijepfhaa
open Go Go.AH
set_option linter.unusedSimpArgs false
set_option linter.unusedVariables false
set_option maxRecDepth 100000
variable {w0 : World}
def rowV (n : Nat) (f : Nat → Int) : List Value := (List.range n).map fun k => .int .i64 (f k)
theorem rowV_len (n : Nat) (f : Nat → Int) : (rowV n f).length = n := by simp [rowV]
theorem rowV_get {n b : Nat} (f : Nat → Int) (hb : b < n) : (rowV n f)[b]? = some (.int .i64 (f b)) := by
  unfold rowV
  rw [List.getElem?_map, List.getElem?_range hb]; rfl
@[simp] theorem rowV_getE {n b : Nat} (f : Nat → Int) (h : b < (rowV n f).length) : (rowV n f)[b] = .int .i64 (f b) := by
  have h1 := rowV_get f (by rwa [rowV_len] at h : b < n)
  rw [List.getElem?_eq_getElem h] at h1
  exact Option.some.inj h1
theorem rowV_set {n b : Nat} (f : Nat → Int) (hb : b < n) (x : Int) : setCells (rowV n f) b [.int .i64 x] = rowV n fun k => if k = b then x else f k := by
  apply List.ext_getElem?
  intro k
  rw [setCells_get _ _ _ _ (by rw [rowV_len]; simp; omega)]
  by_cases hk : k < n
  · rw [rowV_get _ hk]
    by_cases he : k = b
    · subst he
      rw [if_pos (by simp), rowV_get _ hk]
      simp
    · rw [if_neg (by simp; omega), rowV_get _ hk, if_neg he]
  · rw [if_neg (by simp; omega)]
    rw [List.getElem?_eq_none (by rw [rowV_len]; omega), List.getElem?_eq_none (by rw [rowV_len]; omega)]
theorem nodup_inj {xs : List Nat} (h : xs.Nodup) {i j : Nat} (hi : i < xs.length) (hj : j < xs.length) (e : xs[i] = xs[j]) : i = j := by
  have hp := List.pairwise_iff_getElem.1 h
  rcases Nat.lt_trichotomy i j with hlt | heq | hlt
  · exact absurd e (hp i j hi hj hlt)
  · exact heq
  · exact absurd e.symm (hp j i hj hi hlt)
/-- A cell that leads to a row of n numbers. -/
def RSl (n : Nat) (_ : Heap) (x : Nat) (cs : List Value) (f : List Nat) : Prop := cs = [.slice (some ⟨x, 0, none⟩) n n] ∧ f = []
theorem RSl_gd (n : Nat) : Gd (RSl n) := ⟨fun h _ _ _ => h, fun h i hi => absurd hi (by rw [h.2]; simp), fun h => by rw [h.1]; rfl⟩
structure MatS (n lo : Nat) (σ : Heap) (v : Value) (xs : List Nat) (fp : List Nat) (D : Mat) : Prop where
  sl : SlF (RSl n) 1 σ v xs fp
  rows : ∀ a (h : a < xs.length), Has σ xs[a] ⟨1, rowV n (D a)⟩ ∧ lo ≤ xs[a] ∧ xs[a] ∉ fp
  nd : xs.Nodup
theorem MatS.ext {n lo : Nat} {σ σ' : Heap} {v : Value} {xs fp : List Nat} {D : Mat} (h : MatS n lo σ v xs fp D) (hE : Ext σ σ') : MatS n lo σ' v xs fp D :=
  ⟨h.sl.ext (RSl_gd n) hE, fun a ha => ⟨(h.rows a ha).1.ext hE, (h.rows a ha).2⟩, h.nd⟩
theorem MatS.get {n lo : Nat} {σ : Heap} {v : Value} {xs fp : List Nat} {D : Mat} (h : MatS n lo σ v xs fp D) (h0 : 0 < xs.length) : ∃ b o c, v = .slice (some ⟨b, o, none⟩) xs.length c ∧ ∀ a (ha : a < xs.length), (σ.blk b).cells[o + a]? = some (.slice (some ⟨xs[a], 0, none⟩) n n) := by
  obtain ⟨b, o, c, cs, f, e, hc, hb, _, _, _, _, _⟩ := SlF.at_ h.sl (by omega) h0
  refine ⟨b, o, c, e, fun a ha => ?_⟩
  obtain ⟨b2, o2, c2, cs2, f2, e2, _, _, _, _, ⟨rfl, _⟩, hrd, _⟩ := SlF.at_ h.sl (by omega) ha
  rw [e] at e2
  cases e2
  have := cell_of' (j := 0) hrd rfl
  simpa using this
theorem MatS.put {n lo : Nat} {σ : Heap} {v : Value} {xs fp : List Nat} {D : Mat} (h : MatS n lo σ v xs fp D) {a b : Nat} (ha : a < xs.length) (hb : b < n) (x : Int) :
    MatS n lo (σ.put xs[a] (setCells (rowV n (D a)) b [.int .i64 x])) v xs fp (fun p q => if p = a ∧ q = b then x else D p q) := by
  refine ⟨h.sl.frame (RSl_gd n) rfl (Nat.le_refl _) fun i hi => put_off _ _ fun e => (h.rows a ha).2.2 (e ▸ hi), fun p hp => ⟨⟨?_, (h.rows p hp).1.2⟩, (h.rows p hp).2⟩, h.nd⟩
  by_cases hpa : p = a
  · subst hpa
    rw [put_at, (h.rows p hp).1.1, rowV_set _ hb]
    congr 1
    congr 1
    funext q
    simp
  · rw [put_off _ _ (fun e => hpa (nodup_inj h.nd hp ha e)), (h.rows p hp).1.1]
    congr 1
    congr 1
    funext q
    simp [hpa]
/-- A square of sums that is gone through. -/
def midF (m i j : Nat) (D : Mat) : Mat := fun a b => if a < i ∨ (a = i ∧ b < j) then fw m D a b else D a b
theorem fw_col {D : Mat} {m i : Nat} (h : D m m = 0) : fw m D i m = D i m := by
  unfold fw
  rw [if_neg (by omega)]
theorem fw_row {D : Mat} {m j : Nat} (h : D m m = 0) : fw m D m j = D m j := by
  unfold fw
  rw [if_neg (by omega)]
theorem midF_im {D : Mat} {m i j : Nat} (h : D m m = 0) : midF m i j D i m = D i m := by
  unfold midF; split
  · exact fw_col h
  · rfl
theorem midF_mj {D : Mat} {m i j : Nat} (h : D m m = 0) : midF m i j D m j = D m j := by
  unfold midF; split
  · exact fw_row h
  · rfl
theorem midF_ij {D : Mat} {m i j : Nat} : midF m i j D i j = D i j := by unfold midF; rw [if_neg (by omega)]
theorem midF_step {D : Mat} {m i j : Nat} : (fun x y => if x = i ∧ y = j then fw m D i j else midF m i j D x y) = midF m i (j + 1) D := by
  funext x y
  by_cases hxy : x = i ∧ y = j
  · rw [if_pos hxy]
    obtain ⟨rfl, rfl⟩ := hxy
    unfold midF
    rw [if_pos (by omega)]
  · rw [if_neg hxy]
    unfold midF
    by_cases h1 : x < i ∨ (x = i ∧ y < j)
    · rw [if_pos h1, if_pos (by omega)]
    · rw [if_neg h1, if_neg (by omega)]
theorem midF_same {D : Mat} {m i j : Nat} (h : fw m D i j = D i j) : midF m i (j + 1) D = midF m i j D := by
  rw [← midF_step]
  funext x y
  by_cases hxy : x = i ∧ y = j
  · rw [if_pos hxy, h, hxy.1, hxy.2, midF_ij]
  · rw [if_neg hxy]
theorem MatS.congr {n lo : Nat} {σ : Heap} {v : Value} {xs fp : List Nat} {D E : Mat} (h : MatS n lo σ v xs fp D) (hl : xs.length = n) (he : ∀ a b, a < n → b < n → D a b = E a b) : MatS n lo σ v xs fp E := by
  refine ⟨h.sl, fun a ha => ⟨?_, (h.rows a ha).2⟩, h.nd⟩
  have : rowV n (D a) = rowV n (E a) := List.map_congr_left fun k hk => by rw [he a k (by omega) (List.mem_range.1 hk)]
  rw [← this]; exact (h.rows a ha).1
theorem dI_snoc {cs : List Chan} {i : Nat} (hi : i < cs.length) (a b : Nat) : dI (cs.take (i + 1)) a b = if (cs[i].fr = (a : Int) ∧ cs[i].to = (b : Int)) ∧ (dI (cs.take i) a b < 0 ∨ cs[i].st < dI (cs.take i) a b) then cs[i].st else dI (cs.take i) a b := by
  unfold dI
  rw [List.take_succ_eq_append_getElem hi, List.foldl_append]; rfl
/-- How large the sums get. -/
def BdM (M : Int) (D : Mat) : Prop := ∀ a b, -1 ≤ D a b ∧ D a b ≤ M
theorem fw_bd {M : Int} {D : Mat} (h : BdM M D) (h0 : 0 ≤ M) (m : Nat) : BdM (2 * M) (fw m D) := by
  intro a b
  have h1 := h a b
  have h2 := h a m
  have h3 := h m b
  unfold fw
  split <;> omega
theorem Dm_bd {D : Mat} (h : BdM 3 D) : ∀ m, BdM ((3 * 2 ^ m : Nat) : Int) (Dm D m)
  | 0 => h
  | m + 1 => by
    have := fw_bd (Dm_bd h m) (by omega) m
    rw [show ((3 * 2 ^ (m + 1) : Nat) : Int) = 2 * ((3 * 2 ^ m : Nat) : Int) by rw [Nat.pow_succ]; omega]
    exact this
theorem Dm_sm {D : Mat} (h : BdM 3 D) {m : Nat} (hm : m ≤ 6) : BdM 192 (Dm D m) := by
  intro a b
  have h1 := Dm_bd h m a b
  have : 2 ^ m ≤ 2 ^ 6 := Nat.pow_le_pow_right (by omega) hm
  omega
theorem zeroRow_row : ∀ n, zeroRow [.int .i64 0] n = rowV n fun _ => 0
  | 0 => rfl
  | n + 1 => by
    rw [zeroRow, zeroRow_row n]
    unfold rowV
    rw [List.range_succ_eq_map, List.map_cons, List.map_map]; rfl
theorem dI_bd {n : Nat} {cs : List Chan} (h : ChOk n cs) : BdM 3 (dI cs) := by
  intro a b
  unfold dI
  have key : ∀ (cs : List Chan), ChOk n cs → ∀ x : Int, -1 ≤ x ∧ x ≤ 3 → -1 ≤ cs.foldl (fun (x : Int) (c : Chan) => if (c.fr = (a : Int) ∧ c.to = (b : Int)) ∧ (x < 0 ∨ c.st < x) then c.st else x) x ∧ cs.foldl (fun (x : Int) (c : Chan) => if (c.fr = (a : Int) ∧ c.to = (b : Int)) ∧ (x < 0 ∨ c.st < x) then c.st else x) x ≤ 3 := by
    intro cs
    induction cs with
    | nil => intro _ x hx; exact hx
    | cons c cs ih =>
      intro h x hx
      have hc := h c List.mem_cons_self
      rw [List.foldl_cons]
      refine ih (fun c hc => h c (List.mem_cons_of_mem _ hc)) _ ?_
      split <;> omega
  exact key cs h _ (by split <;> omega)
/-- What minSteps answers. -/
def MsQ (n : Nat) (L : List Chan) (σ : Heap) (v : Value) (σ' : Heap) : Prop := Ext σ σ' ∧ ∃ w, v = .tuple #[w, .bool (sOkG n L)] ∧ (sOkG n L = true → ∃ xs fp, MatS n σ.size σ' w xs fp (Dm (dI L) n) ∧ xs.length = n)
theorem minSteps_ok {σ : Heap} {s : Value} {L : List Chan} {fp : List Nat} (h : Chans σ s L fp) (hL : L.length ≤ 9223372036854775807) {n : Nat} (hn1 : 1 ≤ n) (hn : n ≤ 6) (hch : ChOk n L) : ACalls Try.prog w0 68 [.int .i64 n, s] σ fun v σ' => MsQ n L σ v σ' := by
  refine go68 fun K hK => ?_
  obtain ⟨a, c, rfl⟩ := h.len
  have hle := σ.hle
  simp [H68, fillA, zeroRow]
  refine loop_for (β := Value) (b := .slice (some ⟨σ.size, 0, none⟩) 0 0) n (fun i v => (v, Value.int .i64 i)) (fun i v σ' => Ext σ σ' ∧ ∃ xs ob, Acc (RSl n) 1 σ.size σ' v xs ob [] ∧ xs.length = i ∧ xs.Nodup ∧ ∀ a (ha : a < xs.length), Has σ' xs[a] ⟨1, rowV n fun b => if a = b then 0 else -1⟩ ∧ σ.size ≤ xs[a] ∧ (∀ b ∈ ob, xs[a] ≠ b)) ⟨Ext.push _ _, [], none, Acc.nil ⟨by simpa using hle, by simp⟩ _, rfl, by simp, fun a ha => by simp at ha⟩ ?_ ?_
  · rintro J i v σ' hi ⟨hE, xs, ob, hA, hxl, hnd, hrows⟩ hJ
    have hw := wrap_suc hi (by omega)
    have hnn : (n : Int) * 8 ≤ 281474976710656 := by omega
    obtain ⟨σ2, e2, hE2, hl2, _, hs2, ho2⟩ := boxed σ' ⟨1, rowV n fun _ => 0⟩
    have k2 := boxed_has hl2 hs2
    simp [H68_l6, show (i : Int) < n by omega, hnn, zeroRow_row, ← e2]
    refine loop_for0 n (fun j σ'' => Ext σ' σ'' ∧ Has σ'' σ'.size ⟨1, rowV n fun b => if b < j then -1 else 0⟩) ⟨hE2, by simpa using k2⟩ ?_ ?_
    · rintro J2 j σ'' hj ⟨hE', k⟩ hJ2
      have hw := wrap_suc hj (by omega)
      have hbB : σ''.base ≤ σ'.size := by rw [hE'.base]; exact σ'.hle
      simp [H68_l7, hj, k.1, rowV_len, hbB, show j + 1 ≤ n by omega, hw]
      refine hJ2 _ ⟨hE'.put (Nat.le_refl _) _, ⟨?_, k.2⟩⟩
      simp [k.1]
      rw [rowV_set (fun b => if b < j then -1 else 0) hj (-1)]
      congr 1
      funext b
      by_cases hb : b = j
      · simp [hb]
      · by_cases hb2 : b < j
        · simp [hb, hb2, show b < j + 1 by omega]
        · simp [hb, hb2, show ¬ b < j + 1 by omega]
    rintro J2 σ3 ⟨hE3, k3⟩
    have hbB : σ3.base ≤ σ'.size := by rw [hE3.base]; exact σ'.hle
    have hEσ := hE.trans hE3
    obtain ⟨σ4, e4⟩ : ∃ σ4, σ4 = σ3.put σ'.size (rowV n fun b => if i = b then 0 else -1) := ⟨_, rfl⟩
    have hE4 : Ext σ' σ4 := by rw [e4]; exact hE3.put (Nat.le_refl _) _
    have k4 : Has σ4 σ'.size ⟨1, rowV n fun b => if i = b then 0 else -1⟩ := by rw [e4]; exact ⟨by simp [k3.1], k3.2⟩
    have hs := rowV_set (fun b => if b < n then -1 else 0) hi 0
    simp only [setCells] at hs
    have hs2 : (rowV n fun b => if b < n then -1 else 0).set i (.int .i64 0) = rowV n fun b => if i = b then 0 else -1 := by
      rw [hs]
      exact List.map_congr_left fun b hb => by
        have := List.mem_range.1 hb
        by_cases hbi : b = i
        · simp [hbi]
        · simp [hbi, this, show ¬ i = b by omega]
    have hA4 := hA.go (RSl_gd n) hE4
    obtain ⟨v', σ5, ob', e5, hA5, hc5, hob'⟩ := hA4.app1' (bytes := 24) (x := σ'.size) (cs := [.slice (some ⟨σ'.size, 0, none⟩) n n]) (f := []) (RSl_gd n) (by omega) ⟨rfl, rfl⟩ rfl (by simp) (by omega) (by omega)
    simp [H68_l7, show (i : Int) < n by omega, k3.1, rowV_len, hbB, show i + 1 ≤ n by omega, hw, hs2, ← e4, fillA, zeroRow, setCells, e5]
    have hobl := hA.ge
    have hE5 : Ext σ σ5 := hc5.ext (hE.trans hE4) fun b hb => (hobl b hb).1
    have off5 : ∀ q, q < σ4.size → (∀ b ∈ ob, q ≠ b) → σ5.blk q = σ4.blk q := hc5.blk
    have h45 := hc5.size
    have h04 := hE4.size
    have h0 := hE.size
    refine hJ _ _ ⟨hE5, xs ++ [σ'.size], ob', hA5, by simp [hxl], ?_, ?_⟩
    · refine List.nodup_append.2 ⟨hnd, by simp, fun a ha b hb e => ?_⟩
      simp at hb
      subst hb
      obtain ⟨k, hk, rfl⟩ := List.mem_iff_getElem.1 ha
      have := (hrows k hk).1.2
      omega
    · intro a ha
      have hnew : ∀ x, x < σ4.size → ∀ b ∈ ob', x ≠ b := by
        intro x hx b hb
        rw [hob'] at hb
        cases hb
        omega
      by_cases hax : a < xs.length
      · obtain ⟨r1, r2, r3⟩ := hrows a hax
        have r4 := r1.ext hE4
        rw [List.getElem_append_left hax]
        exact ⟨⟨(off5 _ r4.2 r3).trans r4.1, by have := r4.2; omega⟩, r2, hnew _ r4.2⟩
      · have hai : a = i := by simp at ha; omega
        subst hai
        rw [List.getElem_append_right (by omega)]
        simp only [hxl, Nat.sub_self, List.getElem_cons_zero]
        refine ⟨⟨(off5 _ k4.2 fun b hb => ?_).trans k4.1, by have := k4.2; omega⟩, h0, hnew _ k4.2⟩
        have := (hobl b hb).2
        omega
  · rintro J v σ1 ⟨hE1, xs, ob, hA1, hxl, hnd, hrows⟩
    have hM1 : MatS n σ.size σ1 v xs (ob.toList ++ []) (fun a b => if a = b then 0 else -1) := ⟨hA1.sl, fun a ha => ⟨(hrows a ha).1, (hrows a ha).2.1, fun hm => by
      cases ob with
      | none => cases hm
      | some b =>
        simp at hm
        exact (hrows a ha).2.2 b rfl hm⟩, hnd⟩
    obtain ⟨fpM, hfpM⟩ : ∃ fpM, fpM = ob.toList ++ ([] : List Nat) := ⟨_, rfl⟩
    rw [← hfpM] at hM1
    obtain ⟨bM, oM, cM, rfl, _⟩ := hM1.get (by omega)
    have hno : sOkG n L = false → ∀ σ', Ext σ σ' → K (.tuple #[.slice (some ⟨bM, oM, none⟩) xs.length cM, .bool false]) σ' := fun hf σ' hE => hK _ _ ⟨hE, _, by rw [hf], fun e => by rw [hf] at e; cases e⟩
    simp [H68_l6]
    refine loop_for0 L.length (fun i σ' => Ext σ σ' ∧ MatS n σ.size σ' (.slice (some ⟨bM, oM, none⟩) xs.length cM) xs fpM (dI (L.take i)) ∧ noLoop (L.take i) = true) ⟨hE1, by rw [List.take_zero]; exact hM1, by rw [List.take_zero]; rfl⟩ ?_ ?_
    · rintro J i σ' hlt ⟨hE, hM, hnl⟩ hJ
      obtain ⟨b, o, rfl, hc, hb, hrd⟩ := Chans.at_ (h.ext RCh_gd hE) hlt
      have hw := wrap_suc hlt hL
      have hbs := σ'.hle
      obtain ⟨σx, ex, hEx, hlx, _, hsx, _⟩ := boxed σ' ⟨3, [.int .i64 L[i].fr, .int .i64 L[i].to, .int .i64 L[i].st]⟩
      have hE' := hE.trans hEx
      have hM' := hM.ext hEx
      have hci := hch _ (List.getElem_mem hlt)
      obtain ⟨fr, hfr⟩ : ∃ m : Nat, L[i].fr = m := ⟨L[i].fr.toNat, by omega⟩
      obtain ⟨to, hto⟩ : ∃ m : Nat, L[i].to = m := ⟨L[i].to.toNat, by omega⟩
      have f6 : fr < xs.length := by omega
      have t6 : to < n := by omega
      obtain ⟨_, _, _, eM, hrow⟩ := hM'.get (by omega)
      cases eM
      have q1 := hrow fr f6
      have k1 := (hM'.rows fr f6).1
      have q2 := rowV_get (dI (L.take i) fr) t6
      have hlo := (hM'.rows fr f6).2.1
      have hbB : σx.base ≤ xs[fr] := by rw [hE'.base]; omega
      have hsn := dI_snoc hlt
      have hput := hM'.put f6 t6 L[i].st
      have hpE : Ext σ (σx.put xs[fr] (setCells (rowV n (dI (L.take i) fr)) to [.int .i64 L[i].st])) := Ext.put hE' hlo _
      have hskip : ¬ (dI (L.take i) fr to < 0 ∨ L[i].st < dI (L.take i) fr to) → MatS n σ.size σx (.slice (some ⟨bM, oM, none⟩) xs.length cM) xs fpM (dI (L.take (i + 1))) := fun hne => by
        rw [show dI (L.take (i + 1)) = dI (L.take i) from ?_]
        · exact hM'
        · funext p q
          rw [hsn]
          by_cases hpq : L[i].fr = (p : Int) ∧ L[i].to = (q : Int)
          · have hp : p = fr := by omega
            have hq : q = to := by omega
            subst hp hq
            rw [if_neg (fun hh => hne hh.2)]
          · rw [if_neg (fun hh => hpq hh.1)]
      have hdo : (dI (L.take i) fr to < 0 ∨ L[i].st < dI (L.take i) fr to) → MatS n σ.size (σx.put xs[fr] (setCells (rowV n (dI (L.take i) fr)) to [.int .i64 L[i].st])) (.slice (some ⟨bM, oM, none⟩) xs.length cM) xs fpM (dI (L.take (i + 1))) := fun hne => by
        rw [show dI (L.take (i + 1)) = fun p q => if p = fr ∧ q = to then L[i].st else dI (L.take i) p q from ?_]
        · exact hput
        · funext p q
          rw [hsn]
          by_cases hpq : p = fr ∧ q = to
          · obtain ⟨rfl, rfl⟩ := hpq
            rw [if_pos ⟨⟨hfr, hto⟩, hne⟩, if_pos ⟨rfl, rfl⟩]
          · rw [if_neg hpq, if_neg (fun hh => hpq (by omega))]
      have hnl' : ¬ (fr = to ∧ L[i].st = 0) → noLoop (L.take (i + 1)) = true := fun hne => all_snoc hlt hnl (by
        simp only [hfr, hto, Bool.not_eq_true', Bool.and_eq_false_iff, decide_eq_false_iff_not]
        by_cases e : fr = to
        · exact .inr fun e' => hne ⟨e, e'⟩
        · exact .inl (by omega))
      have hdo' := fun hne hs => hJ _ ⟨hpE, hdo hne, hnl' hs⟩
      have hskip' := fun hne hs => hJ _ ⟨hE', hskip hne, hnl' hs⟩
      have hself : fr = to → L[i].st = 0 → K (.tuple #[.slice (some ⟨bM, oM, none⟩) xs.length cM, .bool false]) σx := fun e1 e2 => hno (by
        rw [sOkG, show noLoop L = false from all_no hlt (by simp [hfr, hto, e1, e2])]; rfl) _ hE'
      rw [hfr, hto] at ex hlx hrd
      generalize L[i].st = st at *
      simp only [setCells] at hdo'
      have hlen : to + 1 ≤ n := t6
      by_cases hst : fr = to ∧ st = 0
      · obtain ⟨rfl, rfl⟩ := hst
        simp [H68_l5, hlt, hrd, hbs, setCells, ← ex, hlx]
        exact hself rfl rfl
      by_cases hneg : dI (L.take i) fr to < 0
      · have := hdo' (.inl hneg) hst
        by_cases hft : fr = to
        · subst hft
          have hst : ¬ st = 0 := fun e => hst ⟨rfl, e⟩
          simp [H68_l5, hlt, hrd, hbs, setCells, ← ex, hlx, hst, f6, t6, q1, k1.1, q2, hneg, hbB, rowV_len, hlen, hw]
          exact this
        · have hfti : ¬ (fr : Int) = to := by omega
          simp [H68_l5, hlt, hrd, hbs, setCells, ← ex, hlx, hft, hfti, f6, t6, q1, k1.1, q2, hneg, hbB, rowV_len, hlen, hw]
          exact this
      by_cases hlt2 : st < dI (L.take i) fr to
      · have := hdo' (.inr hlt2) hst
        by_cases hft : fr = to
        · subst hft
          have hst : ¬ st = 0 := fun e => hst ⟨rfl, e⟩
          simp [-Int.not_lt, H68_l5, hlt, hrd, hbs, setCells, ← ex, hlx, hst, f6, t6, q1, k1.1, q2, hneg, hlt2, hbB, rowV_len, hlen, hw]
          exact this
        · have hfti : ¬ (fr : Int) = to := by omega
          simp [-Int.not_lt, H68_l5, hlt, hrd, hbs, setCells, ← ex, hlx, hft, hfti, f6, t6, q1, k1.1, q2, hneg, hlt2, hbB, rowV_len, hlen, hw]
          exact this
      · have := hskip' (by omega) hst
        by_cases hft : fr = to
        · subst hft
          have hst : ¬ st = 0 := fun e => hst ⟨rfl, e⟩
          simp [-Int.not_lt, H68_l5, hlt, hrd, hbs, setCells, ← ex, hlx, hst, f6, t6, q1, k1.1, q2, hneg, hlt2, hbB, rowV_len, hlen, hw]
          exact this
        · have hfti : ¬ (fr : Int) = to := by omega
          simp [-Int.not_lt, H68_l5, hlt, hrd, hbs, setCells, ← ex, hlx, hft, hfti, f6, t6, q1, k1.1, q2, hneg, hlt2, hbB, rowV_len, hlen, hw]
          exact this
    rintro J σ2 ⟨hE2, hM2, hnl⟩
    rw [List.take_of_length_le (Nat.le_refl _)] at hM2 hnl
    simp [H68_l5]
    refine loop_for0 n (fun m σ' => Ext σ σ' ∧ MatS n σ.size σ' (.slice (some ⟨bM, oM, none⟩) xs.length cM) xs fpM (Dm (dI L) m)) ⟨hE2, hM2⟩ ?_ ?_
    · rintro J m σ' hm ⟨hE, hM⟩ hJ
      have hwm := wrap_suc hm (by omega)
      have hmm : Dm (dI L) m m m = 0 := (Zr_all hch m m m).2.2 (.inl rfl)
      have hbd := Dm_sm (dI_bd hch) (show m ≤ 6 by omega)
      have hnext : Dm (dI L) (m + 1) = fw m (Dm (dI L) m) := rfl
      rw [hnext] at hJ
      generalize Dm (dI L) m = D at *
      simp [H68_l2, show (m : Int) < n by omega]
      refine loop_for0 n (fun i σ' => Ext σ σ' ∧ MatS n σ.size σ' (.slice (some ⟨bM, oM, none⟩) xs.length cM) xs fpM (midF m i 0 D)) ⟨hE, hM.congr hxl fun a b _ _ => by unfold midF; rw [if_neg (by omega)]⟩ ?_ ?_
      · rintro J2 i σ' hi ⟨hE, hM⟩ hJ2
        have hwi := wrap_suc hi (by omega)
        simp [H68_l3, show (i : Int) < n by omega]
        refine loop_for0 n (fun j σ' => Ext σ σ' ∧ MatS n σ.size σ' (.slice (some ⟨bM, oM, none⟩) xs.length cM) xs fpM (midF m i j D)) ⟨hE, hM⟩ ?_ ?_
        · rintro J3 j σ' hj ⟨hE, hM⟩ hJ3
          have hwj := wrap_suc hj (by omega)
          obtain ⟨_, _, _, eM, hrow⟩ := hM.get (by omega)
          cases eM
          have i6 : i < xs.length := by omega
          have m6 : m < xs.length := by omega
          have q1 := hrow i i6
          have q2 := hrow m m6
          have k1 := (hM.rows i i6).1
          have k2 := (hM.rows m m6).1
          have hlo := (hM.rows i i6).2.1
          have hbB : σ'.base ≤ xs[i] := by rw [hE.base]; omega
          have hput := hM.put i6 hj (D i m + D m j)
          have hpE := fun C => Ext.put (id := xs[i]) hE hlo C
          have e1 : midF m i j D i m = D i m := midF_im hmm
          have e2 : midF m i j D m j = D m j := midF_mj hmm
          have e3 : midF m i j D i j = D i j := midF_ij
          have b1 := hbd i m
          have b2 := hbd m j
          have hws : IntKind.i64.wrap (D i m + D m j) = D i m + D m j := w64 (by omega) (by omega)
          have hdo : (0 ≤ D i m ∧ 0 ≤ D m j ∧ (D i j < 0 ∨ D i m + D m j < D i j)) → J3 (.int .i64 ((j : Int) + 1)) (σ'.put xs[i] ((rowV n (midF m i j D i)).set j (.int .i64 (D i m + D m j)))) := fun hc => by
            refine hJ3 _ ⟨hpE _, ?_⟩
            rw [← midF_step, show fw m D i j = D i m + D m j by unfold fw; rw [if_pos hc]]
            exact hput
          have hskip : ¬ (0 ≤ D i m ∧ 0 ≤ D m j ∧ (D i j < 0 ∨ D i m + D m j < D i j)) → J3 (.int .i64 ((j : Int) + 1)) σ' := fun hc => by
            refine hJ3 _ ⟨hE, ?_⟩
            rw [midF_same (by unfold fw; rw [if_neg hc])]
            exact hM
          have hlen : j + 1 ≤ n := hj
          have hmn : m < n := hm
          by_cases g1 : 0 ≤ D i m
          · by_cases g2 : 0 ≤ D m j
            · by_cases g3 : D i j < 0
              · have := hdo ⟨g1, g2, .inl g3⟩
                simp [-Int.not_lt, -Int.not_le, H68_l4, hj, i6, m6, hmn, q1, q2, k1.1, k2.1, rowV_len, hbB, hlen, hwj, e1, e2, e3, g1, g2, g3, hws, setCells]
                exact this
              · by_cases g4 : D i m + D m j < D i j
                · have := hdo ⟨g1, g2, .inr g4⟩
                  simp [-Int.not_lt, -Int.not_le, H68_l4, hj, i6, m6, hmn, q1, q2, k1.1, k2.1, rowV_len, hbB, hlen, hwj, e1, e2, e3, g1, g2, g3, g4, hws, setCells]
                  exact this
                · have := hskip (by omega)
                  simp [-Int.not_lt, -Int.not_le, H68_l4, hj, i6, m6, hmn, q1, q2, k1.1, k2.1, rowV_len, hbB, hlen, hwj, e1, e2, e3, g1, g2, g3, g4, hws, setCells]
                  exact this
            · have := hskip (by omega)
              simp [-Int.not_lt, -Int.not_le, H68_l4, hj, i6, m6, hmn, q1, q2, k1.1, k2.1, rowV_len, hbB, hlen, hwj, e1, e2, e3, g1, g2, hws, setCells]
              exact this
          · have := hskip (by omega)
            simp [-Int.not_lt, -Int.not_le, H68_l4, hj, i6, m6, hmn, q1, q2, k1.1, k2.1, rowV_len, hbB, hlen, hwj, e1, e2, e3, g1, hws, setCells]
            exact this
        · rintro J3 σ' ⟨hE, hM⟩
          simp [H68_l4, hwi]
          exact hJ2 _ ⟨hE, hM.congr hxl fun a b ha hb => by
            unfold midF
            by_cases hc : a < i ∨ (a = i ∧ b < n)
            · rw [if_pos hc, if_pos (by omega)]
            · rw [if_neg hc, if_neg (by omega)]⟩
      · rintro J2 σ' ⟨hE, hM⟩
        simp [H68_l3, hwm]
        exact hJ _ ⟨hE, hM.congr hxl fun a b ha hb => by unfold midF; rw [if_pos (.inl ha)]⟩
    rintro J σ3 ⟨hE3, hM3⟩
    simp [H68_l2]
    obtain ⟨_, _, _, eM, hrow⟩ := hM3.get (by omega)
    cases eM
    have hok : sOkG n L = (List.range n).all fun i => (List.range n).all fun k => !(!decide (i = k) && decide (Dm (dI L) n i k = 0) && decide (Dm (dI L) n k i = 0)) := by rw [sOkG, hnl, Bool.true_and]
    refine loop_for0 n (fun i σ' => σ' = σ3 ∧ ((List.range i).all fun i => (List.range n).all fun k => !(!decide (i = k) && decide (Dm (dI L) n i k = 0) && decide (Dm (dI L) n k i = 0))) = true) ⟨rfl, rfl⟩ ?_ ?_
    · rintro J i σ' hi ⟨rfl, hall⟩ hJ
      have hwi := wrap_suc hi (by omega)
      simp [H68_l0, show (i : Int) < n by omega]
      refine loop_for0 n (fun k σ'' => σ'' = σ' ∧ ((List.range k).all fun k => !(!decide (i = k) && decide (Dm (dI L) n i k = 0) && decide (Dm (dI L) n k i = 0))) = true) ⟨rfl, rfl⟩ ?_ ?_
      · rintro J2 k σ' hk ⟨rfl, hall2⟩ hJ2
        have hwk := wrap_suc hk (by omega)
        have i6 : i < xs.length := by omega
        have k6 : k < xs.length := by omega
        have q1 := hrow i i6
        have q2 := hrow k k6
        have k1 := (hM3.rows i i6).1
        have k2 := (hM3.rows k k6).1
        have hskip : ¬ (¬ i = k ∧ Dm (dI L) n i k = 0 ∧ Dm (dI L) n k i = 0) → J2 (.int .i64 ((k : Int) + 1)) σ' := fun hc => by
          refine hJ2 _ ⟨rfl, ?_⟩
          rw [List.range_succ, List.all_append, hall2]
          simp only [List.all_cons, List.all_nil, Bool.true_and, Bool.and_true, Bool.not_eq_true', Bool.and_eq_false_iff, Bool.not_eq_false', decide_eq_true_eq, decide_eq_false_iff_not]
          by_cases c1 : i = k
          · exact .inl (.inl c1)
          · by_cases c2 : Dm (dI L) n i k = 0
            · exact .inr fun c3 => hc ⟨c1, c2, c3⟩
            · exact .inl (.inr c2)
        by_cases c1 : i = k
        · have := hskip (fun hc => hc.1 c1)
          subst c1
          simp [H68_l1, hk, hwk]
          exact this
        · have c1i : ¬ (i : Int) = k := by omega
          by_cases c2 : Dm (dI L) n i k = 0
          · by_cases c3 : Dm (dI L) n k i = 0
            · simp [H68_l1, hk, hi, hwk, c1, c1i, i6, k6, q1, q2, k1.1, k2.1, rowV_len, c2, c3]
              refine hno ?_ _ hE3
              rw [hok, List.all_eq_false]
              refine ⟨i, List.mem_range.2 hi, ?_⟩
              rw [Bool.not_eq_true, List.all_eq_false]
              exact ⟨k, List.mem_range.2 hk, by simp [c1, c2, c3]⟩
            · have := hskip (fun hc => c3 hc.2.2)
              simp [H68_l1, hk, hi, hwk, c1, c1i, i6, k6, q1, q2, k1.1, k2.1, rowV_len, c2, c3]
              exact this
          · have := hskip (fun hc => c2 hc.2.1)
            simp [H68_l1, hk, hi, hwk, c1, c1i, i6, k6, q1, q2, k1.1, k2.1, rowV_len, c2]
            exact this
      · rintro J2 σ' ⟨rfl, hall2⟩
        simp [H68_l1, hwi]
        exact hJ _ ⟨rfl, by rw [List.range_succ, List.all_append, hall, List.all_cons, hall2]; rfl⟩
    · rintro J σ' ⟨rfl, hall⟩
      simp [H68_l0]
      rw [← hok] at hall
      exact hK _ _ ⟨hE3, _, by rw [hall], fun _ => ⟨xs, fpM, hM3, hxl⟩⟩
end Go.Proofs.Ytennnifijepfhaa
