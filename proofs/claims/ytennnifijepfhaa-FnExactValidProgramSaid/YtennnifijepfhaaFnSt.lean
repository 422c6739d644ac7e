/- Strata and valid programs: what the reference and the program compute. -/
import Derived.Test.YtennnifijepfhaaFnRu
import Derived.Test.YtennnifijepfhaaPlSt
namespace Go.Proofs.Ytennnifijepfhaa
open Go Go.AH
set_option linter.unusedSimpArgs false
set_option linter.unusedVariables false
set_option maxRecDepth 100000
variable {w0 : World}
def arrI (o : Lv) : List Value := [.int .i64 (o 0), .int .i64 (o 1), .int .i64 (o 2), .int .i64 (o 3)]
def In4 (x : Int) : Prop := x = 0 ∨ x = 1 ∨ x = 2 ∨ x = 3
theorem In4.rg {x : Int} (h : In4 x) : 0 ≤ x ∧ x < 4 := by rcases h with h | h | h | h <;> omega
theorem arrI_get (o : Lv) {x : Int} (h : In4 x) : (arrI o)[x.toNat]? = some (.int .i64 (o x)) := by
  rcases h with rfl | rfl | rfl | rfl <;> rfl
theorem arrI_set (o : Lv) {x : Int} (h : In4 x) (n : Int) : setCells (arrI o) x.toNat [.int .i64 n] = arrI fun v => if v = x then n else o v := by
  rcases h with rfl | rfl | rfl | rfl <;> simp [arrI, setCells]
theorem arrI_len (o : Lv) : (arrI o).length = 4 := rfl
def lv4 (o : Lv) : List Int := [o 0, o 1, o 2, o 3]
def Bd (o : Lv) (m : Int) : Prop := ∀ v, 0 ≤ o v ∧ o v ≤ m
theorem Bd.up1 {s : Lv × Bool} {m : Int} (h : Bd s.1 m) (p : Int) (a : At) : Bd (up p s a).1 (m + 1) := by
  intro v
  have h1 := h v
  have h2 := h a.p
  have h3 : nd s.1 a ≤ m + 1 ∧ 0 ≤ nd s.1 a := by unfold nd; split <;> omega
  unfold up
  split
  · simp only
    split <;> omega
  · omega
theorem Bd.mono {o : Lv} {m n : Int} (h : Bd o m) (k : m ≤ n) : Bd o n := fun v => by have := h v; omega
theorem foldl_take1 {α β : Type} (f : β → α → β) (s : β) {L : List α} {i : Nat} (hi : i < L.length) : (L.take (i + 1)).foldl f s = f ((L.take i).foldl f s) L[i] := by
  rw [List.take_succ_eq_append_getElem hi, List.foldl_append]; rfl
theorem mem_prs {L : List Ru} {j k : Nat} (hj : j < L.length) (hk : k < L[j].b.length) : (L[j].h.p, L[j].b[k]) ∈ prs L := by
  unfold prs
  rw [List.mem_flatMap]
  exact ⟨L[j], List.getElem_mem _, List.mem_map.2 ⟨_, List.getElem_mem _, rfl⟩⟩
theorem okP_at {L : List Ru} (ho : OkP (prs L)) {j k : Nat} (hj : j < L.length) (hk : k < L[j].b.length) : (L[j].h.p = 2 ∨ L[j].h.p = 3) ∧ In4 L[j].h.p ∧ In4 L[j].b[k].p := by
  obtain ⟨h1, h2⟩ := ho _ (mem_prs hj hk)
  exact ⟨h1, by rcases h1 with h | h <;> simp only at h <;> simp [In4, h], h2⟩
theorem strata_ok {σ : Heap} {s : Value} {L : List Ru} {fp : List Nat} (h : Rus σ s L fp) (ho : OkP (prs L)) (hL : L.length ≤ 6) (hb : ∀ r ∈ L, r.b.length ≤ 3) : ACalls Try.prog w0 72 [s] σ fun v σ' =>
    Ext σ σ' ∧ ∃ f, IntsF σ' v ((sIt L 5 o0).elim [] lv4) f ∧ Fresh σ f := by
  refine go72 fun K hK => ?_
  obtain ⟨a, c, rfl⟩ := h.len
  obtain ⟨σ2, e2, hE2, hl2, hb2, hs2, _⟩ := boxed σ ⟨1, arrI o0⟩
  have k2 := boxed_has hl2 hs2
  have e2' := e2
  simp only [arrI, o0] at e2'
  simp [H72, zeroRow, ← e2']
  refine loop_for (β := Lv) (b := o0) 5 (fun i _ => Value.int .i64 i) (fun i o σ' => Ext σ σ' ∧ Has σ' σ.size ⟨1, arrI o⟩ ∧ Bd o (18 * i) ∧ sIt L 5 o0 = sIt L (5 - i) o) ⟨hE2, k2, fun v => by simp [o0], rfl⟩ ?_ ?_
  · rintro J i o σ' hi ⟨hE, k, hbd, hsi⟩ hJ
    simp [H72_l0, show (i : Int) ≤ 4 by omega]
    refine loop_for (β := Lv × Bool) (b := (o, false)) L.length (fun j s => (Value.bool s.2, Value.int .i64 j)) (fun j s σ' => Ext σ σ' ∧ Has σ' σ.size ⟨1, arrI s.1⟩ ∧ Bd s.1 (18 * i + 3 * j) ∧ s = (L.take j).foldl passR (o, false)) ⟨hE, k, by simpa using hbd, rfl⟩ ?_ ?_
    · rintro J1 j s σ' hj ⟨hE, k, hbd, hs⟩ hJ1
      simp [H72_l1, hj]
      have hbj := hb _ (List.getElem_mem hj)
      refine loop_for (β := Lv × Bool) (b := s) L[j].b.length (fun n s => (Value.bool s.2, Value.int .i64 n)) (fun n s' σ' => Ext σ σ' ∧ Has σ' σ.size ⟨1, arrI s'.1⟩ ∧ Bd s'.1 (18 * i + 3 * j + n) ∧ s' = (L[j].b.take n).foldl (up L[j].h.p) s) ⟨hE, k, by simpa using hbd, rfl⟩ ?_ ?_
      · rintro J2 n s' σ' hn ⟨hE, k, hbd, hs'⟩ hJ2
        obtain ⟨b, o', v, f, rfl, hc, hbl, hv, hrd, c0, c4⟩ := Rus.at_ (h.ext RRu_gd hE) hj
        obtain ⟨a2, n2, rfl⟩ := hv.len
        obtain ⟨b3, o3, rfl, hc3, hbl3, hrd3, d0, d1, d2, d3⟩ := Ats.at_ hv hn
        obtain ⟨hp, hp4, ha4⟩ := okP_at ho hj hn
        have hw := wrap_suc hn (by omega)
        have hbd2 := hbd L[j].b[n].p
        have hwn : IntKind.i64.wrap (s'.1 L[j].b[n].p + 1) = s'.1 L[j].b[n].p + 1 := w64 (by omega) (by omega)
        have hbB : σ'.base ≤ σ.size := by rw [hE.base]; exact σ.hle
        have qp := hp4.rg
        have qa := ha4.rg
        have hnext := hbd.up1 L[j].h.p L[j].b[n]
        have hf := foldl_take1 (up L[j].h.p) s hn
        rw [← hs'] at hf
        have q1 : L[j].h.p.toNat + 1 ≤ 4 := by omega
        have wr : ∀ m, nd s'.1 L[j].b[n] = m → s'.1 L[j].h.p < m → J2 (.bool true, .int .i64 ((n : Int) + 1)) (σ'.put σ.size (arrI fun v => if v = L[j].h.p then m else s'.1 v)) := fun m hm hlt => by
          have e : up L[j].h.p s' L[j].b[n] = (fun v => if v = L[j].h.p then m else s'.1 v, true) := by unfold up; rw [hm, if_pos hlt]
          rw [e] at hnext
          have hx := hJ2 (up L[j].h.p s' L[j].b[n]) (σ'.put σ.size (arrI fun v => if v = L[j].h.p then m else s'.1 v)) (by
            rw [e]
            exact ⟨Ext.put hE (Nat.le_refl _) _, ⟨by simp [k.1], k.2⟩, by simpa [Int.add_assoc] using hnext, by rw [hf, e]⟩)
          rw [e] at hx
          exact hx
        have no : ∀ m, nd s'.1 L[j].b[n] = m → ¬ s'.1 L[j].h.p < m → J2 (.bool s'.2, .int .i64 ((n : Int) + 1)) σ' := fun m hm hlt => by
          have e : up L[j].h.p s' L[j].b[n] = s' := by unfold up; rw [hm, if_neg hlt]
          exact hJ2 s' _ ⟨hE, k, (hbd.mono (by omega)), by rw [hf, e]⟩
        cases hnot : L[j].b[n].n
        · have em : nd s'.1 L[j].b[n] = s'.1 L[j].b[n].p := by simp [nd, hnot]
          by_cases hlt : s'.1 L[j].h.p < s'.1 L[j].b[n].p
          · simp [H72_l2, hj, hn, c0, c4, d0, d3, k.1, arrI_get, arrI_set, arrI_len, hp4, ha4, qp, qa, hnot, hlt, hbB, q1, hw]
            exact wr _ em hlt
          · simp [H72_l2, hj, hn, c0, c4, d0, d3, k.1, arrI_get, arrI_set, arrI_len, hp4, ha4, qp, qa, hnot, hlt, hw]
            exact no _ em hlt
        · have em : nd s'.1 L[j].b[n] = s'.1 L[j].b[n].p + 1 := by simp [nd, hnot]
          by_cases hlt : s'.1 L[j].h.p < s'.1 L[j].b[n].p + 1
          · simp [H72_l2, hj, hn, c0, c4, d0, d3, k.1, arrI_get, arrI_set, arrI_len, hp4, ha4, qp, qa, hnot, hlt, hbB, q1, hw, hwn]
            exact wr _ em hlt
          · simp [H72_l2, hj, hn, c0, c4, d0, d3, k.1, arrI_get, arrI_set, arrI_len, hp4, ha4, qp, qa, hnot, hlt, hw, hwn]
            exact no _ em hlt
      · rintro J2 s' σ' ⟨hE, k, hbd, hs'⟩
        obtain ⟨b, o', v, f, rfl, hc, hbl, hv, hrd, c0, c4⟩ := Rus.at_ (h.ext RRu_gd hE) hj
        obtain ⟨a2, n2, rfl⟩ := hv.len
        have hw := wrap_suc hj (by omega)
        simp [H72_l2, hj, c4, hw]
        refine hJ1 s' _ ⟨hE, k, hbd.mono (by omega), ?_⟩
        rw [foldl_take1 _ _ hj, ← hs, hs', List.take_of_length_le (Nat.le_refl _)]; rfl
    · rintro J1 s σ' ⟨hE, k, hbd, hs⟩
      rw [List.take_of_length_le (Nat.le_refl _)] at hs
      have hs : s = pass o L := hs
      have hw := wrap_suc hi (by omega)
      cases hch : s.2
      · simp [H72_l1, hch]
        refine hK _ _ ⟨hE, ?_⟩
        have : sIt L 5 o0 = some s.1 := by
          rw [hsi, show 5 - i = (4 - i) + 1 by omega]
          unfold sIt
          rw [← hs, hch]; rfl
        rw [this]
        exact ⟨[σ.size], IntsF.flat (xs := lv4 s.1) (by simp [lv4]) (by omega) k.2 (by rw [k.1]) (by rw [k.1]; rfl), by simp, by simp⟩
      · simp [H72_l1, hch, hw]
        refine hJ s.1 _ ⟨hE, k, hbd.mono (by omega), ?_⟩
        rw [hsi, show 5 - i = (5 - (i + 1)) + 1 by omega, sIt, ← hs, hch]; rfl
  · rintro J o σ' ⟨hE, k, hbd, hsi⟩
    simp [H72_l0, fillA, zeroRow]
    refine hK _ _ ⟨hE.pushed _, ?_⟩
    rw [hsi]
    exact ⟨[], ⟨.inl ⟨rfl, rfl, _, 0, rfl, fun _ => rfl⟩⟩, Fresh.nil _⟩
def okPr (L : List Ru) : Bool := L.all okRu && decide (L.length ≤ 6) && (sIt L 5 o0).isSome
theorem okRu_len {x : Ru} (h : okRu x = true) : x.b.length ≤ 3 := by
  simp only [okRu, Bool.and_eq_true] at h
  have := h.1.2
  simp [inR] at this
  omega
theorem okP_of {L : List Ru} (h : L.all okRu = true) : OkP (prs L) := by
  intro p hp
  unfold prs at hp
  obtain ⟨r, hr, hp⟩ := List.mem_flatMap.1 hp
  obtain ⟨a, ha, rfl⟩ := List.mem_map.1 hp
  have h1 := List.all_eq_true.1 h r hr
  simp only [okRu, Bool.and_eq_true] at h1
  have h2 := List.all_eq_true.1 h1.2 a ha
  have h3 := h1.1.1.1.1.1.1
  have h4 := h1.1.1.1.1.2
  simp only [okBo, Bool.and_eq_true] at h2
  have h5 := h2.1.1
  simp [okAt, inR] at h3 h4 h5
  simp only
  omega
theorem lens_of {L : List Ru} (h : L.all okRu = true) : ∀ r ∈ L, r.b.length ≤ 3 := fun r hr => okRu_len (List.all_eq_true.1 h r hr)
theorem validProgram_ok {σ : Heap} {s : Value} {L : List Ru} {fp : List Nat} (h : Rus σ s L fp) (hL : L.length ≤ 9223372036854775807) (hb : ∀ r ∈ L, r.b.length ≤ 9223372036854775807) : ACalls Try.prog w0 71 [s] σ fun v σ' => v = .bool (okPr L) ∧ Ext σ σ' := by
  refine go71 fun K hK => ?_
  obtain ⟨a, c, rfl⟩ := h.len
  refine loop_for0 L.length (fun i σ' => Ext σ σ' ∧ (L.take i).all okRu = true) ⟨Ext.refl _, by simp⟩ ?_ ?_
  · rintro J i σ' hlt ⟨hE, hall⟩ hJ
    obtain ⟨b, o', v, f, rfl, hc, hbl, hv, hrd, c0, c4⟩ := Rus.at_ (h.ext RRu_gd hE) hlt
    have hw := wrap_suc hlt hL
    simp [H71_l0, hlt, hrd]
    refine ret_ext (sRule_ok hv (hb _ (List.getElem_mem hlt))) fun σ2 hE2 => ?_
    cases hr : okRu L[i]
    · simp
      exact hK _ _ ⟨by rw [okPr, all_no hlt hr]; rfl, hE.trans hE2⟩
    · simp [hw]
      exact hJ _ ⟨hE.trans hE2, all_snoc hlt hall hr⟩
  · rintro J σ' ⟨hE, hall⟩
    have hall := all_end (Nat.le_refl _) hall
    by_cases h6 : L.length ≤ 6
    · simp [H71_l0, show (L.length : Int) ≤ 6 by omega]
      refine (strata_ok (h.ext RRu_gd hE) (okP_of hall) h6 (lens_of hall)).mono ?_
      rintro v σ2 ⟨hE2, f, hf, _⟩
      obtain ⟨a2, c2, rfl⟩ := hf.len
      have e : okPr L = (sIt L 5 o0).isSome := by simp [okPr, hall, h6]
      cases hs : sIt L 5 o0 with
      | none =>
        rw [hs] at e
        simp
        exact hK _ _ ⟨by rw [e]; rfl, hE.trans hE2⟩
      | some o =>
        rw [hs] at e
        simp [lv4]
        exact hK _ _ ⟨by rw [e]; rfl, hE.trans hE2⟩
    · simp [H71_l0, show ¬ (L.length : Int) ≤ 6 by omega]
      exact hK _ _ ⟨by simp [okPr, h6], hE⟩
theorem sValidProgram_ok {σ : Heap} {s : Value} {L : List Ru} {fp : List Nat} (h : Rus σ s L fp) (hL : L.length ≤ 9223372036854775807) (hb : ∀ r ∈ L, r.b.length ≤ 9223372036854775807) : ACalls Try.prog w0 49 [s] σ fun v σ' => v = .bool (okPr L) ∧ Ext σ σ' := by
  refine go49 fun K hK => ?_
  simp [H49]
  refine ret_ext (validProgram_ok h hL hb) fun σ2 hE2 => ?_
  simp
  exact hK _ _ ⟨rfl, hE2⟩
theorem foldl_none {α β : Type} {f : Option β → α → Option β} (hf : ∀ a, f none a = none) : ∀ l : List α, l.foldl f none = none
  | [] => rfl
  | a :: l => by rw [List.foldl_cons, hf]; exact foldl_none hf l
theorem foldl_dead {α β : Type} {f : Option β → α → Option β} (hf : ∀ a, f none a = none) {L : List α} {i : Nat} {s : Option β} (h : (L.take i).foldl f s = none) : L.foldl f s = none := by
  rw [← List.take_append_drop i L, List.foldl_append, h]; exact foldl_none hf _
theorem passRF_none (r : Ru) : passRF none r = none := foldl_none (fun a => rfl) _
theorem upF_some (h : Int) (s : Lv × Bool) (a : At) : upF h (some s) a = if 3 < nd s.1 a then none else some (up h s a) := rfl
/-- What strataOf answers. -/
def StQ (L : List Ru) (σ : Heap) (v : Value) (σ' : Heap) : Prop := Ext σ σ' ∧ if okPr L = true then ∃ w f, v = .tuple #[w, .bool true] ∧ IntsF σ' w ((sIt L 5 o0).elim [] lv4) f ∧ Fresh σ f else v = .tuple #[.slice none 0 0, .bool false]
theorem strataOf_ok {σ : Heap} {s : Value} {L : List Ru} {fp : List Nat} (h : Rus σ s L fp) (hL : L.length ≤ 9223372036854775807) (hb : ∀ r ∈ L, r.b.length ≤ 9223372036854775807) : ACalls Try.prog w0 70 [s] σ fun v σ' => StQ L σ v σ' := by
  refine go70 fun K hK => ?_
  obtain ⟨a, c, rfl⟩ := h.len
  have hno : okPr L = false → ∀ σ', Ext σ σ' → K (.tuple #[.slice none 0 0, .bool false]) σ' := fun hf σ' hE => hK _ _ ⟨hE, by rw [hf]; rfl⟩
  by_cases h6 : 6 < (L.length : Int)
  · simp [H70, h6]
    exact hno (by simp [okPr]; omega) _ (Ext.refl _)
  simp [H70, h6]
  refine loop_for0 L.length (fun i σ' => Ext σ σ' ∧ (L.take i).all okRu = true) ⟨Ext.refl _, by simp⟩ ?_ ?_
  · rintro J i σ' hlt ⟨hE, hall⟩ hJ
    obtain ⟨b, o', v, f, rfl, hc, hbl, hv, hrd, c0, c4⟩ := Rus.at_ (h.ext RRu_gd hE) hlt
    obtain ⟨a2, n2, rfl⟩ := hv.len
    have hw := wrap_suc hlt hL
    have hbs := σ'.hle
    obtain ⟨σ2, e2, hE2, hl2, _, _, _⟩ := boxed σ' ⟨5, L[i].h.cs ++ [.slice a2 L[i].b.length n2]⟩
    simp only [List.cons_append, List.nil_append] at e2 hl2
    simp [H70_l3, hlt, hrd, hbs, setCells, ← e2, hl2]
    refine ret_ext (iRule_ok (hv.ext RAt_gd hE2) (hb _ (List.getElem_mem hlt))) fun σ3 hE3 => ?_
    have hE3 := (hE.trans hE2).trans hE3
    cases hr : okRu L[i]
    · simp
      exact hno (by rw [okPr, all_no hlt hr]; rfl) _ hE3
    · simp [hw]
      exact hJ _ ⟨hE3, all_snoc hlt hall hr⟩
  rintro J σ1 ⟨hE1, hall⟩
  have hall := all_end (Nat.le_refl _) hall
  have ho := okP_of hall
  have hlens := lens_of hall
  have hL6 : L.length ≤ 6 := by omega
  have heq := sIt_iIt ho
  have hokp : okPr L = (iIt L 13 o0).isSome := by simp [okPr, hall, hL6, heq]
  obtain ⟨σ2, e2, hE2, hl2, hb2, hs2, _⟩ := boxed σ1 ⟨1, arrI o0⟩
  have k2 := boxed_has hl2 hs2
  have e2' := e2
  simp only [arrI, o0] at e2'
  have hEB : σ.size ≤ σ1.size := hE1.size
  simp [H70_l3, zeroRow, ← e2']
  refine loop_count (fun k s σ' => (∃ o n, k = n + 1 ∧ s = .bool true ∧ Ext σ σ' ∧ Has σ' σ1.size ⟨1, arrI o⟩ ∧ Bd o 3 ∧ iIt L 13 o0 = iIt L n o ∧ 13 ≤ n + (o 2 + o 3)) ∨ (∃ o, k = 0 ∧ s = .bool false ∧ Ext σ σ' ∧ Has σ' σ1.size ⟨1, arrI o⟩ ∧ iIt L 13 o0 = some o)) 14 (.inl ⟨o0, 13, rfl, rfl, hE1.trans hE2, k2, fun v => by simp [o0], rfl, by simp [o0]⟩) ?_
  rintro J hJ k s σ' (⟨o, n, rfl, rfl, hE, kk, hbd, hit, hsum⟩ | ⟨o, rfl, rfl, hE, kk, hit⟩)
  case inr =>
    simp [H70_l0]
    refine hK _ _ ⟨hE, ?_⟩
    rw [hokp, hit, if_pos (show (some o).isSome = true from rfl), heq, hit]
    exact ⟨_, [σ1.size], rfl, IntsF.flat (xs := lv4 o) (by simp [lv4]) (by omega) kk.2 (by rw [kk.1]) (by rw [kk.1]; rfl), by simp, by simpa using hEB⟩
  obtain ⟨n, rfl⟩ : ∃ m, n = m + 1 := ⟨n - 1, by have := hbd 2; have := hbd 3; omega⟩
  simp [H70_l0]
  have hdead : passF o L = none → okPr L = false := fun hf => by rw [hokp, hit, iIt, hf]; rfl
  refine loop_for (β := Lv × Bool) (b := (o, false)) L.length (fun j s => (Value.bool s.2, Value.int .i64 j)) (fun j s σ' => Ext σ σ' ∧ Has σ' σ1.size ⟨1, arrI s.1⟩ ∧ Bd s.1 3 ∧ some s = (L.take j).foldl passRF (some (o, false))) ⟨hE, kk, hbd, rfl⟩ ?_ ?_
  · rintro J1 j s σ' hj ⟨hE, kk, hbd, hs⟩ hJ1
    have hbj := hlens _ (List.getElem_mem hj)
    obtain ⟨b, o', v, f, rfl, hc, hbl, hv, hrd, c0, c4⟩ := Rus.at_ h hj
    obtain ⟨a2, n2, rfl⟩ := hv.len
    rw [← hE.blk b hbl] at hrd
    have hbs := σ'.hle
    obtain ⟨σr, er, hEr, hlr, _, hsr, _⟩ := boxed σ' ⟨5, L[j].h.cs ++ [.slice a2 L[j].b.length n2]⟩
    have kr := boxed_has hlr hsr
    simp only [List.cons_append, List.nil_append] at er
    have hrl := kk.2
    simp [H70_l1, hj, hrd, hbs, setCells, ← er, kr.1]
    refine loop_for (β := Lv × Bool) (b := s) L[j].b.length (fun n s => (Value.bool s.2, Value.int .i64 n)) (fun n s' σ'' => Ext σ σ'' ∧ Has σ'' σ1.size ⟨1, arrI s'.1⟩ ∧ Has σ'' σ'.size ⟨5, L[j].h.cs ++ [.slice a2 L[j].b.length n2]⟩ ∧ Bd s'.1 3 ∧ some s' = (L[j].b.take n).foldl (upF L[j].h.p) (some s)) ⟨hE.trans hEr, kk.ext hEr, kr, hbd, rfl⟩ ?_ ?_
    · rintro J2 n' s' σ'' hn ⟨hE, kk, kr, hbd, hs'⟩ hJ2
      obtain ⟨b3, o3, rfl, hc3, hbl3, hrd3, d0, d1, d2, d3⟩ := Ats.at_ (hv.ext RAt_gd hE) hn
      obtain ⟨hp, hp4, ha4⟩ := okP_at ho hj hn
      have hw := wrap_suc hn (by omega)
      have hbs := σ''.hle
      obtain ⟨σx, ex, hEx, hlx, hbx, hsx, hox⟩ := boxed σ'' ⟨4, L[j].b[n'].cs⟩
      have kk := kk.ext hEx
      have kr := kr.ext hEx
      have hE := hE.trans hEx
      have hbd2 := hbd L[j].b[n'].p
      have hbd3 := hbd L[j].h.p
      have hwn : IntKind.i64.wrap (s'.1 L[j].b[n'].p + 1) = s'.1 L[j].b[n'].p + 1 := w64 (by omega) (by omega)
      have hbB : σx.base ≤ σ1.size := by rw [hE.base]; have := σ.hle; omega
      have qp := hp4.rg
      have qa := ha4.rg
      have hf := foldl_take1 (upF L[j].h.p) (some s) hn
      rw [← hs'] at hf
      have q1 : L[j].h.p.toNat + 1 ≤ 4 := by omega
      have hne : σ'.size ≠ σ1.size := by omega
      have wr : ∀ m, nd s'.1 L[j].b[n'] = m → ¬ 3 < m → s'.1 L[j].h.p < m → J2 (.bool true, .int .i64 ((n' : Int) + 1)) (σx.put σ1.size (arrI fun v => if v = L[j].h.p then m else s'.1 v)) := fun m hm hm3 hlt => by
        have e : up L[j].h.p s' L[j].b[n'] = (fun v => if v = L[j].h.p then m else s'.1 v, true) := by unfold up; rw [hm, if_pos hlt]
        have hx := hJ2 (up L[j].h.p s' L[j].b[n']) (σx.put σ1.size (arrI fun v => if v = L[j].h.p then m else s'.1 v)) (by
          rw [e]
          refine ⟨Ext.put hE hEB _, ⟨by simp [kk.1], kk.2⟩, ⟨by rw [put_off _ _ hne]; exact kr.1, kr.2⟩, fun v => ?_, ?_⟩
          · have := hbd v
            simp only
            split <;> omega
          · rw [hf, upF_some, hm, if_neg hm3, e])
        rw [e] at hx
        exact hx
      have no : ∀ m, nd s'.1 L[j].b[n'] = m → ¬ 3 < m → ¬ s'.1 L[j].h.p < m → J2 (.bool s'.2, .int .i64 ((n' : Int) + 1)) σx := fun m hm hm3 hlt => by
        have e : up L[j].h.p s' L[j].b[n'] = s' := by unfold up; rw [hm, if_neg hlt]
        exact hJ2 s' _ ⟨hE, kk, kr, hbd, by rw [hf, upF_some, hm, if_neg hm3, e]⟩
      have dead : ∀ m, nd s'.1 L[j].b[n'] = m → 3 < m → K (.tuple #[.slice none 0 0, .bool false]) σx := fun m hm hm3 => by
        have e1 : (L[j].b.take (n' + 1)).foldl (upF L[j].h.p) (some s) = none := by rw [hf, upF_some, hm, if_pos hm3]
        have e2 : passRF (some s) L[j] = none := foldl_dead (fun a => rfl) e1
        have e3 : (L.take (j + 1)).foldl passRF (some (o, false)) = none := by rw [foldl_take1 _ _ hj, ← hs, e2]
        exact hno (hdead (foldl_dead passRF_none e3)) _ hE
      cases hnot : L[j].b[n'].n
      · simp only [At.cs, hnot] at ex hlx
        have em : nd s'.1 L[j].b[n'] = s'.1 L[j].b[n'].p := by simp [nd, hnot]
        have hm3 : ¬ 3 < s'.1 L[j].b[n'].p := by omega
        by_cases hlt : s'.1 L[j].h.p < s'.1 L[j].b[n'].p
        · simp [-Int.not_lt, -Int.not_le, H70_l2, hn, hrd3, hbs, setCells, ← ex, hlx, kk.1, kr.1, arrI_get, arrI_set, arrI_len, hp4, ha4, qp, qa, hnot, hm3, hlt, hbB, q1, hw]
          exact wr _ em hm3 hlt
        · simp [-Int.not_lt, -Int.not_le, H70_l2, hn, hrd3, hbs, setCells, ← ex, hlx, kk.1, kr.1, arrI_get, arrI_set, arrI_len, hp4, ha4, qp, qa, hnot, hm3, hlt, hw]
          exact no _ em hm3 hlt
      · simp only [At.cs, hnot] at ex hlx
        have em : nd s'.1 L[j].b[n'] = s'.1 L[j].b[n'].p + 1 := by simp [nd, hnot]
        by_cases hm3 : 3 < s'.1 L[j].b[n'].p + 1
        · simp [-Int.not_lt, -Int.not_le, H70_l2, hn, hrd3, hbs, setCells, ← ex, hlx, kk.1, kr.1, arrI_get, arrI_set, arrI_len, hp4, ha4, qp, qa, hnot, hm3, hwn]
          exact dead _ em hm3
        by_cases hlt : s'.1 L[j].h.p < s'.1 L[j].b[n'].p + 1
        · simp [-Int.not_lt, -Int.not_le, H70_l2, hn, hrd3, hbs, setCells, ← ex, hlx, kk.1, kr.1, arrI_get, arrI_set, arrI_len, hp4, ha4, qp, qa, hnot, hm3, hlt, hbB, q1, hw, hwn]
          exact wr _ em hm3 hlt
        · simp [-Int.not_lt, -Int.not_le, H70_l2, hn, hrd3, hbs, setCells, ← ex, hlx, kk.1, kr.1, arrI_get, arrI_set, arrI_len, hp4, ha4, qp, qa, hnot, hm3, hlt, hw, hwn]
          exact no _ em hm3 hlt
    · rintro J2 s' σ'' ⟨hE, kk, kr, hbd, hs'⟩
      have hw := wrap_suc hj hL
      simp [H70_l2, hw]
      refine hJ1 s' _ ⟨hE, kk, hbd, ?_⟩
      rw [foldl_take1 _ _ hj, ← hs, hs', List.take_of_length_le (Nat.le_refl _)]; rfl
  · rintro J1 s σ' ⟨hE, kk, hbd, hs⟩
    rw [List.take_of_length_le (Nat.le_refl _)] at hs
    have hs : passF o L = some s := hs.symm
    have hs3 : pass o L = s := by
      unfold passF at hs; unfold pass
      rw [passF_prs] at hs; rw [pass_prs]
      exact foldF_some _ _ _ hs
    cases hch : s.2
    · simp [H70_l1, hch]
      refine againH 0 (by omega) (hJ _ _ _ (.inr ⟨s.1, rfl, rfl, hE, kk, ?_⟩))
      rw [hit, iIt, hs, show s = (s.1, false) from Prod.ext rfl hch]
    · simp [H70_l1, hch]
      refine againH (n + 1) (by omega) (hJ _ _ _ (.inl ⟨s.1, n, rfl, rfl, hE, kk, hbd, ?_, ?_⟩))
      · rw [hit, iIt, hs, show s = (s.1, true) from Prod.ext rfl hch]
      · have hm : o 2 + o 3 < (pass o L).1 2 + (pass o L).1 3 := by
          have hc2 : (pass o L).2 = true := by rw [hs3]; exact hch
          unfold pass at hc2 ⊢
          rw [pass_prs] at hc2 ⊢
          exact fold_more _ _ ho rfl hc2
        rw [hs3] at hm
        omega
theorem iValidProgram_ok {σ : Heap} {s : Value} {L : List Ru} {fp : List Nat} (h : Rus σ s L fp) (hL : L.length ≤ 9223372036854775807) (hb : ∀ r ∈ L, r.b.length ≤ 9223372036854775807) : ACalls Try.prog w0 40 [s] σ fun v σ' => v = .bool (okPr L) ∧ Ext σ σ' := by
  refine go40 fun K hK => ?_
  simp [H40]
  refine (strataOf_ok h hL hb).mono ?_
  rintro v σ2 ⟨hE, hq⟩
  cases hp : okPr L
  · rw [hp] at hq
    simp at hq
    subst hq
    simp
    exact hK _ _ ⟨by rw [hp], hE⟩
  · rw [hp, if_pos rfl] at hq
    obtain ⟨w, f, rfl, _⟩ := hq
    simp
    exact hK _ _ ⟨by rw [hp], hE⟩
theorem sub_pos {left : Int} {n : Nat} (h0 : 0 ≤ left) : (¬ sub left n < 0) ↔ (n : Int) ≤ left := by
  unfold sub; split <;> omega
theorem tots_mem {α : Type} {tot : α → Nat} {xs : List α} {x : α} (h : x ∈ xs) : tot x ≤ tots tot xs := by
  obtain ⟨i, hi, rfl⟩ := List.mem_iff_getElem.1 h
  have := tots_take (tot := tot) hi
  have := tots_le tot xs (i + 1)
  unfold tots
  omega
theorem lawProgram_ok {σ : Heap} {s : Value} {L : List Ru} {fp : List Nat} (h : Rus σ s L fp) (hL : L.length ≤ 9223372036854775807) (hx : ∀ x ∈ L, x.b.length ≤ 9223372036854775807) : ACalls Try.prog w0 14 [s] σ fun v σ' => v = .bool true := by
  refine go14 fun K hK => ?_
  simp [H14]
  refine ret_ext (szRuleS_ok h hL hx (by omega) (by omega)) fun σ1 hE1 => ?_
  by_cases hs : sub 1048576 (tots (fun x : Ru => x.b.length) L) < 0
  · simp [hs]
    exact hK _ _ rfl
  have hsz := (sub_pos (by omega)).1 hs
  have hl : L.length ≤ 1048576 := by unfold tots at hsz; omega
  have hxl : ∀ x ∈ L, x.b.length ≤ 1048576 := fun x hx => by
    have := tots_mem (tot := fun x : Ru => x.b.length) hx
    omega
  simp [hs]
  have h1 := h.ext RRu_gd hE1
  refine (toRuleS_ok h1 hl hxl).mono ?_
  rintro v2 σ2 ⟨hE2, f2, h2, _⟩
  simp
  refine ret_ext (sValidProgram_ok h2 hL hx) fun σ3 hE3 => ?_
  simp
  refine (toRuleS_ok (h1.ext RRu_gd (hE2.trans hE3)) hl hxl).mono ?_
  rintro v4 σ4 ⟨hE4, f4, h4, _⟩
  simp
  refine ret_ext (iValidProgram_ok h4 hL hx) fun σ5 hE5 => ?_
  simp
  refine (toRuleS_ok (h1.ext RRu_gd (((hE2.trans hE3).trans hE4).trans hE5)) hl hxl).mono ?_
  rintro v6 σ6 ⟨hE6, f6, h6, _⟩
  simp
  refine ret_ext (eqRuleS_ok (h4.ext RRu_gd (hE5.trans hE6)) h6 hL hxl) fun σ7 hE7 => ?_
  simp
  exact hK _ _ rfl
end Go.Proofs.Ytennnifijepfhaa
