/- Copying, comparing and measuring slices, for code of one shape with any element: each is proved once. -/
import Derived.Test.YtennnifijepfhaaAhO
namespace Go.AH
open Go Go.RowKit
set_option linter.unusedVariables false
set_option linter.unusedSimpArgs false
variable {α : Type} {R : Heap → α → List Value → List Nat → Prop} {sz : Nat} {P : Program} {w0 : World}
/-- An element as a frame holds it. -/
def elV (agg : Bool) (cs : List Value) : Value := if agg = true then .agg cs.toArray else cs.headD (.bool false)
theorem elV_part {l : List Value} {o n : Nat} {agg : Bool} {cs : List Value} (ha : agg = true ∨ n = 1) (h : readCells l o n = some cs) : partA l o n agg = some (elV agg cs) := by
  cases agg with
  | true => simp [partA, h, elV]
  | false =>
    have : n = 1 := by simpa using ha
    subst this
    unfold readCells at h
    split at h
    · rename_i hl
      simp only [Option.some.injEq] at h
      subst h
      have ho : o < l.length := by omega
      simp only [partA, elV]
      rw [if_neg (by simp), if_neg (by simp), List.getElem?_eq_getElem ho, List.drop_eq_getElem_cons ho]
      rfl
    · cases h
theorem elV_cells {cs : List Value} {n : Nat} {agg : Bool} (ha : agg = true ∨ n = 1) (hc : cs.length = n) (ho : cs.all one = true) : vcells (elV agg cs) = cs := by
  cases agg with
  | true => simp [elV, vcells]
  | false =>
    have : n = 1 := by simpa using ha
    subst this
    match cs, hc with
    | [c], _ =>
      simp only [elV, if_neg (show ¬ (false = true) by simp), List.headD]
      simp at ho
      cases c <;> first | rfl | cases ho
theorem put_esz (σ : Heap) (i j : Nat) (cs : List Value) : ((σ.put i cs).blk j).esz = (σ.blk j).esz := by
  simp only [Heap.put]; split
  · rename_i h; subst h; rfl
  · rfl
/-- A loop that copies a slice, element by element, by a function g. -/
def toF (esz bytes : Nat) (z : List Value) (agg : Bool) (g : FuncId) : AFun := ⟨23, (.seq (.region [⟨(some 2), none, (.op (.mov (.c (.slice none 0 0)))), []⟩]) (.seq (.region [⟨(some 5), none, (.op (.mov (.t 0))), []⟩, ⟨(some 6), none, (.op (.len (.t 5))), []⟩, ⟨(some 7), none, (.op (.mk esz bytes z (.t 6) (.t 6))), []⟩, ⟨(some 3), none, (.op (.mov (.t 7))), []⟩]) (.seq (.seq (.region [⟨(some 4), none, (.op (.mov (.c (.int .i64 0)))), []⟩]) (.block 0 (.loop (.seq (.seq (.region [⟨(some 8), none, (.op (.mov (.t 4))), []⟩, ⟨(some 9), none, (.op (.mov (.t 0))), []⟩, ⟨(some 10), none, (.op (.len (.t 9))), []⟩, ⟨(some 11), none, (.op (.bin .lss (.t 8) (.t 10))), []⟩]) (.cond (.t 11) .skip (.exit 0))) (.seq (.block 1 (.region [⟨(some 14), none, (.op (.mov (.t 3))), []⟩, ⟨(some 15), none, (.op (.mov (.t 4))), []⟩, ⟨(some 16), none, (.op (.mov (.t 0))), []⟩, ⟨(some 17), none, (.op (.mov (.t 4))), []⟩, ⟨(some 18), none, (.op (.iaddr esz (.t 16) (.t 17))), []⟩, ⟨(some 19), none, (.op (.load esz agg (.t 18))), []⟩, ⟨(some 20), none, (.call g [(.t 19)]), []⟩, ⟨(some 21), none, (.op (.iaddr esz (.t 14) (.t 15))), []⟩, ⟨none, none, (.op (.store esz (.t 21) (.t 20))), []⟩])) (.region [⟨(some 12), none, (.op (.mov (.t 4))), []⟩, ⟨(some 13), none, (.op (.bin .add (.t 12) (.c (.int .i64 1)))), []⟩, ⟨(some 4), none, (.op (.mov (.t 13))), []⟩])))))) (.seq (.region [⟨(some 22), none, (.op (.mov (.t 3))), []⟩, ⟨(some 2), none, (.op (.mov (.t 22))), []⟩]) .ret)))), [(.tmp 2)]⟩
theorem toF_ok (hm : P.follows .mixedOrders = true) {f : FuncId} {fn : Func} {F : AFun} {bytes : Nat} {z : List Value} {agg : Bool} {g : FuncId}
    (hf : P.funcs[f]? = some fn) (hF : compFun P fn = some F) (hT : F = toF sz bytes z agg g) (hG : Gd R) (hz : 0 < sz) (hzl : z.length = sz) (hag : agg = true ∨ sz = 1) (hb : 0 < bytes) {ok : α → Prop}
    (hcal : ∀ (σ : Heap) x cs f, R σ x cs f → cs.length = sz → ok x → ACalls P w0 g [elV agg cs] σ fun v σ' => Ext σ σ' ∧ ∃ cs' f', v = elV agg cs' ∧ cs'.length = sz ∧ R σ' x cs' f' ∧ Fresh σ f')
    {σ : Heap} {v : Value} {xs : List α} {fp : List Nat} (h : SlF R sz σ v xs fp) (hn : xs.length * bytes ≤ 281474976710656) (hok : ∀ x ∈ xs, ok x) :
    ACalls P w0 f [v] σ fun v' σ' => Ext σ σ' ∧ ∃ fp', SlF R sz σ' v' xs fp' ∧ Fresh σ fp' := by
  subst hT
  refine acalls_go hm hf hF (Nat.le_of_ble_eq_true rfl) fun K hK => ?_
  obtain ⟨a, c, rfl⟩ := h.len
  have hn' : (xs.length : Int) * (bytes : Int) ≤ 281474976710656 := by have := Int.ofNat_le.2 hn; rw [Int.natCast_mul] at this; exact this
  have hxl : xs.length ≤ 281474976710656 := by
    have := Nat.mul_le_mul_left xs.length (show 1 ≤ bytes from hb)
    omega
  simp [toF, hn', hb]
  refine AWp_count (fun r fr σ' => ∃ i : Nat, i + r = xs.length ∧ fr 0 = .slice a xs.length c ∧ fr 3 = .slice (some ⟨σ.size, 0, none⟩) xs.length xs.length ∧ fr 4 = .int .i64 i ∧
    Ext σ σ' ∧ σ.size < σ'.size ∧ (σ'.blk σ.size).esz = sz ∧ (σ'.blk σ.size).cells.length = xs.length * sz ∧ ∃ fps : List (List Nat), fps.length = i ∧ Fresh σ (σ.size :: fps.flatten) ∧ (∀ q ∈ fps.flatten, q < σ'.size) ∧
    ∀ j x f, xs[j]? = some x → fps[j]? = some f → ∃ cs, cs.length = sz ∧ R σ' x cs f ∧ ∀ q c', cs[q]? = some c' → (σ'.blk σ.size).cells[j * sz + q]? = some c') xs.length
    ⟨0, by simp, by simp, by simp, by simp, Ext.push _ _, by simp, by simp only [push_new], by simp only [push_new]; rw [zeroRow_length, hzl], [], rfl, ⟨by simp, by simp⟩, by simp, fun j x f _ hf => by simp at hf⟩ ?_
  rintro J hJ r fr σ' ⟨i, hi, h0, h3, h4, hE, hS, hes, hcl, fps, hfl, hfr, hfi, hall⟩
  by_cases hlt : i < xs.length
  · obtain ⟨b, o, c', cs, f0, e, hc, hbs, _, hcs, hR, hrd, _, _⟩ := (h.ext hG hE).at_ hz hlt
    cases e
    have hpart := elV_part hag hrd
    simp [h0, h3, h4, hlt, hpart]
    refine (hcal _ _ _ _ hR hcs (hok _ (List.getElem_mem _))).mono ?_
    rintro v2 σ2 ⟨hE2, cs', f', rfl, hcs', hR', hfr'⟩
    have hcells := elV_cells hag hcs' (hG.ok hR')
    have hB : σ2.blk σ.size = σ'.blk σ.size := hE2.blk _ hS
    have hbase : σ2.base ≤ σ.size := by rw [hE2.base, hE.base]; exact σ.hle
    have hroom : i * sz + sz ≤ xs.length * sz := by
      have := Nat.mul_le_mul_right sz (show i + 1 ≤ xs.length from hlt)
      rw [Nat.add_mul, Nat.one_mul] at this
      exact this
    have hone := hG.ok hR'
    have hokc : okCells (elV agg cs') = true := by unfold okCells; rw [hcells]; exact hone
    have hw : IntKind.i64.wrap ((i : Int) + 1) = ((i + 1 : Nat) : Int) := by rw [w64 (by omega) (by omega)]; rfl
    simp [hcells, hcs', hB, hbase, hcl, hroom, hz, hw, h4, hlt, h0, h3, hokc, - vcells, - okCells]
    have hE3 : Ext σ (σ2.put σ.size (setCells (σ'.blk σ.size).cells (i * sz) cs')) := (hE.trans hE2).put (Nat.le_refl _) _
    have hnf' : σ.size ∉ f' := fun hm => by have := hfr'.2 _ hm; omega
    have hnf : σ.size ∉ fps.flatten := (List.nodup_cons.1 hfr.1).1
    refine .mk (r - 1) (by omega) (hJ _ _ _ ⟨i + 1, by omega, by simp [h0], by simp [h3], by simp, hE3, by simpa using Nat.lt_of_lt_of_le hS hE2.size, by rw [put_esz, hB]; exact hes, by simp [setCells_length, hcl], fps ++ [f'], by simp [hfl], ?_, ?_, ?_⟩)
    · have hfm : fps.flatten ++ f' = (fps ++ [f']).flatten := by simp
      rw [← hfm, ← List.cons_append]
      refine hfr.append hfr' hE.size fun q hq => ?_
      simp only [List.mem_cons] at hq
      rcases hq with rfl | hq
      · exact hS
      · exact hfi q hq
    · intro q hq
      simp only [List.flatten_append, List.mem_append] at hq
      show q < σ2.size
      rcases hq with hq | hq
      · exact Nat.lt_of_lt_of_le (hfi q hq) hE2.size
      · exact hG.ins hR' q (by simpa using hq)
    · intro j x f hx hf
      by_cases hj : j < i
      · rw [List.getElem?_append_left (by omega)] at hf
        obtain ⟨cs2, g1, g2, g3⟩ := hall j x f hx hf
        have hmem : ∀ q ∈ f, q ∈ fps.flatten := fun q hq => mem_flatten_of hf hq
        refine ⟨cs2, g1, hG.fr g2 (by simp [hE2.base]) (by simpa using hE2.size) fun q hq => ?_, fun q c' hq => ?_⟩
        · have : q ≠ σ.size := fun e => hnf (e ▸ hmem q hq)
          rw [put_off _ _ this]
          exact hE2.blk q (hfi q (hmem q hq))
        · have hq' : q < sz := by have := (List.getElem?_eq_some_iff.1 hq).1; omega
          have hji : j * sz + sz ≤ i * sz := by
            have := Nat.mul_le_mul_right sz (show j + 1 ≤ i from hj)
            rw [Nat.add_mul, Nat.one_mul] at this
            exact this
          rw [put_at]
          simp only
          rw [setCells_get _ _ _ _ (by rw [hcs', hcl]; exact hroom), if_neg (by omega)]
          exact g3 q c' hq
      · have hji : j = i := by
          have := (List.getElem?_eq_some_iff.1 hf).1
          simp at this
          omega
        subst hji
        rw [List.getElem?_append_right (by omega), hfl] at hf
        simp at hf
        subst hf
        rw [List.getElem?_eq_getElem hlt] at hx
        cases hx
        refine ⟨cs', hcs', hG.fr hR' (by simp) (Nat.le_refl _) fun q hq => ?_, fun q c' hq => ?_⟩
        · exact put_off _ _ fun e => hnf' (e ▸ hq)
        · have hq' : q < sz := by have := (List.getElem?_eq_some_iff.1 hq).1; omega
          rw [put_at]
          simp only
          rw [setCells_get _ _ _ _ (by rw [hcs', hcl]; exact hroom), if_pos (by omega), show j * sz + q - j * sz = q by omega]
          exact hq
  · simp [h0, h3, h4, hlt]
    refine hK _ _ ⟨hE, ?_⟩
    by_cases hp : xs = []
    · exact ⟨[], ⟨.inl ⟨hp, rfl, _, _, by rw [hp]; rfl, fun h => by cases h⟩⟩, Fresh.nil _⟩
    have hp' : 0 < xs.length := List.length_pos_iff.2 hp
    refine ⟨_, ⟨.inr ⟨hp', σ.size, 0, xs.length, fps, rfl, hp', hS, fun _ => hes, rfl, by omega, fun j x f hx hf => ?_⟩⟩, hfr⟩
    obtain ⟨cs2, g1, g2, g3⟩ := hall j x f hx hf
    exact ⟨cs2, g1, g2, fun q c' hq => by rw [Nat.zero_add]; exact g3 q c' hq⟩

/-- A loop that compares two slices, element by element, by a function g. -/
def eqF (esz : Nat) (agg : Bool) (g : FuncId) : AFun := ⟨27, (.seq (.region [⟨(some 4), none, (.op (.mov (.c (.bool false)))), []⟩]) (.seq (.seq (.region [⟨(some 6), none, (.op (.mov (.t 0))), []⟩, ⟨(some 7), none, (.op (.len (.t 6))), []⟩, ⟨(some 8), none, (.op (.mov (.t 1))), []⟩, ⟨(some 9), none, (.op (.len (.t 8))), []⟩, ⟨(some 10), none, (.op (.bin .neq (.t 7) (.t 9))), []⟩]) (.cond (.t 10) (.seq (.region [⟨(some 4), none, (.op (.mov (.c (.bool false)))), []⟩]) .ret) .skip)) (.seq (.seq (.region [⟨(some 5), none, (.op (.mov (.c (.int .i64 0)))), []⟩]) (.block 0 (.loop (.seq (.seq (.region [⟨(some 11), none, (.op (.mov (.t 5))), []⟩, ⟨(some 12), none, (.op (.mov (.t 0))), []⟩, ⟨(some 13), none, (.op (.len (.t 12))), []⟩, ⟨(some 14), none, (.op (.bin .lss (.t 11) (.t 13))), []⟩]) (.cond (.t 14) .skip (.exit 0))) (.seq (.block 1 (.seq (.region [⟨(some 17), none, (.op (.mov (.t 0))), []⟩, ⟨(some 18), none, (.op (.mov (.t 5))), []⟩, ⟨(some 19), none, (.op (.iaddr esz (.t 17) (.t 18))), []⟩, ⟨(some 20), none, (.op (.load esz agg (.t 19))), []⟩, ⟨(some 21), none, (.op (.mov (.t 1))), []⟩, ⟨(some 22), none, (.op (.mov (.t 5))), []⟩, ⟨(some 23), none, (.op (.iaddr esz (.t 21) (.t 22))), []⟩, ⟨(some 24), none, (.op (.load esz agg (.t 23))), []⟩, ⟨(some 25), none, (.call g [(.t 20), (.t 24)]), []⟩, ⟨(some 26), none, (.op (.un .not (.t 25))), []⟩]) (.cond (.t 26) (.seq (.region [⟨(some 4), none, (.op (.mov (.c (.bool false)))), []⟩]) .ret) .skip))) (.region [⟨(some 15), none, (.op (.mov (.t 5))), []⟩, ⟨(some 16), none, (.op (.bin .add (.t 15) (.c (.int .i64 1)))), []⟩, ⟨(some 5), none, (.op (.mov (.t 16))), []⟩])))))) (.seq (.region [⟨(some 4), none, (.op (.mov (.c (.bool true)))), []⟩]) .ret)))), [(.tmp 4)]⟩
theorem wrap_suc {i n : Nat} (h : i < n) (hn : n ≤ 9223372036854775807) : IntKind.i64.wrap ((i : Int) + 1) = (i : Int) + 1 := by rw [w64 (by omega) (by omega)]
theorem eqF_ok [DecidableEq α] (hm : P.follows .mixedOrders = true) {f : FuncId} {fn : Func} {F : AFun} {agg : Bool} {g : FuncId}
    (hf : P.funcs[f]? = some fn) (hF : compFun P fn = some F) (hT : F = eqF sz agg g) (hG : Gd R) (hz : 0 < sz) (hag : agg = true ∨ sz = 1) {ok : α → Prop}
    (hcal : ∀ (σ : Heap) x y cs f ds e, R σ x cs f → R σ y ds e → cs.length = sz → ds.length = sz → ok x → ACalls P w0 g [elV agg cs, elV agg ds] σ fun v σ' => v = .bool (decide (x = y)) ∧ Ext σ σ')
    {σ : Heap} {s t : Value} {L M : List α} {fp fq : List Nat} (h : SlF R sz σ s L fp) (k : SlF R sz σ t M fq) (hL : L.length ≤ 9223372036854775807) (hok : ∀ x ∈ L, ok x) :
    ACalls P w0 f [s, t] σ fun v σ' => v = .bool (decide (L = M)) ∧ Ext σ σ' := by
  subst hT
  refine acalls_go hm hf hF (Nat.le_of_ble_eq_true rfl) fun K hK => ?_
  obtain ⟨a, c, rfl⟩ := h.len
  obtain ⟨a', c', rfl⟩ := k.len
  by_cases hlen : L.length = M.length
  · simp [eqF, hlen]
    refine AWp_count (fun r fr σ' => ∃ i : Nat, i + r = L.length ∧ fr 0 = .slice a L.length c ∧ fr 1 = .slice a' M.length c' ∧ fr 5 = .int .i64 i ∧ Ext σ σ' ∧ L.take i = M.take i) L.length ⟨0, by simp, by simp [hlen], by simp, by simp, Ext.refl _, by simp⟩ ?_
    rintro J hJ r fr σ' ⟨i, hi, h0, h1, h5, hE, ht⟩
    by_cases hlt : i < L.length
    · have hltM : i < M.length := by omega
      obtain ⟨b, o, c2, cs, f0, e, hc, hb, _, hcs, hR, hrd, _⟩ := (h.ext hG hE).at_ hz hlt
      cases e
      obtain ⟨b', o', c3, ds, g0, e, hc', hb', _, hds, hR', hrd', _⟩ := (k.ext hG hE).at_ hz hltM
      cases e
      have hw := wrap_suc hlt hL
      have hp := elV_part hag hrd
      have hp' := elV_part hag hrd'
      simp [h0, h1, h5, hlt, hltM, hp, hp']
      refine (hcal _ _ _ _ _ _ _ hR hR' hcs hds (hok _ (List.getElem_mem _))).mono ?_
      rintro v σ2 ⟨rfl, hE2⟩
      by_cases hx : L[i] = M[i]
      · simp [hx, h5, hw]
        exact .mk (r - 1) (by omega) (hJ _ _ _ ⟨i + 1, by omega, by simp [h0], by simp [h1], by simp, hE.trans hE2, by
          rw [List.take_succ_eq_append_getElem hlt, List.take_succ_eq_append_getElem hltM, ht, hx]⟩)
      · simp [hx]
        refine hK _ _ ⟨?_, hE.trans hE2⟩
        rw [decide_eq_false]
        intro e
        subst e
        exact hx rfl
    · simp [h0, h1, h5, hlt, show ¬ i < M.length by omega]
      rw [List.take_of_length_le (by omega), List.take_of_length_le (by omega)] at ht
      exact hK _ _ ⟨by rw [decide_eq_true ht], hE⟩
  · simp [eqF, show ¬ (L.length : Int) = (M.length : Int) by omega]
    refine hK _ _ ⟨?_, Ext.refl _⟩
    rw [decide_eq_false]
    intro e
    subst e
    exact hlen rfl
/-- What is left of a purse, -1 if it is overdrawn. -/
def sub (left : Int) (n : Nat) : Int := if (n : Int) ≤ left then left - n else -1
def tots (tot : α → Nat) (xs : List α) : Nat := xs.length + (xs.map tot).sum
/-- The purse after a slice without more in its elements. -/
def szF0 : AFun := ⟨12, (.seq (.region [⟨(some 4), none, (.op (.mov (.c (.int .i64 0)))), []⟩]) (.seq (.region [⟨(some 5), none, (.op (.mov (.t 1))), []⟩, ⟨(some 6), none, (.op (.mov (.t 0))), []⟩, ⟨(some 7), none, (.op (.len (.t 6))), []⟩, ⟨(some 8), none, (.op (.bin .sub (.t 5) (.t 7))), []⟩, ⟨(some 1), none, (.op (.mov (.t 8))), []⟩]) (.seq (.seq (.region [⟨(some 9), none, (.op (.mov (.t 1))), []⟩, ⟨(some 10), none, (.op (.bin .lss (.t 9) (.c (.int .i64 0)))), []⟩]) (.cond (.t 10) (.seq (.region [⟨(some 4), none, (.op (.mov (.c (.int .i64 (-1))))), []⟩]) .ret) .skip)) (.seq (.region [⟨(some 11), none, (.op (.mov (.t 1))), []⟩, ⟨(some 4), none, (.op (.mov (.t 11))), []⟩]) .ret)))), [(.tmp 4)]⟩
theorem szF0_ok (hm : P.follows .mixedOrders = true) {f : FuncId} {fn : Func} {F : AFun} (hf : P.funcs[f]? = some fn) (hF : compFun P fn = some F) (hT : F = szF0) {σ : Heap} {a : Option Addr} {n c : Nat} (hn : n ≤ 9223372036854775807) {left : Int} (h0 : 0 ≤ left) (h1 : left ≤ 1048576) :
    ACalls P w0 f [.slice a n c, .int .i64 left] σ fun v σ' => v = .int .i64 (sub left n) ∧ σ' = σ := by
  subst hT
  refine acalls_go hm hf hF (Nat.le_of_ble_eq_true rfl) fun K hK => ?_
  have hw : IntKind.i64.wrap (left - n) = left - n := w64 (by omega) (by omega)
  by_cases h : (n : Int) ≤ left
  · simp [szF0, hw, show ¬ left - (n : Int) < 0 by omega]
    exact hK _ _ ⟨by simp [sub, h], rfl⟩
  · simp [szF0, hw, show left - (n : Int) < 0 by omega]
    exact hK _ _ ⟨by simp [sub, h], rfl⟩
/-- The purse after a slice with more in its elements. -/
def szF (esz : Nat) (agg : Bool) (g : FuncId) : AFun := ⟨27, (.seq (.region [⟨(some 4), none, (.op (.mov (.c (.int .i64 0)))), []⟩]) (.seq (.region [⟨(some 6), none, (.op (.mov (.t 1))), []⟩, ⟨(some 7), none, (.op (.mov (.t 0))), []⟩, ⟨(some 8), none, (.op (.len (.t 7))), []⟩, ⟨(some 9), none, (.op (.bin .sub (.t 6) (.t 8))), []⟩, ⟨(some 1), none, (.op (.mov (.t 9))), []⟩]) (.seq (.seq (.region [⟨(some 10), none, (.op (.mov (.t 1))), []⟩, ⟨(some 11), none, (.op (.bin .lss (.t 10) (.c (.int .i64 0)))), []⟩]) (.cond (.t 11) (.seq (.region [⟨(some 4), none, (.op (.mov (.c (.int .i64 (-1))))), []⟩]) .ret) .skip)) (.seq (.seq (.region [⟨(some 5), none, (.op (.mov (.c (.int .i64 0)))), []⟩]) (.block 0 (.loop (.seq (.seq (.region [⟨(some 12), none, (.op (.mov (.t 5))), []⟩, ⟨(some 13), none, (.op (.mov (.t 0))), []⟩, ⟨(some 14), none, (.op (.len (.t 13))), []⟩, ⟨(some 15), none, (.op (.bin .lss (.t 12) (.t 14))), []⟩]) (.cond (.t 15) .skip (.exit 0))) (.seq (.block 1 (.seq (.region [⟨(some 18), none, (.op (.mov (.t 0))), []⟩, ⟨(some 19), none, (.op (.mov (.t 5))), []⟩, ⟨(some 20), none, (.op (.iaddr esz (.t 18) (.t 19))), []⟩, ⟨(some 21), none, (.op (.load esz agg (.t 20))), []⟩, ⟨(some 22), none, (.op (.mov (.t 1))), []⟩, ⟨(some 23), none, (.call g [(.t 21), (.t 22)]), []⟩, ⟨(some 1), none, (.op (.mov (.t 23))), []⟩]) (.seq (.region [⟨(some 24), none, (.op (.mov (.t 1))), []⟩, ⟨(some 25), none, (.op (.bin .lss (.t 24) (.c (.int .i64 0)))), []⟩]) (.cond (.t 25) (.seq (.region [⟨(some 4), none, (.op (.mov (.c (.int .i64 (-1))))), []⟩]) .ret) .skip)))) (.region [⟨(some 16), none, (.op (.mov (.t 5))), []⟩, ⟨(some 17), none, (.op (.bin .add (.t 16) (.c (.int .i64 1)))), []⟩, ⟨(some 5), none, (.op (.mov (.t 17))), []⟩])))))) (.seq (.region [⟨(some 26), none, (.op (.mov (.t 1))), []⟩, ⟨(some 4), none, (.op (.mov (.t 26))), []⟩]) .ret))))), [(.tmp 4)]⟩
theorem tots_take {tot : α → Nat} {xs : List α} {i : Nat} (hi : i < xs.length) : ((xs.take (i + 1)).map tot).sum = ((xs.take i).map tot).sum + tot xs[i] := by
  rw [List.take_succ_eq_append_getElem hi, List.map_append, List.sum_append]; simp only [List.map_cons, List.map_nil, List.sum_cons, List.sum_nil, Nat.add_zero]
theorem tots_le (tot : α → Nat) (xs : List α) (i : Nat) : ((xs.take i).map tot).sum ≤ (xs.map tot).sum := by
  conv => rhs; rw [← List.take_append_drop i xs, List.map_append, List.sum_append]
  exact Nat.le_add_right _ _
theorem szF_ok (hm : P.follows .mixedOrders = true) {f : FuncId} {fn : Func} {F : AFun} {agg : Bool} {g : FuncId}
    (hf : P.funcs[f]? = some fn) (hF : compFun P fn = some F) (hT : F = szF sz agg g) (hG : Gd R) (hz : 0 < sz) (hag : agg = true ∨ sz = 1) {ok : α → Prop} {tot : α → Nat}
    (hcal : ∀ (σ : Heap) x cs f left, R σ x cs f → cs.length = sz → ok x → 0 ≤ left → left ≤ 1048576 → ACalls P w0 g [elV agg cs, .int .i64 left] σ fun v σ' => v = .int .i64 (sub left (tot x)) ∧ Ext σ σ')
    {σ : Heap} {s : Value} {L : List α} {fp : List Nat} (h : SlF R sz σ s L fp) (hL : L.length ≤ 9223372036854775807) (hok : ∀ x ∈ L, ok x) {left : Int} (h0 : 0 ≤ left) (h1 : left ≤ 1048576) :
    ACalls P w0 f [s, .int .i64 left] σ fun v σ' => v = .int .i64 (sub left (tots tot L)) ∧ Ext σ σ' := by
  subst hT
  refine acalls_go hm hf hF (Nat.le_of_ble_eq_true rfl) fun K hK => ?_
  obtain ⟨a, c, rfl⟩ := h.len
  have hw : IntKind.i64.wrap (left - L.length) = left - L.length := w64 (by omega) (by omega)
  by_cases hn : (L.length : Int) ≤ left
  · simp [szF, hw, show ¬ left - (L.length : Int) < 0 by omega]
    refine AWp_count (fun r fr σ' => ∃ i : Nat, i + r = L.length ∧ fr 0 = .slice a L.length c ∧ fr 5 = .int .i64 i ∧ Ext σ σ' ∧ ∃ m : Int, fr 1 = .int .i64 m ∧ 0 ≤ m ∧ m + L.length + ((L.take i).map tot).sum = left) L.length ⟨0, by simp, by simp, by simp, Ext.refl _, _, by simp; rfl, by omega, by simp⟩ ?_
    rintro J hJ r fr σ' ⟨i, hi, h0', h5, hE, m, h1', hm0, hm1⟩
    by_cases hlt : i < L.length
    · obtain ⟨b, o, c2, cs, f0, e, hc, hb, _, hcs, hR, hrd, _⟩ := (h.ext hG hE).at_ hz hlt
      cases e
      have hw := wrap_suc hlt hL
      have hp := elV_part hag hrd
      simp [h0', h1', h5, hlt, hp]
      refine (hcal _ _ _ _ m hR hcs (hok _ (List.getElem_mem _)) hm0 (by omega)).mono ?_
      rintro v σ2 ⟨rfl, hE2⟩
      have ht := tots_take (tot := tot) hlt
      have hle := tots_le tot L (i + 1)
      by_cases hx : (tot L[i] : Int) ≤ m
      · simp [sub, hx, h5, hw, show ¬ m - (tot L[i] : Int) < 0 by omega]
        exact .mk (r - 1) (by omega) (hJ _ _ _ ⟨i + 1, by omega, by simp [h0'], by simp, hE.trans hE2, m - tot L[i], by simp, by omega, by omega⟩)
      · simp [sub, hx]
        refine hK _ _ ⟨?_, hE.trans hE2⟩
        unfold sub tots
        rw [if_neg (by omega)]
    · simp [h0', h1', h5, hlt]
      refine hK _ _ ⟨?_, hE⟩
      rw [List.take_of_length_le (by omega)] at hm1
      unfold sub tots
      rw [if_pos (by omega)]
      congr 1
      omega
  · simp [szF, hw, show left - (L.length : Int) < 0 by omega]
    refine hK _ _ ⟨?_, Ext.refl _⟩
    unfold sub tots
    rw [if_neg (by omega)]
end Go.AH
