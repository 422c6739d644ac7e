/- Rows, workers and shards: what the reference and the program compute, and the exact law. -/
import Derived.Test.YtennnifijepfhaaExC
namespace Go.Proofs.Ytennnifijepfhaa
open Go Go.AH
set_option linter.unusedSimpArgs false
set_option linter.unusedVariables false
variable {w0 : World}
def inR (a b c : Int) : Bool := decide (b ≤ a) && decide (a ≤ c)
theorem inRange_ok (a b c : Int) (σ : Heap) : ACalls Try.prog w0 53 [.int .i64 a, .int .i64 b, .int .i64 c] σ fun v σ' => v = .bool (inR a b c) ∧ σ' = σ := by
  refine acalls_go hmix Try.func53 comp53 (Nat.le_of_ble_eq_true rfl) fun K hK => ?_
  by_cases h : b ≤ a
  · simp [C53, h]
    exact hK _ _ ⟨by simp [inR, h], rfl⟩
  · simp [C53, h]
    exact hK _ _ ⟨by simp [inR, h], rfl⟩
theorem wrap_succ {i n : Nat} (h : i < n) (hn : n ≤ 4611686018427387904) : IntKind.i64.wrap ((i : Int) + 1) = ((i + 1 : Nat) : Int) := by rw [w64 (by omega) (by omega)]; rfl
def okV (x : Int) : Bool := inR x (-9999) 9999
def okRow (l : List Int) : Bool := l.all okV && inR l.length 1 6
theorem all_take {p : Int → Bool} {L : List Int} {i : Nat} (hi : i < L.length) (h : (L.take i).all p = true) (hp : p L[i] = true) : (L.take (i + 1)).all p = true := by
  rw [List.take_succ_eq_append_getElem hi, List.all_append, h]; simp [hp]
theorem all_not {p : Int → Bool} {L : List Int} {i : Nat} (hi : i < L.length) (hp : p L[i] = false) : L.all p = false := by
  rw [List.all_eq_false]; exact ⟨L[i], List.getElem_mem _, by simp [hp]⟩
theorem validRow_ok {σ : Heap} {s : Value} {L : List Int} (h : Ints σ s L) (hL : L.length ≤ 4611686018427387904) : ACalls Try.prog w0 52 [s] σ fun v σ' => v = .bool (okRow L) ∧ σ' = σ := by
  refine acalls_go hmix Try.func52 comp52 (Nat.le_of_ble_eq_true rfl) fun K hK => ?_
  obtain ⟨a, c, rfl⟩ := h.len
  simp [C52]
  refine AWp_count (fun k fr σ' => ∃ i : Nat, i + k = L.length ∧ fr 0 = .slice a L.length c ∧ fr 3 = .int .i64 i ∧ σ' = σ ∧ (L.take i).all okV = true) L.length ⟨0, by simp⟩ ?_
  rintro J hJ k fr σ' ⟨i, hi, h0, h3, rfl, hall⟩
  by_cases hlt : i < L.length
  · obtain ⟨b, o, c', e, hc, hb, hcell⟩ := Ints.at_ h hlt
    cases e
    simp [h0, h3, show (i : Int) < (L.length : Int) by omega, partA, hcell]
    refine (inRange_ok _ _ _ _).mono ?_
    rintro v σ2 ⟨rfl, rfl⟩
    have hw := wrap_succ hlt hL
    cases hin : inR L[i] (-9999) 9999
    · simp
      exact hK _ _ ⟨by simp only [okRow, all_not (p := okV) hlt hin, Bool.false_and], rfl⟩
    · simp [h3, hw]
      exact .mk (k - 1) (by omega) (hJ _ _ _ ⟨i + 1, by omega, by simp [h0], by simp, rfl, all_take hlt hall hin⟩)
  · simp [h0, h3, show ¬ (i : Int) < (L.length : Int) by omega]
    refine (inRange_ok _ _ _ _).mono ?_
    rintro v σ2 ⟨rfl, rfl⟩
    rw [List.take_of_length_le (by omega)] at hall
    simp
    exact hK _ _ ⟨by simp only [okRow, hall, Bool.true_and], rfl⟩
theorem validWorkers_ok (a : Int) (σ : Heap) : ACalls Try.prog w0 54 [.int .i64 a] σ fun v σ' => v = .bool (inR a 1 8) ∧ σ' = σ := by
  refine acalls_go hmix Try.func54 comp54 (Nat.le_of_ble_eq_true rfl) fun K hK => ?_
  simp [C54]
  refine (inRange_ok _ _ _ _).mono ?_
  rintro v σ2 ⟨rfl, rfl⟩
  simp
  exact hK _ _ ⟨rfl, rfl⟩
def hstep (h x : Int) : Int := Int.tmod (IntKind.i64.wrap ((IntKind.i64.wrap ((IntKind.i64.wrap (h * 31)) + x)) + 9999)) 1000003
def hsh (l : List Int) : Int := l.foldl hstep 7
theorem hsh_snoc (L : List Int) {i : Nat} (h : i < L.length) : hsh (L.take (i + 1)) = hstep (hsh (L.take i)) L[i] := by
  unfold hsh; rw [List.take_succ_eq_append_getElem h, List.foldl_append]; rfl
theorem sShardOf_ok {σ : Heap} {s : Value} {L : List Int} (h : Ints σ s L) (hL : L.length ≤ 4611686018427387904) {k : Nat} (hk : k ≤ L.length) {m : Int} (hm : m ≠ 0) : ACalls Try.prog w0 55 [s, .int .i64 k, .int .i64 m] σ fun v σ' => v = .int .i64 (Int.tmod (hsh (L.take k)) m) ∧ σ' = σ := by
  refine acalls_go hmix Try.func55 comp55 (Nat.le_of_ble_eq_true rfl) fun K hK => ?_
  obtain ⟨a, c, rfl⟩ := h.len
  simp [C55]
  refine AWp_count (fun r fr σ' => ∃ i : Nat, i + r = k ∧ fr 0 = .slice a L.length c ∧ fr 1 = .int .i64 k ∧ fr 2 = .int .i64 m ∧ fr 7 = .int .i64 (hsh (L.take i)) ∧ fr 8 = .int .i64 i ∧ σ' = σ) k ⟨0, by simp [hsh]⟩ ?_
  rintro J hJ r fr σ' ⟨i, hi, h0, h1, h2, h7, h8, rfl⟩
  by_cases hlt : i < k
  · obtain ⟨b, o, c', e, hc, hb, hcell⟩ := Ints.at_ h (show i < L.length by omega)
    cases e
    have hw := wrap_succ (show i < L.length by omega) hL
    simp [h0, h1, h2, h7, h8, show (i : Int) < (L.length : Int) by omega, show i < L.length by omega, hlt, partA, hcell, hw]
    exact .mk (r - 1) (by omega) (hJ _ _ _ ⟨i + 1, by omega, by simp [h0], by simp [h1], by simp [h2], by simp [hsh_snoc L (show i < L.length by omega), hstep], by simp, rfl⟩)
  · simp [h0, h1, h2, h7, h8, hlt, hm]
    exact hK _ _ ⟨by rw [show i = k by omega], rfl⟩
theorem toIntS_f {σ : Heap} {s : Value} {L : List Int} (h : Ints σ s L) (hL : L.length ≤ 1048576) : ACalls Try.prog w0 16 [s] σ fun v σ' => Ext σ σ' ∧ Ints σ' v L ∧ v = .slice (some ⟨σ.size, 0, none⟩) L.length L.length := by
  refine acalls_go hmix Try.func16 comp16 (Nat.le_of_ble_eq_true rfl) fun K hK => ?_
  obtain ⟨a, c, rfl⟩ := h.len
  simp [C16, show (L.length : Int) * 8 ≤ 281474976710656 by omega]
  refine AWp_count (fun r fr σ' => ∃ i : Nat, i + r = L.length ∧ fr 0 = .slice a L.length c ∧ fr 3 = .slice (some ⟨σ.size, 0, none⟩) L.length L.length ∧ fr 4 = .int .i64 i ∧
    ∃ cs, σ' = σ.push ⟨1, cs⟩ ∧ cs.length = L.length ∧ ∀ j x, j < i → L[j]? = some x → cs[j]? = some (.int .i64 x)) L.length ⟨0, by simp, by simp, by simp, by simp, _, rfl, by simp [zeroRow_length], fun j x hj => by omega⟩ ?_
  rintro J hJ r fr σ' ⟨i, hi, h0, h3, h4, cs, rfl, hcs, hall⟩
  by_cases hlt : i < L.length
  · obtain ⟨b, o, c', e, hc, hb, hcell⟩ := Ints.at_ h hlt
    cases e
    have hw := wrap_succ hlt (by omega)
    have hold : ((σ.push ⟨1, cs⟩).blk b).cells[o + i]? = some (.int .i64 L[i]) := by rw [push_old σ _ hb]; exact hcell
    have hbase := σ.hle
    simp [h0, h3, h4, hlt, partA, hold, hw, hbase, hcs, show i + 1 ≤ L.length by omega, setCells]
    refine .mk (r - 1) (by omega) (hJ _ _ _ ⟨i + 1, by omega, by simp [h0], by simp [h3], by simp, _, rfl, by simp [hcs], fun j x hj hx => ?_⟩)
    rw [List.getElem?_set]
    split
    · rename_i hij
      subst hij
      rw [if_pos (by omega)]
      rw [List.getElem?_eq_getElem hlt] at hx
      cases hx; rfl
    · exact hall j x (by omega) hx
  · simp [h0, h3, h4, hlt]
    refine hK _ _ ⟨Ext.push _ _, ?_, rfl⟩
    by_cases hp : L = []
    · exact ⟨.inl ⟨hp, _, _, by rw [hp]; rfl, fun h => by cases h⟩⟩
    have hp' : 0 < L.length := List.length_pos_iff.2 hp
    refine ⟨.inr ⟨hp', σ.size, 0, _, rfl, hp', by simp, fun _ => by simp, fun j x hj => ⟨_, rfl, rfl, fun q c' hq => ?_⟩⟩⟩
    cases q with
    | zero =>
      simp at hq ⊢
      subst hq
      exact hall j x (by have := (List.getElem?_eq_some_iff.1 hj).1; omega) hj
    | succ q => simp at hq
theorem toIntS_ok {σ : Heap} {s : Value} {L : List Int} (h : Ints σ s L) (hL : L.length ≤ 1048576) : ACalls Try.prog w0 16 [s] σ fun v σ' => Ext σ σ' ∧ Ints σ' v L :=
  (toIntS_f h hL).mono fun v σ' h => ⟨h.1, h.2.1⟩
theorem eqIntS_ok {σ : Heap} {s t : Value} {L M : List Int} (h : Ints σ s L) (g : Ints σ t M) (hL : L.length ≤ 4611686018427387904) : ACalls Try.prog w0 18 [s, t] σ fun v σ' => v = .bool (decide (L = M)) ∧ σ' = σ := by
  refine acalls_go hmix Try.func18 comp18 (Nat.le_of_ble_eq_true rfl) fun K hK => ?_
  obtain ⟨a, c, rfl⟩ := h.len
  obtain ⟨a', c', rfl⟩ := g.len
  by_cases hlen : L.length = M.length
  · simp [C18, hlen]
    refine AWp_count (fun r fr σ' => ∃ i : Nat, i + r = L.length ∧ fr 0 = .slice a L.length c ∧ fr 1 = .slice a' M.length c' ∧ fr 5 = .int .i64 i ∧ σ' = σ ∧ L.take i = M.take i) L.length ⟨0, by simp, by simp [hlen], by simp, by simp, rfl, by simp⟩ ?_
    rintro J hJ r fr σ' ⟨i, hi, h0, h1, h5, rfl, ht⟩
    by_cases hlt : i < L.length
    · obtain ⟨b, o, c2, e, hc, hb, hcell⟩ := Ints.at_ h hlt
      cases e
      obtain ⟨b', o', c3, e, hc', hb', hcell'⟩ := Ints.at_ g (show i < M.length by omega)
      cases e
      have hw := wrap_succ hlt hL
      by_cases hx : L[i] = M[i]
      · simp [h0, h1, h5, hlt, show i < M.length by omega, partA, hcell, hcell', hx, hw]
        exact .mk (r - 1) (by omega) (hJ _ _ _ ⟨i + 1, by omega, by simp [h0], by simp [h1], by simp, rfl, by
          rw [List.take_succ_eq_append_getElem hlt, List.take_succ_eq_append_getElem (show i < M.length by omega), ht, hx]⟩)
      · simp [h0, h1, h5, hlt, show i < M.length by omega, partA, hcell, hcell', hx]
        refine hK _ _ ⟨?_, rfl⟩
        rw [decide_eq_false]
        intro e
        subst e
        exact hx rfl
    · simp [h0, h1, h5, hlt]
      refine hK _ _ ⟨?_, rfl⟩
      rw [List.take_of_length_le (by omega), List.take_of_length_le (by omega)] at ht
      rw [decide_eq_true ht]
  · simp [C18, show ¬ (L.length : Int) = (M.length : Int) by omega]
    refine hK _ _ ⟨?_, rfl⟩
    rw [decide_eq_false]
    intro e
    rw [e] at hlen
    exact hlen rfl
theorem iValidRow_ok {σ : Heap} {s : Value} {L : List Int} (h : Ints σ s L) (hL : L.length ≤ 4611686018427387904) : ACalls Try.prog w0 56 [s] σ fun v σ' => v = .bool (okRow L) ∧ σ' = σ := by
  refine acalls_go hmix Try.func56 comp56 (Nat.le_of_ble_eq_true rfl) fun K hK => ?_
  obtain ⟨a, c, rfl⟩ := h.len
  simp [C56]
  refine AWp_count (fun k fr σ' => ∃ i : Nat, i + k = L.length ∧ fr 0 = .slice a L.length c ∧ fr 5 = .slice a L.length c ∧ fr 6 = .int .i64 L.length ∧ fr 7 = .int .i64 i ∧ σ' = σ ∧ (L.take i).all okV = true) L.length ⟨0, by simp⟩ ?_
  rintro J hJ k fr σ' ⟨i, hi, h0, h5, h6, h7, rfl, hall⟩
  by_cases hlt : i < L.length
  · obtain ⟨b, o, c', e, hc, hb, hcell⟩ := Ints.at_ h hlt
    cases e
    have hw := wrap_succ hlt hL
    by_cases h1 : L[i] < -9999
    · simp [h0, h5, h6, h7, hlt, partA, hcell, h1]
      exact hK _ _ ⟨by simp only [okRow, all_not (p := okV) hlt (by simp [okV, inR]; omega), Bool.false_and], rfl⟩
    · by_cases h2 : L[i] > 9999
      · simp [h0, h5, h6, h7, hlt, partA, hcell, h1, h2]
        exact hK _ _ ⟨by simp only [okRow, all_not (p := okV) hlt (by simp [okV, inR]; omega), Bool.false_and], rfl⟩
      · simp [h0, h5, h6, h7, hlt, partA, hcell, h1, h2, hw]
        exact .mk (k - 1) (by omega) (hJ _ _ _ ⟨i + 1, by omega, by simp [h0], by simp [h5], by simp [h6], by simp, rfl, all_take hlt hall (by simp [okV, inR]; omega)⟩)
  · rw [List.take_of_length_le (by omega)] at hall
    by_cases h1 : (1 : Int) ≤ (L.length : Int)
    · simp [h0, h5, h6, h7, hlt, h1]
      exact hK _ _ ⟨by simp only [okRow, hall, inR, h1, decide_true, Bool.true_and], rfl⟩
    · simp [h0, h5, h6, h7, hlt, h1]
      exact hK _ _ ⟨by simp only [okRow, hall, inR, h1, decide_false, Bool.true_and, Bool.false_and], rfl⟩
def shardVal (l : List Int) (k m : Int) : Int := if okRow l = true ∧ inR k 0 l.length = true ∧ inR m 1 8 = true then Int.tmod (hsh (l.take k.toNat)) m else -1
theorem sShard_ok {σ : Heap} {s : Value} {L : List Int} (h : Ints σ s L) (hL : L.length ≤ 4611686018427387904) (k m : Int) : ACalls Try.prog w0 15 [s, .int .i64 k, .int .i64 m] σ fun v σ' => v = .int .i64 (shardVal L k m) ∧ σ' = σ := by
  refine acalls_go hmix Try.func15 comp15 (Nat.le_of_ble_eq_true rfl) fun K hK => ?_
  obtain ⟨a, c, rfl⟩ := h.len
  simp [C15]
  refine (validRow_ok h hL).mono ?_
  rintro v σ2 ⟨rfl, rfl⟩
  cases hr : okRow L
  · simp
    exact hK _ _ ⟨by simp [shardVal, hr], rfl⟩
  · simp
    refine (inRange_ok _ _ _ _).mono ?_
    rintro v σ2 ⟨rfl, rfl⟩
    cases hk : inR k 0 L.length
    · simp
      exact hK _ _ ⟨by simp [shardVal, hk], rfl⟩
    · simp
      refine (validWorkers_ok _ _).mono ?_
      rintro v σ2 ⟨rfl, rfl⟩
      cases hm : inR m 1 8
      · simp
        exact hK _ _ ⟨by simp [shardVal, hm], rfl⟩
      · simp
        have hk' := hk
        have hm' := hm
        simp [inR] at hk' hm'
        obtain ⟨n, rfl⟩ := Int.eq_ofNat_of_zero_le hk'.1
        refine (sShardOf_ok h hL (k := n) (by omega) (m := m) (by omega)).mono ?_
        rintro v σ2 ⟨rfl, rfl⟩
        simp
        exact hK _ _ ⟨by simp [shardVal, hr, hk, hm], rfl⟩
theorem iShard_ok {σ : Heap} {s : Value} {L : List Int} (h : Ints σ s L) (hL : L.length ≤ 4611686018427387904) (k m : Int) : ACalls Try.prog w0 17 [s, .int .i64 k, .int .i64 m] σ fun v σ' => v = .int .i64 (shardVal L k m) ∧ σ' = σ := by
  refine acalls_go hmix Try.func17 comp17 (Nat.le_of_ble_eq_true rfl) fun K hK => ?_
  obtain ⟨a, c, rfl⟩ := h.len
  simp [C17]
  refine (iValidRow_ok h hL).mono ?_
  rintro v σ2 ⟨rfl, rfl⟩
  cases hr : okRow L
  · simp
    exact hK _ _ ⟨by simp [shardVal, hr], rfl⟩
  · by_cases hk0 : k < 0
    · simp [hk0]
      exact hK _ _ ⟨by simp [shardVal, inR]; omega, rfl⟩
    · by_cases hk1 : k > L.length
      · simp [hk0, hk1]
        exact hK _ _ ⟨by simp [shardVal, inR]; omega, rfl⟩
      · by_cases hm0 : m < 1
        · simp [hk0, hk1, hm0]
          exact hK _ _ ⟨by simp [shardVal, inR]; omega, rfl⟩
        · by_cases hm1 : m > 8
          · simp [hk0, hk1, hm0, hm1]
            exact hK _ _ ⟨by simp [shardVal, inR]; omega, rfl⟩
          · have hpos : 1 ≤ L.length := by simp [okRow, inR] at hr; omega
            obtain ⟨b, o, c', e, hc, hb, _⟩ := Ints.at_ h (i := 0) (by omega)
            cases e
            obtain ⟨n, rfl⟩ := Int.eq_ofNat_of_zero_le (show 0 ≤ k by omega)
            have hval : shardVal L n m = Int.tmod (hsh (L.take n)) m := by
              simp only [shardVal]
              rw [if_pos ⟨hr, by simp [inR]; omega, by simp [inR]; omega⟩]; rfl
            simp [hk0, hk1, hm0, hm1, optInt, sliceA, show n ≤ L.length by omega]
            refine AWp_count (fun r fr σ' => ∃ i : Nat, i + r = n ∧ fr 2 = .int .i64 m ∧ fr 7 = .int .i64 (hsh (L.take i)) ∧ fr 33 = .slice (some ⟨b, o, none⟩) n (capA c 0) ∧ fr 34 = .int .i64 n ∧ fr 35 = .int .i64 i ∧ σ' = σ2) n ⟨0, by simp [hsh]⟩ ?_
            rintro J hJ r fr σ' ⟨i, hi, h2, h7, h33, h34, h35, rfl⟩
            by_cases hlt : i < n
            · obtain ⟨b', o', c2, e, _, _, hcell⟩ := Ints.at_ h (show i < L.length by omega)
              cases e
              have hw := wrap_succ (show i < L.length by omega) hL
              simp [h2, h7, h33, h34, h35, hlt, partA, hcell, hw]
              exact .mk (r - 1) (by omega) (hJ _ _ _ ⟨i + 1, by omega, by simp [h2], by simp [hsh_snoc L (show i < L.length by omega), hstep, Int.mul_comm 31], by simp [h33], by simp [h34], by simp, rfl⟩)
            · simp [h2, h7, h33, h34, h35, hlt, show ¬ m = 0 by omega]
              exact hK _ _ ⟨by rw [hval, show i = n by omega], rfl⟩
theorem law3 {σ : Heap} {s : Value} {L : List Int} (h : Ints σ s L) (hL : L.length ≤ 35184372088832) (k m : Int) : ACalls Try.prog w0 3 [s, .int .i64 k, .int .i64 m] σ fun v _ => v = .bool true := by
  refine acalls_go hmix Try.func3 comp3 (Nat.le_of_ble_eq_true rfl) fun K hK => ?_
  obtain ⟨a, c, rfl⟩ := h.len
  by_cases hbig : L.length > 1048576
  · simp [C3, show (L.length : Int) > 1048576 by omega]
    exact hK _ _ rfl
  · simp [C3, show ¬ (L.length : Int) > 1048576 by omega]
    refine (toIntS_ok h (by omega)).mono ?_
    rintro v σ1 ⟨x1, r1⟩
    simp
    refine (sShard_ok r1 (by omega) _ _).mono ?_
    rintro v2 σ2 ⟨rfl, rfl⟩
    simp
    refine (toIntS_ok (h.ext RI_mono x1) (by omega)).mono ?_
    rintro v3 σ3 ⟨x3, r3⟩
    simp
    refine (iShard_ok r3 (by omega) _ _).mono ?_
    rintro v4 σ4 ⟨rfl, rfl⟩
    simp
    refine (toIntS_ok (h.ext RI_mono (x1.trans x3)) (by omega)).mono ?_
    rintro v5 σ5 ⟨x5, r5⟩
    simp
    refine (eqIntS_ok (r3.ext RI_mono x5) r5 (by omega)).mono ?_
    rintro v6 σ6 ⟨rfl, rfl⟩
    simp
    exact hK _ _ rfl
end Go.Proofs.Ytennnifijepfhaa
