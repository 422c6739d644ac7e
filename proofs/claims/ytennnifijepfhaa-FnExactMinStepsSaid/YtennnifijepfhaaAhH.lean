/- Appending and clearing. -/
import Derived.Test.YtennnifijepfhaaAhG
import Derived.Deep.Upon
namespace Go.AH
open Go Go.RowKit

theorem readCells_val {l : List Value} {o n : Nat} {vs : List Value} (h : readCells l o n = some vs) : (l.drop o).take n = vs := by
  unfold readCells at h
  split at h
  · exact Option.some.inj h
  · cases h
theorem setCells_eq (b : Nat) : ∀ (vs : List Value) (w : World) (o : Nat), w.setCells b o vs = wset w b o vs
  | [], _, _ => rfl
  | v :: vs, w, o => by rw [wset, ← setCells_eq b vs]; rfl
section
variable {P : Program} {o : Oper}
theorem size_zeroCells (z : Array Value) (n : Nat) : (Builtin.zeroCells z n).size = n * z.size := by simp [Builtin.zeroCells]
theorem lrel_one {B : Nat} {ρ : Ren} {l l' : List Value} (h : LRel B ρ l l') (ho : l.all one = true) : ∀ u ∈ l', u.oneCell' = true := by
  intro u hu
  obtain ⟨i, hi, rfl⟩ := List.getElem_of_mem hu
  have hi' : i < l.length := by rw [h.1]; exact hi
  have hv := h.2 i _ _ (List.getElem?_eq_getElem hi') (List.getElem?_eq_getElem hi)
  exact (hv.one_inv (List.all_eq_true.1 ho _ (List.getElem_mem _))).1
theorem src_of {w0 : World} {ρ : Ren} {σ : Heap} {w : World} (hr : ARel w0 ρ σ w) {tx e' : TypeId} (hk : P.underlying tx = some (.slice e')) {b b' : Addr} (hb : AddrRel w0.heap.size ρ b b') {n size : Nat} {src : List Value}
    (hs : readCells (σ.blk b.block).cells b.off (n * size) = some src) (ho : src.all one = true) (c : Nat) : ∃ news, Src P size tx (.slice (some b') n c) n news w ∧ LRel w0.heap.size ρ src news := by
  obtain ⟨h1, h2, h3⟩ := readCells_eq hs
  obtain ⟨vs', hall, h4, h5⟩ := hr.readc hb hs
  exact ⟨vs', Src.ofSlice w hk b' n c vs' h5 hall (lrel_one h4 ho), h4⟩
theorem run_firstCells_empty (size : Nat) (s : Option Addr) (n c : Nat) (h : n * size = 0) (w : World) : (Builtin.firstCells size n (.slice s n c)).run P w = .ok #[] w := by
  cases s <;> simp [Builtin.firstCells, h, loadCells, loadCellsFrom]
theorem ARel.drewN {w0 : World} {ρ : Ren} {σ : Heap} {w : World} (h : ARel w0 ρ σ w) : ARel w0 ρ σ w.drew := h.drawn _
theorem grown_alloc {w0 : World} {ρ : Ren} {σ : Heap} {w : World} (hr : ARel w0 ρ σ w) {size need cap : Nat} (e : TypeId) {pre pre' src src' : List Value} (h1 : LRel w0.heap.size ρ pre pre') (h2 : LRel w0.heap.size ρ src src') (z : Value)
    (hz : z.cells.size = size) (hlen : (pre ++ src).length = need * size) (hcap : need ≤ cap) :
    ∃ ρ', ρ.le ρ' ∧ ARel w0 ρ' (σ.push ⟨size, pre ++ src⟩) (w.drew.alloc (.cells ((pre' ++ src').toArray ++ Builtin.zeroCells z.cells (cap - need)) e)) ∧ (0 < need → VRel w0.heap.size ρ' (.slice (some ⟨σ.size, 0, none⟩) need need) (.slice (some ⟨w.heap.size, 0, none⟩) need cap)) := by
  have hl := h1.append h2
  obtain ⟨ρ', k1, k2, k3⟩ := (hr.drewN).alloc size e (pre ++ src) ((pre' ++ src').toArray ++ Builtin.zeroCells z.cells (cap - need)) (fun j v hj => by
    obtain ⟨v', g1, g2⟩ := hl.get hj
    refine ⟨v', ?_, g2⟩
    have : j < (pre' ++ src').length := (List.getElem?_eq_some_iff.1 g1).1
    rw [Array.getElem?_append_left (by simpa using this)]
    simpa using g1)
  refine ⟨ρ', k1, k3, fun hn => .sl _ _ _ _ _ (by omega) hcap (.inr ⟨AddrRel.new hr.drewN k2, fun hb l hl0 => ?_⟩)⟩
  change ρ' σ.size = some l at hl0
  rw [k2] at hl0
  cases hl0
  have e1 : (pre' ++ src').length = need * size := by rw [← hl.1]; exact hlen
  have e2 : ((pre' ++ src').toArray ++ Builtin.zeroCells z.cells (cap - need)).size = need * size + (cap - need) * size := by
    rw [Array.size_append, size_zeroCells, hz]
    simp only [List.size_toArray, e1]
  simp only [e2, ← Nat.add_mul]
  rw [show need + (cap - need) = cap by omega]
  omega
theorem sim_append {t t2 e e2 : TypeId} {i : TypeInfo} {z : Value} {x y : Operand} {ax ay : AOpd} (ho : o.op = .call { callee := .builtin .append, args := #[x, y], argTypes := #[t, t2] }) (ht : P.underlying t = some (.slice e)) (ht2 : P.underlying t2 = some (.slice e2))
    (hi : P.info? e = some i) (hz : i.zero = some z) (hs : z.cells.size = i.size) (hx : compOpd x = some ax) (hy : compOpd y = some ay) : Sim P o (fun fr σ => (AOp.append i.size i.bytes ax ay).step fr σ) := by
  intro w0 ρ σ w fr a v σ' hr hf he
  have hv := compOpd_ev hx hf
  have hw := compOpd_ev hy hf
  have hexec : ∀ s' x' r w', a.eval x = s' → a.eval y = x' → (Builtin.append_ #[t, t2] o.type #[s', x']).run P w = .ok r w' → (execOp a.eval o).run P w = .ok (.value r) w' := by
    intro s' x' r w' e1 e2 e3
    simp [execOp, ho, e1, e2, resolve, invoke, builtin, e3]
  simp only [AOp.step] at he
  generalize hX : a.eval x = X at hv
  generalize hY : a.eval y = Y at hw
  generalize ax.ev fr = A at he hv
  generalize ay.ev fr = Bv at he hw
  unfold appendA at he
  split at he
  · rename_i ao len cap bo n cb
    split at he
    · -- nothing is appended
      rename_i hn
      subst hn
      simp only [Option.some.injEq, Prod.mk.injEq] at he
      obtain ⟨rfl, rfl⟩ := he
      have hsrc : ∃ (c : Nat) (b : Option Addr), Y = .slice b 0 c ∧ Src P i.size t2 (.slice b 0 c) 0 [] w := by
        cases hw with
        | sl0 => exact ⟨0, none, rfl, Src.ofNil w ht2 0⟩
        | sl _ b' _ _ c' => exact ⟨c', some b', rfl, Src.ofSlice w ht2 b' 0 c' [] (by simp) (fun j u h => by simp at h) (fun u h => by cases h)⟩
      obtain ⟨c, b, rfl, hs1⟩ := hsrc
      obtain ⟨s, c2, rfl, hle⟩ : ∃ (s : Option Addr) (c2 : Nat), X = .slice s len c2 ∧ len ≤ c2 := by
        cases hv with
        | sl0 => exact ⟨none, 0, rfl, Nat.le_refl _⟩
        | sl _ b' _ _ c' _ h2 _ => exact ⟨some b', c', rfl, h2⟩
      exact ⟨_, w, ρ, _, hexec _ _ _ _ hX hY (run_append_nothing w t t2 o.type e i ht hi s len c2 hle _ hs1), .inl rfl, Ren.le.refl _, hr, hv⟩
    · rename_i hn
      split at he
      · cases he
      · rename_i b
        split at he
        · cases he
        · rename_i src hsrc
          split at he
          · rename_i hc
            obtain ⟨c1, c2, c3, c4, c5⟩ := hc
            obtain ⟨b', cb', rfl, hbb⟩ : ∃ (b' : Addr) (cb' : Nat), Y = .slice (some b') n cb' ∧ AddrRel w0.heap.size ρ b b' := by
              cases hw with
              | sl _ b' _ _ c' _ h2 h3 => exact ⟨b', c', rfl, (h3.resolve_left (by omega)).1⟩
            obtain ⟨news, hS, hL⟩ := src_of hr ht2 hbb hsrc c2 cb'
            have hnews := hS.newsLen
            have hsl : src.length = n * i.size := by rw [hL.1]; exact hnews
            have h63 : ((len + n : Nat) : Int) ≤ 9223372036854775807 := by
              have : (len + n) * 1 ≤ (len + n) * i.bytes := Nat.mul_le_mul_left _ c4
              omega
            split at he
            · -- no room: a new row
              rename_i hcap
              split at he
              · rename_i hlen
                subst hlen
                simp only [Option.some.injEq, Prod.mk.injEq] at he
                obtain ⟨rfl, rfl⟩ := he
                obtain ⟨s, rfl⟩ : ∃ (s : Option Addr), X = .slice s 0 0 := by
                  cases hv with
                  | sl0 => exact ⟨none, rfl⟩
                  | sl _ b' _ _ c' h1 h2 _ => exact ⟨some b', by rw [h1 hcap]⟩
                have hfit : Builtin.nextslicecap (0 + n) 0 * i.bytes ≤ 281474976710656 := by
                  have := nextslicecap_le (need := 0 + n) (old := 0) (by omega)
                  have h2 := Nat.mul_le_mul_right i.bytes this
                  rw [Nat.mul_assoc] at h2
                  omega
                have hrun := run_append_grow_src w t t2 o.type e i z ht hi hz s 0 0 [] (run_firstCells_empty i.size s 0 0 (by omega) w.drew) _ n news hS (by omega) h63 hfit
                obtain ⟨ρ', k1, k2, k3⟩ := grown_alloc (need := 0 + n) (cap := grownCap w (0 + n) 0 e) hr e (LRel.nil _ _) hL z hs (by simp [hsl]) (grownCap_ge _ _ _ _)
                simp only [Nat.zero_add] at hrun k2 k3
                exact ⟨_, _, ρ', _, hexec _ _ _ _ hX hY hrun, .inl rfl, k1, k2, k3 (by omega)⟩
              · cases he
            · rename_i hcap
              split at he
              · cases he
              · rename_i ad
                split at he
                · rename_i hc2
                  obtain ⟨d1, d2, d3, d4⟩ := hc2
                  split at he
                  · cases he
                  · rename_i pre hpre
                    simp only [Option.some.injEq, Prod.mk.injEq] at he
                    obtain ⟨rfl, rfl⟩ := he
                    obtain ⟨p1, p2, p3⟩ := readCells_eq hpre
                    have hB := hr.base
                    cases hv with
                    | sl _ ad' _ _ c' g1 g2 g3 =>
                    by_cases hroom : len + n ≤ c'
                    · -- in place
                      obtain ⟨hA, hR⟩ := g3.resolve_left (by omega)
                      obtain ⟨_, _, hA3⟩ := hA
                      rcases hA3 with ⟨hA3, _⟩ | ⟨hA3, l, hl, rfl⟩
                      · omega
                      · have hro := hR hA3 l hl
                        have hez := hr.esz _ _ hl
                        rw [d3] at hez
                        obtain ⟨l', C, ce, q1, q2, q3, q4, q5⟩ := hr.new _ hA3 d4
                        rw [hl] at q1; cases q1
                        have hmul : (len + n) * l.esz ≤ c' * l.esz := Nat.mul_le_mul_right _ hroom
                        rw [Nat.add_mul, hez] at hmul
                        rw [hez] at hro
                        have hcell : ∀ j, j < news.length → (w.cell? ⟨l.blk, l.off + ad.off + len * i.size + j, none⟩).isSome = true ∧ w.frozen? ⟨l.blk, l.off + ad.off + len * i.size + j, none⟩ = false := by
                          intro j hj
                          have hjC : l.off + ad.off + len * i.size + j < C.size := by omega
                          constructor
                          · unfold World.cell?
                            rw [q3]
                            simp [Array.getElem?_eq_getElem hjC]
                          · unfold World.frozen?
                            rw [q3]
                            simp
                        have hrun := run_append_room_src w t t2 o.type e i ht hi l.blk (l.off + ad.off) len c' _ n news hS hroom (fun j hj => (hcell j hj).1) (fun j hj => (hcell j hj).2)
                        obtain ⟨ρ', k1, k2, k3⟩ := hr.grow hl d4 ad.off (len * i.size) p2 src news hL (by omega)
                        rw [setCells_eq] at hrun
                        have hpe : ((σ.blk ad.block).cells.drop ad.off).take (len * i.size) = pre := readCells_val hpre
                        rw [hpe, hez] at k3
                        refine ⟨_, _, ρ', _, hexec _ _ _ _ hX hY hrun, .inl rfl, k1, k3, ?_⟩
                        have hsz := σ.hle
                        refine .sl _ _ _ _ _ (by omega) hroom (.inr ⟨⟨rfl, rfl, .inr ⟨by simp; omega, _, k2, by simp⟩⟩, fun _ l2 hl2 => ?_⟩)
                        change ρ' σ.size = some l2 at hl2
                        rw [k2] at hl2
                        cases hl2
                        simp only [hez]
                        omega
                    · -- a new row
                      have hfit : Builtin.nextslicecap (len + n) c' * i.bytes ≤ 281474976710656 := growslice_fits (by omega) c3
                      obtain ⟨olds, ho1, ho2⟩ : ∃ olds : List Value, (Builtin.firstCells i.size len (.slice (some ad') len c')).run P w.drew = .ok olds.toArray w.drew ∧ LRel w0.heap.size ρ pre olds := by
                        by_cases hl0 : c' = 0
                        · have : len = 0 := by omega
                          subst this
                          have hp0 : pre = [] := List.eq_nil_of_length_eq_zero (by omega)
                          subst hp0
                          exact ⟨[], run_firstCells_empty i.size _ 0 _ (by omega) _, LRel.nil _ _⟩
                        · obtain ⟨hA, _⟩ := g3.resolve_left hl0
                          obtain ⟨vs', r1, r2, _⟩ := (hr.drewN).read hA hpre P
                          exact ⟨vs', by simp only [Builtin.firstCells]; exact r1, r2⟩
                      have hrun := run_append_grow_src w t t2 o.type e i z ht hi hz (some ad') len c' olds ho1 _ n news hS (by omega) h63 hfit
                      have hk := hr.kill ad.block d2
                      obtain ⟨ρ', k1, k2, k3⟩ := grown_alloc (need := len + n) (cap := grownCap w (len + n) c' e) hk e ho2 hL z hs (by rw [List.length_append, p1, hsl, Nat.add_mul]) (grownCap_ge _ _ _ _)
                      exact ⟨_, _, ρ', _, hexec _ _ _ _ hX hY hrun, .inl rfl, k1, k2, k3 (by omega)⟩
                · cases he
          · cases he
  · cases he
end
end Go.AH
