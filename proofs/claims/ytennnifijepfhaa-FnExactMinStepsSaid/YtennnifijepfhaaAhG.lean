/- Slicing, appending, clearing, literals, comparison of flat structs. -/
import Derived.Test.YtennnifijepfhaaAhF
namespace Go.AH
open Go Go.RowKit

section
variable {P : Program} {o : Oper}
def optOpd : Option Operand → Option (Option AOpd)
  | none => some none
  | some x => (compOpd x).map some
theorem optOpd_ev {x : Option Operand} {ax : Option AOpd} (h : optOpd x = some ax) {B : Nat} {ρ : Ren} {fr : Nat → Value} {a : Act} (hf : Frames B ρ fr a) {i : Option Int} (hi : optInt (ax.map (·.ev fr)) = some i) :
    (i = none ∧ x.map a.eval = none) ∨ (∃ n k, i = some n ∧ x.map a.eval = some (.int k n)) := by
  cases x with
  | none => simp only [optOpd, Option.some.injEq] at h; subst h; simp [optInt] at hi; exact .inl ⟨hi.symm, rfl⟩
  | some x =>
    simp only [optOpd, Option.map_eq_some_iff] at h
    obtain ⟨b, hb, rfl⟩ := h
    have hv := compOpd_ev hb hf
    simp only [Option.map_some] at hi
    generalize b.ev fr = u at hv hi
    cases u <;> simp [optInt] at hi
    rename_i k n
    subst hi
    exact .inr ⟨n, k, rfl, by simp [hv.int_inv]⟩
theorem sliceBound_run (k : IntKind) (n : Int) (y : Nat) (c : BoundsCode) (h0 : 0 ≤ n) (h1 : n ≤ y) (w : World) : (Instr.sliceBound (.int k n) y c).run P w = .ok n.toNat w := by
  simp [Instr.sliceBound, asIntOf, h0, h1]
theorem sliceBounds_run {lo hi mx : Option Value} {l h m : Option Int} (len cap : Nat) (hl : (l = none ∧ lo = none) ∨ ∃ n k, l = some n ∧ lo = some (.int k n)) (hh : (h = none ∧ hi = none) ∨ ∃ n k, h = some n ∧ hi = some (.int k n))
    (hm : (m = none ∧ mx = none) ∨ ∃ n k, m = some n ∧ mx = some (.int k n)) (hmh : m.isSome = true → h.isSome = true) (h1 : 0 ≤ l.getD 0) (h2 : l.getD 0 ≤ h.getD len) (h3 : h.getD len ≤ m.getD cap) (h4 : m.getD cap ≤ cap) (w : World) :
    (Instr.sliceBounds true len cap lo hi mx).run P w = .ok ((l.getD 0).toNat, (h.getD len).toNat, (m.getD cap).toNat) w := by
  rcases hm with ⟨rfl, rfl⟩ | ⟨m, km, rfl, rfl⟩
  · rcases hh with ⟨rfl, rfl⟩ | ⟨h, kh, rfl, rfl⟩
    · rcases hl with ⟨rfl, rfl⟩ | ⟨l, kl, rfl, rfl⟩
      · simp [Instr.sliceBounds]
      · simp only [Option.getD_some, Option.getD_none] at *
        simp [Instr.sliceBounds, sliceBound_run _ _ _ _ h1 h2]
    · rcases hl with ⟨rfl, rfl⟩ | ⟨l, kl, rfl, rfl⟩
      · simp only [Option.getD_some, Option.getD_none] at *
        simp [Instr.sliceBounds, sliceBound_run _ _ _ _ h2 h3]
      · simp only [Option.getD_some, Option.getD_none] at *
        have e : ((h.toNat : Nat) : Int) = h := by omega
        simp [Instr.sliceBounds, sliceBound_run _ _ _ _ (Int.le_trans h1 h2) h3, sliceBound_run kl l h.toNat _ h1 (by omega)]
  · rcases hh with ⟨rfl, rfl⟩ | ⟨h, kh, rfl, rfl⟩
    · simp at hmh
    · simp only [Option.getD_some] at *
      have hm0 : 0 ≤ m := by omega
      have hh0 : 0 ≤ h := by omega
      rcases hl with ⟨rfl, rfl⟩ | ⟨l, kl, rfl, rfl⟩
      · simp [Instr.sliceBounds, sliceBound_run km m cap _ hm0 h4, sliceBound_run kh h m.toNat _ hh0 (by omega)]
      · simp only [Option.getD_some] at *
        simp [Instr.sliceBounds, sliceBound_run km m cap _ hm0 h4, sliceBound_run kh h m.toNat _ hh0 (by omega), sliceBound_run kl l h.toNat _ h1 (by omega)]
theorem sim_slice {t e : TypeId} {i : TypeInfo} {x : Operand} {lo hi mx : Option Operand} {ax : AOpd} {al ah am : Option AOpd} (ho : o.op = .slice t x lo hi mx) (ht : P.underlying t = some (.slice e)) (hi' : P.info? e = some i)
    (hx : compOpd x = some ax) (hl : optOpd lo = some al) (hh : optOpd hi = some ah) (hm : optOpd mx = some am) : Sim P o (fun fr σ => (AOp.slice i.size ax al ah am).step fr σ) := by
  refine Sim.still fun w0 ρ σ w fr a v σ' hr hf he => ?_
  have hv := compOpd_ev hx hf
  simp only [AOp.step] at he
  split at he
  · rename_i l h m e1 e2 e3
    have kl := optOpd_ev hl hf e1
    have kh := optOpd_ev hh hf e2
    have km := optOpd_ev hm hf e3
    simp only [Option.map_eq_some_iff, Prod.mk.injEq] at he
    obtain ⟨u, hu, rfl, rfl⟩ := he
    refine ⟨rfl, ?_⟩
    have hrun : ∀ (s : Option Addr) (n c : Nat), a.eval x = .slice s n c → (m.isSome = true → h.isSome = true) → 0 ≤ l.getD 0 → l.getD 0 ≤ h.getD n → h.getD n ≤ m.getD c → m.getD c ≤ c →
        (execOp a.eval o).run P w = .ok (.value (.slice (if (m.getD c).toNat = (l.getD 0).toNat then s else s.map (·.add ((l.getD 0).toNat * i.size))) ((h.getD n).toNat - (l.getD 0).toNat) ((m.getD c).toNat - (l.getD 0).toNat))) w := by
      intro s n c hxe g1 g2 g3 g4 g5
      have hb := sliceBounds_run n c kl kh km g1 g2 g3 g4 g5 w (P := P)
      simp only [execOp, ho, hxe, Instr.sliceAt, Instr.slice, Sem.run_bind, run_underlying ht, Result.andThen_ok, hb, run_sizeOf' hi', Sem.run_pure]
    generalize ha : a.eval x = X at hv
    unfold sliceA at hu
    split at hu
    · rename_i n0 c0 ee
      split at hu
      · rename_i hc
        obtain ⟨rfl, rfl, c1, c2, c3, c4⟩ := hc
        cases hu
        rw [ee] at hv
        cases hv
        have hmd : m.getD (0 : Nat) = 0 := by cases m <;> simp_all
        have hhd : h.getD (0 : Nat) = 0 := by cases h <;> simp_all
        refine ⟨.slice none 0 0, ?_, .sl0⟩
        rw [hrun none 0 0 ha c4 (by omega) (by omega) (by omega) (by omega), hmd, hhd, c1]
        simp
      · cases hu
    · rename_i s n c ee
      split at hu
      · rename_i hc
        obtain ⟨c1, c3, c4, c5, c6, c7⟩ := hc
        cases hu
        rw [ee] at hv
        cases hv with
        | sl _ s' _ _ c' g1 g2 g3 =>
        have hmc : m.getD (c' : Int) ≤ c' ∧ h.getD n ≤ m.getD (c' : Int) := by
          cases m <;> simp only [Option.getD_none, Option.getD_some] at * <;> omega
        rw [hrun (some s') n c' ha c1 c4 c5 hmc.2 hmc.1]
        refine ⟨_, rfl, ?_⟩
        have hB := hr.base
        by_cases hz : (m.getD (c' : Int)).toNat = (l.getD 0).toNat
        · rw [if_pos hz]
          have : (h.getD n).toNat - (l.getD 0).toNat = 0 := by omega
          rw [this, hz, Nat.sub_self]
          exact .sl _ _ _ _ _ (fun _ => rfl) (Nat.le_refl _) (.inl rfl)
        · rw [if_neg hz]
          simp only [Option.map_some]
          have hc0 : c' ≠ 0 := by intro e; subst e; cases m <;> simp_all <;> omega
          obtain ⟨h1, h2⟩ := g3.resolve_left hc0
          rw [addr_add' h1.2.1]
          refine .sl _ _ _ _ _ ?_ (by omega) (.inr ⟨h1.add _, fun hb l0 hl0 => ?_⟩)
          · cases m with
            | none =>
              simp only [Option.getD_none] at *
              intro hcap
              unfold capA at hcap
              split at hcap
              · rename_i h0; exact absurd (g1 h0) hc0
              · omega
            | some m =>
              simp only [Option.getD_some] at *
              exact id
          · have h3 := h2 hb l0 hl0
            have h4 := hr.esz _ _ hl0
            change l0.esz = (σ.blk s.block).esz at h4
            have h6 : ((m.getD (c' : Int)).toNat - (l.getD 0).toNat) + (l.getD 0).toNat ≤ c' := by omega
            have h7 : ((m.getD (c' : Int)).toNat - (l.getD 0).toNat) * l0.esz + (l.getD 0).toNat * l0.esz ≤ c' * l0.esz := by rw [← Nat.add_mul]; exact Nat.mul_le_mul_right _ h6
            have h8 : (l.getD 0).toNat * i.size = (l.getD 0).toNat * l0.esz := by
              rcases c3 with c3 | c3
              · rw [c3]; simp
              · have h5 := c3 (by rw [hB]; exact hb)
                change (σ.blk s.block).esz = i.size at h5
                rw [h4, h5]
            simp only
            omega
      · cases hu
    · cases hu
  · cases he
end
end Go.AH
