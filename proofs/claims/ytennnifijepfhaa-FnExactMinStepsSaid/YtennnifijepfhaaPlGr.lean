/- Graphs, as plain functions: no cycle of steps 0, by two ways of computing it. -/
import Derived.Test.YtennnifijepfhaaDtCh
namespace Go.Proofs.Ytennnifijepfhaa
open Go Go.AH
set_option linter.unusedSimpArgs false
set_option linter.unusedVariables false
abbrev Rel2 := Nat → Nat → Bool
def stg (m : Nat) (R : Rel2) : Rel2 := fun a b => R a b || (R a m && R m b)
def Rm (R : Rel2) : Nat → Rel2
  | 0 => R
  | m + 1 => stg m (Rm R m)
theorem Rm_mono {R : Rel2} {m a b : Nat} (h : Rm R m a b = true) : Rm R (m + 1) a b = true := by
  show (Rm R m a b || _) = true
  rw [h]; rfl
theorem Rm_le {R : Rel2} {a b : Nat} : ∀ {m k : Nat}, m ≤ k → Rm R m a b = true → Rm R k a b = true := by
  intro m k h
  induction h with
  | refl => exact id
  | step _ ih => exact fun h => Rm_mono (ih h)
/-- Closed over the numbers that have been gone through. -/
theorem Rm_closed (R : Rel2) : ∀ (m : Nat) (a b k : Nat), k < m → Rm R m a k = true → Rm R m k b = true → Rm R m a b = true
  | 0, a, b, k, h, _, _ => by omega
  | m + 1, a, b, k, h, h1, h2 => by
    have ih := Rm_closed R m
    simp only [Rm, stg, Bool.or_eq_true, Bool.and_eq_true] at h1 h2 ⊢
    by_cases hk : k < m
    · rcases h1 with h1 | ⟨h1, h1'⟩ <;> rcases h2 with h2 | ⟨h2, h2'⟩
      · exact .inl (ih a b k hk h1 h2)
      · exact .inr ⟨ih a m k hk h1 h2, h2'⟩
      · exact .inr ⟨h1, ih m b k hk h1' h2⟩
      · exact .inr ⟨h1, h2'⟩
    · have : k = m := by omega
      subst this
      rcases h1 with h1 | ⟨h1, h1'⟩ <;> rcases h2 with h2 | ⟨h2, h2'⟩
      · exact .inr ⟨h1, h2⟩
      · exact .inr ⟨h1, h2'⟩
      · exact .inr ⟨h1, h2⟩
      · exact .inr ⟨h1, h2'⟩
/-- A vertex that reaches itself reaches another that reaches it. -/
theorem Rm_diag {R : Rel2} (h0 : ∀ a, R a a = false) : ∀ (m a : Nat), Rm R m a a = true → ∃ k, k ≠ a ∧ k < m ∧ Rm R m a k = true ∧ Rm R m k a = true
  | 0, a, h => by rw [Rm, h0] at h; cases h
  | m + 1, a, h => by
    have h' := h
    simp only [Rm, stg, Bool.or_eq_true, Bool.and_eq_true] at h'
    rcases h' with h' | ⟨h1, h2⟩
    · obtain ⟨k, k1, k2, k3, k4⟩ := Rm_diag h0 m a h'
      exact ⟨k, k1, by omega, Rm_mono k3, Rm_mono k4⟩
    · by_cases hm : m = a
      · subst hm
        obtain ⟨k, k1, k2, k3, k4⟩ := Rm_diag h0 m m h1
        exact ⟨k, k1, by omega, Rm_mono k3, Rm_mono k4⟩
      · exact ⟨m, hm, by omega, Rm_mono h1, Rm_mono h2⟩
def R0 (cs : List Chan) : Rel2 := fun a b => cs.any fun c => decide (c.fr = a) && decide (c.to = b) && decide (c.st = 0)
abbrev Mat := Nat → Nat → Int
def dI (cs : List Chan) : Mat := fun a b => cs.foldl (fun (x : Int) (c : Chan) => if (c.fr = (a : Int) ∧ c.to = (b : Int)) ∧ (x < 0 ∨ c.st < x) then c.st else x) (if a = b then 0 else -1)
def fw (m : Nat) (D : Mat) : Mat := fun a b => if D a m ≥ 0 ∧ D m b ≥ 0 ∧ (D a b < 0 ∨ D a m + D m b < D a b) then D a m + D m b else D a b
def Dm (D : Mat) : Nat → Mat
  | 0 => D
  | m + 1 => fw m (Dm D m)
/-- The channels of a graph of n operators. -/
def ChOk (n : Nat) (cs : List Chan) : Prop := ∀ c ∈ cs, 0 ≤ c.fr ∧ c.fr < n ∧ 0 ≤ c.to ∧ c.to < n ∧ 0 ≤ c.st ∧ c.st ≤ 3
theorem dI_zero {n : Nat} {a b : Nat} : ∀ (cs : List Chan), ChOk n cs → ∀ (x : Int), -1 ≤ x →
    (-1 ≤ cs.foldl (fun (x : Int) (c : Chan) => if (c.fr = (a : Int) ∧ c.to = (b : Int)) ∧ (x < 0 ∨ c.st < x) then c.st else x) x) ∧ (cs.foldl (fun (x : Int) (c : Chan) => if (c.fr = (a : Int) ∧ c.to = (b : Int)) ∧ (x < 0 ∨ c.st < x) then c.st else x) x = 0 ↔ x = 0 ∨ R0 cs a b = true)
  | [], _, x, hx => ⟨hx, by simp [R0]⟩
  | c :: cs, h, x, hx => by
    have hc := h c List.mem_cons_self
    have ih := fun y hy => dI_zero (a := a) (b := b) cs (fun c hc => h c (List.mem_cons_of_mem _ hc)) y hy
    have e : R0 (c :: cs) a b = ((decide (c.fr = a) && decide (c.to = b) && decide (c.st = 0)) || R0 cs a b) := by simp [R0]
    rw [List.foldl_cons, e]
    split
    · rename_i hh
      obtain ⟨i1, i2⟩ := ih c.st (by omega)
      refine ⟨i1, i2.trans ?_⟩
      simp only [hh.1.1, hh.1.2, decide_true, Bool.true_and, Bool.or_eq_true, decide_eq_true_eq]
      constructor
      · rintro (h | h)
        · exact .inr (.inl h)
        · exact .inr (.inr h)
      · rintro (h | h | h)
        · omega
        · exact .inl h
        · exact .inr h
    · rename_i hh
      obtain ⟨i1, i2⟩ := ih x hx
      refine ⟨i1, i2.trans ?_⟩
      simp only [Bool.or_eq_true, Bool.and_eq_true, decide_eq_true_eq]
      constructor
      · rintro (h | h)
        · exact .inl h
        · exact .inr (.inr h)
      · rintro (h | ⟨⟨h1, h2⟩, h3⟩ | h)
        · exact .inl h
        · left
          have : ¬ (x < 0 ∨ c.st < x) := fun h' => hh ⟨⟨h1, h2⟩, h'⟩
          omega
        · exact .inr h
/-- The matrix's zeros are the relation and the diagonal. -/
def Zr (D : Mat) (R : Rel2) : Prop := ∀ a b, -1 ≤ D a b ∧ (D a b = 0 ↔ a = b ∨ R a b = true)
theorem Zr_init {n : Nat} {cs : List Chan} (h : ChOk n cs) : Zr (dI cs) (R0 cs) := by
  intro a b
  obtain ⟨h1, h2⟩ := dI_zero (a := a) (b := b) cs h (if a = b then 0 else -1) (by split <;> omega)
  refine ⟨h1, h2.trans ?_⟩
  by_cases hab : a = b <;> simp [hab]
theorem Zr_step {D : Mat} {R : Rel2} (h : Zr D R) (m : Nat) : Zr (fw m D) (stg m R) := by
  intro a b
  obtain ⟨a1, a2⟩ := h a b
  obtain ⟨b1, b2⟩ := h a m
  obtain ⟨c1, c2⟩ := h m b
  unfold fw stg
  simp only [Bool.or_eq_true, Bool.and_eq_true]
  split
  · rename_i hh
    refine ⟨by omega, ?_⟩
    constructor
    · intro hz
      have y0 := b2.1 (by omega)
      have z0 := c2.1 (by omega)
      rcases y0 with rfl | y0
      · rcases z0 with rfl | z0
        · exact .inl rfl
        · exact .inr (.inl z0)
      · rcases z0 with rfl | z0
        · exact .inr (.inl y0)
        · exact .inr (.inr ⟨y0, z0⟩)
    · rintro (hz | hz | ⟨hz1, hz2⟩)
      · have := a2.2 (.inl hz); omega
      · have := a2.2 (.inr hz); omega
      · have := b2.2 (.inr hz1)
        have := c2.2 (.inr hz2)
        omega
  · rename_i hh
    refine ⟨a1, a2.trans ?_⟩
    constructor
    · rintro (hz | hz)
      · exact .inl hz
      · exact .inr (.inl hz)
    · rintro (hz | hz | ⟨hz1, hz2⟩)
      · exact .inl hz
      · exact .inr hz
      · have := b2.2 (.inr hz1)
        have := c2.2 (.inr hz2)
        exact a2.1 (by omega)
theorem Zr_all {n : Nat} {cs : List Chan} (h : ChOk n cs) : ∀ m, Zr (Dm (dI cs) m) (Rm (R0 cs) m)
  | 0 => Zr_init h
  | m + 1 => Zr_step (Zr_all h m) m
/-- Nothing leads from or to what is no operator. -/
theorem Rm_in {n : Nat} {cs : List Chan} (h : ChOk n cs) : ∀ (m a b : Nat), Rm (R0 cs) m a b = true → a < n ∧ b < n
  | 0, a, b, hr => by
    simp only [Rm, R0, List.any_eq_true, Bool.and_eq_true, decide_eq_true_eq] at hr
    obtain ⟨c, hc, ⟨h1, h2⟩, _⟩ := hr
    have := h c hc
    omega
  | m + 1, a, b, hr => by
    simp only [Rm, stg, Bool.or_eq_true, Bool.and_eq_true] at hr
    rcases hr with hr | ⟨h1, h2⟩
    · exact Rm_in h m a b hr
    · exact ⟨(Rm_in h m a m h1).1, (Rm_in h m m b h2).2⟩
theorem Rm_stop {n : Nat} {cs : List Chan} (h : ChOk n cs) : ∀ (m : Nat), n ≤ m → Rm (R0 cs) m = Rm (R0 cs) n := by
  intro m hm
  induction hm with
  | refl => rfl
  | step hm ih =>
    rename_i m
    rw [← ih]
    funext a b
    show (Rm (R0 cs) m a b || (Rm (R0 cs) m a m && Rm (R0 cs) m m b)) = _
    cases hx : Rm (R0 cs) m a m
    · simp
    · have hm' : n ≤ m := hm
      have := (Rm_in h m a m hx).2
      omega
def noLoop (cs : List Chan) : Bool := cs.all fun c => !(decide (c.fr = c.to) && decide (c.st = 0))
def sOkG (n : Nat) (cs : List Chan) : Bool := noLoop cs && (List.range n).all fun i => (List.range n).all fun k => !(!decide (i = k) && decide (Dm (dI cs) n i k = 0) && decide (Dm (dI cs) n k i = 0))
def iOkG (cs : List Chan) : Bool := (List.range 6).all fun i => !Rm (R0 cs) 6 i i
theorem okG_eq {n : Nat} {cs : List Chan} (hn : n ≤ 6) (h : ChOk n cs) : sOkG n cs = iOkG cs := by
  have h6 := Rm_stop h 6 hn
  have hz := Zr_all h n
  unfold sOkG iOkG
  rw [h6]
  cases hl : noLoop cs
  · rw [Bool.false_and]
    symm
    rw [List.all_eq_false]
    unfold noLoop at hl
    rw [List.all_eq_false] at hl
    obtain ⟨c, hc, hcl⟩ := hl
    simp at hcl
    have hck := h c hc
    have h0 : R0 cs c.fr.toNat c.fr.toNat = true := by
      simp only [R0, List.any_eq_true, Bool.and_eq_true, decide_eq_true_eq]
      exact ⟨c, hc, ⟨by omega, by omega⟩, hcl.2⟩
    have := Rm_le (R := R0 cs) (m := 0) (k := n) (Nat.zero_le _) h0
    exact ⟨c.fr.toNat, List.mem_range.2 (by omega), by simp [this]⟩
  · rw [Bool.true_and]
    have h0 : ∀ a, R0 cs a a = false := by
      intro a
      cases hr : R0 cs a a
      · rfl
      · exfalso
        simp only [R0, List.any_eq_true, Bool.and_eq_true, decide_eq_true_eq] at hr
        obtain ⟨c, hc, ⟨h1, h2⟩, h3⟩ := hr
        have := List.all_eq_true.1 hl c hc
        simp [h3] at this
        omega
    have hiff : (∀ i < n, ∀ k < n, ¬ (i ≠ k ∧ Dm (dI cs) n i k = 0 ∧ Dm (dI cs) n k i = 0)) ↔ (∀ i < 6, Rm (R0 cs) n i i = false) := by
      constructor
      · intro hA i hi
        cases hr : Rm (R0 cs) n i i
        · rfl
        · exfalso
          obtain ⟨k, k1, k2, k3, k4⟩ := Rm_diag h0 n i hr
          have hin := Rm_in h n i i hr
          exact hA i hin.1 k k2 ⟨fun e => k1 e.symm, (hz i k).2.2 (.inr k3), (hz k i).2.2 (.inr k4)⟩
      · intro hB i hi k hk ⟨hik, d1, d2⟩
        have r1 := (hz i k).2.1 d1
        have r2 := (hz k i).2.1 d2
        have r1 : Rm (R0 cs) n i k = true := r1.resolve_left hik
        have r2 : Rm (R0 cs) n k i = true := r2.resolve_left fun e => hik e.symm
        have := Rm_closed (R0 cs) n i i k hk r1 r2
        rw [hB i (by omega)] at this
        cases this
    rw [Bool.eq_iff_iff]
    simp only [List.all_eq_true, List.mem_range, Bool.not_eq_true', Bool.and_eq_false_iff, Bool.not_eq_false', decide_eq_true_eq, decide_eq_false_iff_not]
    refine Iff.trans ?_ hiff
    constructor
    · intro hA i hi k hk ⟨h1, h2, h3⟩
      rcases hA i hi k hk with (h | h) | h
      · exact h1 h
      · exact h h2
      · exact h h3
    · intro hA i hi k hk
      have := hA i hi k hk
      by_cases h1 : i = k
      · exact .inl (.inl h1)
      · by_cases h2 : Dm (dI cs) n i k = 0
        · right
          intro h3
          exact this ⟨h1, h2, h3⟩
        · exact .inl (.inr h2)
end Go.Proofs.Ytennnifijepfhaa
