/- The smallest sums of steps, by two ways of computing them. -/
import Derived.Test.YtennnifijepfhaaFnGs
namespace Go.Proofs.Ytennnifijepfhaa
open Go Go.AH
set_option linter.unusedSimpArgs false
set_option linter.unusedVariables false
/-- Closed over the numbers that have been gone through. -/
def Clo (m : Nat) (D : Mat) : Prop := ∀ a b k, k < m → 0 ≤ D a k → 0 ≤ D k b → 0 ≤ D a b ∧ D a b ≤ D a k + D k b
theorem fw_le {D : Mat} (m : Nat) {a b : Nat} (h : 0 ≤ D a b) : 0 ≤ fw m D a b ∧ fw m D a b ≤ D a b := by
  unfold fw; split <;> omega
theorem fw_via {D : Mat} (m : Nat) {a b : Nat} (h : 0 ≤ D a m) (k : 0 ≤ D m b) : 0 ≤ fw m D a b ∧ fw m D a b ≤ D a m + D m b := by
  unfold fw; split <;> omega
theorem fw_cases {D : Mat} (m : Nat) {a b : Nat} (h : 0 ≤ fw m D a b) : (0 ≤ D a b ∧ fw m D a b = D a b) ∨ (0 ≤ D a m ∧ 0 ≤ D m b ∧ fw m D a b = D a m + D m b) := by
  revert h
  unfold fw; split
  · intro _; right; omega
  · intro h; exact .inl ⟨h, rfl⟩
theorem clo_fw {m : Nat} {D : Mat} (h : Clo m D) (h0 : D m m = 0) : Clo (m + 1) (fw m D) := by
  intro a b k hk h1 h2
  by_cases hkm : k = m
  · subst hkm
    rw [fw_col h0] at h1 ⊢
    rw [fw_row h0] at h2 ⊢
    exact fw_via k h1 h2
  · have hk' : k < m := by omega
    rcases fw_cases m h1 with ⟨p1, p2⟩ | ⟨p1, p2, p3⟩ <;> rcases fw_cases m h2 with ⟨q1, q2⟩ | ⟨q1, q2, q3⟩
    · have := h a b k hk' p1 q1
      have := fw_le m this.1
      omega
    · have := h a m k hk' p1 q1
      have := fw_via m this.1 q2
      omega
    · have := h m b k hk' p2 q1
      have := fw_via m p1 this.1
      omega
    · have := fw_via m p1 q2
      omega
theorem clo_Dm {n : Nat} {cs : List Chan} (h : ChOk n cs) : ∀ m, Clo m (Dm (dI cs) m)
  | 0 => fun a b k hk => absurd hk (Nat.not_lt_zero _)
  | m + 1 => clo_fw (clo_Dm h m) ((Zr_all h m m m).2.2 (.inl rfl))
/-- A channel's step is not below the sum. -/
def ChLe (cs : List Chan) (D : Mat) : Prop := ∀ c ∈ cs, 0 ≤ D c.fr.toNat c.to.toNat ∧ D c.fr.toNat c.to.toNat ≤ c.st
theorem chLe_dI {n : Nat} {cs : List Chan} (h : ChOk n cs) : ChLe cs (dI cs) := by
  intro c hc
  have key : ∀ (a b : Nat) (cs : List Chan), ChOk n cs → ∀ x : Int, (0 ≤ x → 0 ≤ cs.foldl (fun (x : Int) (c : Chan) => if (c.fr = (a : Int) ∧ c.to = (b : Int)) ∧ (x < 0 ∨ c.st < x) then c.st else x) x ∧ cs.foldl (fun (x : Int) (c : Chan) => if (c.fr = (a : Int) ∧ c.to = (b : Int)) ∧ (x < 0 ∨ c.st < x) then c.st else x) x ≤ x) ∧ ∀ c ∈ cs, c.fr = (a : Int) → c.to = (b : Int) → 0 ≤ cs.foldl (fun (x : Int) (c : Chan) => if (c.fr = (a : Int) ∧ c.to = (b : Int)) ∧ (x < 0 ∨ c.st < x) then c.st else x) x ∧ cs.foldl (fun (x : Int) (c : Chan) => if (c.fr = (a : Int) ∧ c.to = (b : Int)) ∧ (x < 0 ∨ c.st < x) then c.st else x) x ≤ c.st := by
    intro a b cs
    induction cs with
    | nil => intro _ x; exact ⟨fun h => ⟨h, Int.le_refl _⟩, fun c hc => by cases hc⟩
    | cons d cs ih =>
      intro h x
      have hd := h d List.mem_cons_self
      rw [List.foldl_cons]
      have ih := ih (fun c hc => h c (List.mem_cons_of_mem _ hc)) (if (d.fr = (a : Int) ∧ d.to = (b : Int)) ∧ (x < 0 ∨ d.st < x) then d.st else x)
      refine ⟨fun hx => ?_, fun c hc e1 e2 => ?_⟩
      · have hh : 0 ≤ (if (d.fr = (a : Int) ∧ d.to = (b : Int)) ∧ (x < 0 ∨ d.st < x) then d.st else x) ∧ (if (d.fr = (a : Int) ∧ d.to = (b : Int)) ∧ (x < 0 ∨ d.st < x) then d.st else x) ≤ x := by split <;> omega
        have := ih.1 hh.1
        omega
      · rcases List.mem_cons.1 hc with rfl | hc
        · have hh : 0 ≤ (if (c.fr = (a : Int) ∧ c.to = (b : Int)) ∧ (x < 0 ∨ c.st < x) then c.st else x) ∧ (if (c.fr = (a : Int) ∧ c.to = (b : Int)) ∧ (x < 0 ∨ c.st < x) then c.st else x) ≤ c.st := by split <;> omega
          have := ih.1 hh.1
          omega
        · exact ih.2 c hc e1 e2
  have hck := h c hc
  exact (key _ _ cs h _).2 c hc (by omega) (by omega)
theorem chLe_Dm {n : Nat} {cs : List Chan} (h : ChOk n cs) : ∀ m, ChLe cs (Dm (dI cs) m)
  | 0 => chLe_dI h
  | m + 1 => fun c hc => by
    have h1 := chLe_Dm h m c hc
    have h2 := fw_le m h1.1
    show 0 ≤ fw m _ _ _ ∧ fw m _ _ _ ≤ _
    omega
/-- A walk over channels, and its sum. -/
inductive Wk (cs : List Chan) (a : Nat) : Nat → Int → Prop
  | nil : Wk cs a a 0
  | snoc {b : Nat} {w : Int} (c : Chan) : Wk cs a b w → c ∈ cs → c.fr = (b : Int) → Wk cs a c.to.toNat (w + c.st)
theorem Wk.app {cs : List Chan} {a b c : Nat} {v w : Int} (h : Wk cs a b v) (k : Wk cs b c w) : Wk cs a c (v + w) := by
  induction k with
  | nil => simpa using h
  | snoc d _ hd e ih => rw [← Int.add_assoc]; exact .snoc d ih hd e
theorem wk_dI {n : Nat} {cs : List Chan} (h : ChOk n cs) {a b : Nat} (h0 : 0 ≤ dI cs a b) : Wk cs a b (dI cs a b) := by
  have key : ∀ (ds : List Chan), (∀ c ∈ ds, c ∈ cs) → ∀ x : Int, (0 ≤ x → Wk cs a b x) → 0 ≤ ds.foldl (fun (x : Int) (c : Chan) => if (c.fr = (a : Int) ∧ c.to = (b : Int)) ∧ (x < 0 ∨ c.st < x) then c.st else x) x → Wk cs a b (ds.foldl (fun (x : Int) (c : Chan) => if (c.fr = (a : Int) ∧ c.to = (b : Int)) ∧ (x < 0 ∨ c.st < x) then c.st else x) x) := by
    intro ds
    induction ds with
    | nil => intro _ x hx; exact hx
    | cons c ds ih =>
      intro hs x hx
      rw [List.foldl_cons]
      refine ih (fun c hc => hs c (List.mem_cons_of_mem _ hc)) _ fun h1 => ?_
      by_cases hc : (c.fr = (a : Int) ∧ c.to = (b : Int)) ∧ (x < 0 ∨ c.st < x)
      · rw [if_pos hc]
        have := Wk.snoc (cs := cs) (a := a) c .nil (hs c List.mem_cons_self) hc.1.1
        rw [hc.1.2, Int.zero_add, Int.toNat_natCast] at this
        exact this
      · rw [if_neg hc] at h1 ⊢
        exact hx h1
  unfold dI at h0 ⊢
  refine key cs (fun _ h => h) _ (fun h1 => ?_) h0
  by_cases e : a = b
  · subst e; rw [if_pos rfl]; exact .nil
  · rw [if_neg e] at h1; omega
theorem wk_Dm {n : Nat} {cs : List Chan} (h : ChOk n cs) : ∀ (m : Nat) {a b : Nat}, 0 ≤ Dm (dI cs) m a b → Wk cs a b (Dm (dI cs) m a b)
  | 0, _, _, h0 => wk_dI h h0
  | m + 1, a, b, h0 => by
    rcases fw_cases m h0 with ⟨p1, p2⟩ | ⟨p1, p2, p3⟩
    · rw [show Dm (dI cs) (m + 1) a b = Dm (dI cs) m a b from p2]
      exact wk_Dm h m p1
    · rw [show Dm (dI cs) (m + 1) a b = Dm (dI cs) m a m + Dm (dI cs) m m b from p3]
      exact (wk_Dm h m p1).app (wk_Dm h m p2)
/-- The sums, as the reference answers them. -/
structure Dst (n : Nat) (cs : List Chan) (D : Mat) : Prop where
  self : ∀ a, D a a = 0
  clo : Clo n D
  ch : ChLe cs D
  wk : ∀ {a b}, 0 ≤ D a b → Wk cs a b (D a b)
  lo : ∀ a b, -1 ≤ D a b
theorem dst_Dm {n : Nat} {cs : List Chan} (h : ChOk n cs) : Dst n cs (Dm (dI cs) n) :=
  ⟨fun a => (Zr_all h n a a).2.2 (.inl rfl), clo_Dm h n, chLe_Dm h n, fun h0 => wk_Dm h n h0, fun a b => (Zr_all h n a b).1⟩
theorem Dst.low {n : Nat} {cs : List Chan} {D : Mat} (h : Dst n cs D) (hc : ChOk n cs) {a b : Nat} {w : Int} (k : Wk cs a b w) : 0 ≤ D a b ∧ D a b ≤ w := by
  induction k with
  | nil => rw [h.self]; omega
  | snoc c _ hm e ih =>
    rename_i b w _
    have hk := hc c hm
    have h1 := h.ch c hm
    have hb : c.fr.toNat = b := by omega
    rw [hb] at h1
    have := h.clo a c.to.toNat b (by omega) ih.1 h1.1
    omega
/-- One channel of a round. -/
def bf1 (f : Nat → Int) (c : Chan) : Nat → Int := if 0 ≤ f c.fr.toNat ∧ (f c.to.toNat < 0 ∨ f c.fr.toNat + c.st < f c.to.toNat) then fun x => if x = c.to.toNat then f c.fr.toNat + c.st else f x else f
def bfR (cs : List Chan) (f : Nat → Int) : Nat → Int := cs.foldl bf1 f
def bfI (a : Nat) : Nat → Int := fun x => if x = a then 0 else -1
def bfN (cs : List Chan) (a : Nat) : Nat → Nat → Int
  | 0 => bfI a
  | r + 1 => bfR cs (bfN cs a r)
/-- Never below the sums. -/
def Abv (D : Mat) (a : Nat) (f : Nat → Int) : Prop := ∀ x, -1 ≤ f x ∧ (0 ≤ f x → 0 ≤ D a x ∧ D a x ≤ f x)
def Fin (D : Mat) (a : Nat) (f : Nat → Int) (x : Nat) : Prop := 0 ≤ D a x → f x = D a x
theorem abv_1 {n : Nat} {cs : List Chan} {D : Mat} (h : Dst n cs D) (hc : ChOk n cs) {a : Nat} {f : Nat → Int} (hA : Abv D a f) {c : Chan} (hm : c ∈ cs) : Abv D a (bf1 f c) := by
  intro x
  unfold bf1
  by_cases hi : 0 ≤ f c.fr.toNat ∧ (f c.to.toNat < 0 ∨ f c.fr.toNat + c.st < f c.to.toNat)
  · rw [if_pos hi]
    by_cases hx : x = c.to.toNat
    · subst hx
      simp only [if_true]
      have hk := hc c hm
      have h1 := h.ch c hm
      have h2 := (hA c.fr.toNat).2 hi.1
      have := h.clo a c.to.toNat c.fr.toNat (by omega) h2.1 h1.1
      omega
    · simp only [if_neg hx]; exact hA x
  · rw [if_neg hi]; exact hA x
theorem fin_1 {n : Nat} {cs : List Chan} {D : Mat} (h : Dst n cs D) (hc : ChOk n cs) {a : Nat} {f : Nat → Int} (hA : Abv D a f) {c : Chan} (hm : c ∈ cs) {x : Nat} (hF : Fin D a f x) : Fin D a (bf1 f c) x := by
  intro h0
  have hx := hF h0
  have hA' := abv_1 h hc hA hm x
  unfold bf1 at hA' ⊢
  by_cases hi : 0 ≤ f c.fr.toNat ∧ (f c.to.toNat < 0 ∨ f c.fr.toNat + c.st < f c.to.toNat)
  · rw [if_pos hi] at hA' ⊢
    by_cases e : x = c.to.toNat
    · subst e
      simp only [if_true] at hA' ⊢
      have := hc c hm
      omega
    · simp only [if_neg e]; exact hx
  · rw [if_neg hi]; exact hx
theorem abv_R {n : Nat} {cs : List Chan} {D : Mat} (h : Dst n cs D) (hc : ChOk n cs) {a : Nat} : ∀ (ds : List Chan), (∀ c ∈ ds, c ∈ cs) → ∀ f, Abv D a f → Abv D a (ds.foldl bf1 f)
  | [], _, _, hA => hA
  | c :: ds, hs, f, hA => abv_R h hc ds (fun c hc => hs c (List.mem_cons_of_mem _ hc)) _ (abv_1 h hc hA (hs c List.mem_cons_self))
theorem fin_R {n : Nat} {cs : List Chan} {D : Mat} (h : Dst n cs D) (hc : ChOk n cs) {a x : Nat} : ∀ (ds : List Chan), (∀ c ∈ ds, c ∈ cs) → ∀ f, Abv D a f → Fin D a f x → Fin D a (ds.foldl bf1 f) x
  | [], _, _, _, hF => hF
  | c :: ds, hs, f, hA, hF => fin_R h hc ds (fun c hc => hs c (List.mem_cons_of_mem _ hc)) _ (abv_1 h hc hA (hs c List.mem_cons_self)) (fin_1 h hc hA (hs c List.mem_cons_self) hF)
/-- A channel that carries the smallest sum makes its end final. -/
theorem fin_new {n : Nat} {cs : List Chan} {D : Mat} (h : Dst n cs D) (hc : ChOk n cs) {a : Nat} {c : Chan} (h0 : 0 ≤ D a c.fr.toNat) (ht : D a c.to.toNat = D a c.fr.toNat + c.st) : ∀ (ds : List Chan), (∀ c ∈ ds, c ∈ cs) → c ∈ ds → ∀ f, Abv D a f → Fin D a f c.fr.toNat → Fin D a (ds.foldl bf1 f) c.to.toNat
  | [], _, hm, _, _, _ => by cases hm
  | d :: ds, hs, hm, f, hA, hF => by
    rw [List.foldl_cons]
    have hs' : ∀ c ∈ ds, c ∈ cs := fun c hc => hs c (List.mem_cons_of_mem _ hc)
    have hd := hs d List.mem_cons_self
    rcases List.mem_cons.1 hm with rfl | hm
    · refine fin_R h hc ds hs' _ (abv_1 h hc hA hd) fun h1 => ?_
      have hf := hF h0
      have hto := hA c.to.toNat
      unfold bf1
      by_cases hi : 0 ≤ f c.fr.toNat ∧ (f c.to.toNat < 0 ∨ f c.fr.toNat + c.st < f c.to.toNat)
      · rw [if_pos hi]; simp only [if_true]; omega
      · rw [if_neg hi]
        have := hto.2 (by omega)
        omega
    · exact fin_new h hc h0 ht ds hs' hm _ (abv_1 h hc hA hd) (fin_1 h hc hA hd hF)
/-- Along a walk of the smallest sum to a number that is not final there is a channel into one from a final one. -/
theorem wk_first {n : Nat} {cs : List Chan} {D : Mat} (h : Dst n cs D) (hc : ChOk n cs) {a : Nat} {f : Nat → Int} (ha : Fin D a f a) {x : Nat} {w : Int} (k : Wk cs a x w) : w = D a x → ¬ Fin D a f x → ∃ c ∈ cs, 0 ≤ D a c.fr.toNat ∧ D a c.to.toNat = D a c.fr.toNat + c.st ∧ Fin D a f c.fr.toNat ∧ ¬ Fin D a f c.to.toNat := by
  induction k with
  | nil => intro _ hn; exact absurd ha hn
  | snoc c kw hm e ih =>
    rename_i b w
    intro hw hn
    have hk := hc c hm
    have h1 := h.ch c hm
    have hb : c.fr.toNat = b := by omega
    have hl := h.low hc kw
    rw [hb] at h1
    have h2 := h.clo a c.to.toNat b (by omega) hl.1 h1.1
    have hwb : w = D a b := by omega
    by_cases hfb : Fin D a f b
    · exact ⟨c, hm, by rw [hb]; exact hl.1, by rw [hb]; omega, by rw [hb]; exact hfb, hn⟩
    · exact ih hwb hfb
theorem cnt_lt {p q : Nat → Bool} : ∀ (xs : List Nat), (∀ x ∈ xs, q x = true → p x = true) → (∃ x ∈ xs, p x = true ∧ q x = false) → (xs.filter q).length < (xs.filter p).length
  | [], _, ⟨x, hx, _⟩ => by cases hx
  | y :: xs, h, ⟨x, hx, h1, h2⟩ => by
    have hle : ∀ ys : List Nat, (∀ x ∈ ys, q x = true → p x = true) → (ys.filter q).length ≤ (ys.filter p).length := by
      intro ys
      induction ys with
      | nil => intro _; exact Nat.le_refl _
      | cons z ys ih =>
        intro hz
        have := ih fun x hx => hz x (List.mem_cons_of_mem _ hx)
        have hzz := hz z List.mem_cons_self
        cases hq : q z <;> cases hp : p z <;> simp [hq, hp] <;> simp_all <;> omega
    have ht := fun x hx => h x (List.mem_cons_of_mem _ hx)
    have hyy := h y List.mem_cons_self
    rcases List.mem_cons.1 hx with rfl | hx
    · have := hle xs ht
      simp [h1, h2]; omega
    · have := cnt_lt xs ht ⟨x, hx, h1, h2⟩
      cases hq : q y <;> cases hp : p y <;> simp [hq, hp] <;> simp_all <;> omega
theorem bf_abv {n : Nat} {cs : List Chan} {D : Mat} (h : Dst n cs D) (hc : ChOk n cs) (a : Nat) : ∀ r, Abv D a (bfN cs a r)
  | 0 => fun x => by
    show -1 ≤ bfI a x ∧ _
    unfold bfI
    by_cases e : x = a
    · subst e; simp [bfN, bfI, h.self]
    · simp [bfN, bfI, e]
  | r + 1 => abv_R h hc cs (fun _ h => h) _ (bf_abv h hc a r)
theorem bf_self {n : Nat} {cs : List Chan} {D : Mat} (h : Dst n cs D) (hc : ChOk n cs) (a : Nat) : ∀ r, Fin D a (bfN cs a r) a
  | 0 => fun _ => by simp [bfN, bfI, h.self]
  | r + 1 => fin_R h hc cs (fun _ h => h) _ (bf_abv h hc a r) (bf_self h hc a r)
open Classical in
theorem bf_cnt {n : Nat} {cs : List Chan} {D : Mat} (h : Dst n cs D) (hc : ChOk n cs) {a : Nat} (ha : a < n) : ∀ r, ((List.range n).filter fun x => decide (¬ Fin D a (bfN cs a r) x)).length + r ≤ n ∨ ∀ x < n, Fin D a (bfN cs a r) x
  | 0 => .inl (by have := List.length_filter_le (fun x => decide (¬ Fin D a (bfN cs a 0) x)) (List.range n); simp at this ⊢; exact this)
  | r + 1 => by
    by_cases hall : ∀ x < n, Fin D a (bfN cs a r) x
    · exact .inr fun x hx => fin_R h hc cs (fun _ h => h) _ (bf_abv h hc a r) (hall x hx)
    · left
      have ih := (bf_cnt h hc ha r).resolve_right hall
      obtain ⟨x, hx⟩ := Classical.not_forall.1 hall
      obtain ⟨hxn, hx⟩ := Classical.not_imp.1 hx
      have h0 : 0 ≤ D a x := Classical.byContradiction fun hn => hx fun h0 => absurd h0 hn
      obtain ⟨c, hm, h1, h2, h3, h4⟩ := wk_first h hc (bf_self h hc a r) (h.wk h0) rfl hx
      have hck := hc c hm
      have hnew : Fin D a (bfN cs a (r + 1)) c.to.toNat := fin_new h hc h1 h2 cs (fun _ h => h) hm _ (bf_abv h hc a r) h3
      have := cnt_lt (p := fun x => decide (¬ Fin D a (bfN cs a r) x)) (q := fun x => decide (¬ Fin D a (bfN cs a (r + 1)) x)) (List.range n) (fun x _ hq => by
        simp only [decide_eq_true_eq] at hq ⊢
        exact fun hf => hq (fin_R h hc cs (fun _ h => h) _ (bf_abv h hc a r) hf)) ⟨c.to.toNat, List.mem_range.2 (by omega), by simpa using h4, by simpa using hnew⟩
      omega
open Classical in
/-- After n rounds they are the sums. -/
theorem bf_end {n : Nat} {cs : List Chan} (hc : ChOk n cs) {a b : Nat} (ha : a < n) (hb : b < n) : bfN cs a n b = Dm (dI cs) n a b := by
  have h := dst_Dm hc
  have hfin : ∀ x < n, Fin (Dm (dI cs) n) a (bfN cs a n) x := by
    rcases bf_cnt h hc ha n with hh | hh
    · have hz : ((List.range n).filter fun x => decide (¬ Fin (Dm (dI cs) n) a (bfN cs a n) x)).length = 0 := by omega
      rw [List.length_eq_zero_iff, List.filter_eq_nil_iff] at hz
      intro x hx
      have := hz x (List.mem_range.2 hx)
      simpa using this
    · exact hh
  have hA := bf_abv h hc a n b
  have hl := h.lo a b
  by_cases h0 : 0 ≤ Dm (dI cs) n a b
  · exact hfin b hb h0
  · by_cases h1 : 0 ≤ bfN cs a n b
    · exact absurd (hA.2 h1).1 h0
    · omega
/-- How large they get. -/
theorem bf1_bd {n : Nat} {cs : List Chan} (hc : ChOk n cs) {f : Nat → Int} {B : Int} (h : ∀ x, -1 ≤ f x ∧ f x ≤ B) {c : Chan} (hm : c ∈ cs) (x : Nat) : -1 ≤ bf1 f c x ∧ bf1 f c x ≤ B + 3 := by
  have hk := hc c hm
  have h1 := h c.fr.toNat
  have h2 := h x
  unfold bf1
  by_cases hi : 0 ≤ f c.fr.toNat ∧ (f c.to.toNat < 0 ∨ f c.fr.toNat + c.st < f c.to.toNat)
  · rw [if_pos hi]
    by_cases e : x = c.to.toNat
    · simp only [if_pos e]; omega
    · simp only [if_neg e]; omega
  · rw [if_neg hi]; omega
end Go.Proofs.Ytennnifijepfhaa
