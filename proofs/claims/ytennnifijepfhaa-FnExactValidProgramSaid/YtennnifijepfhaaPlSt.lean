/- Strata, as plain lists: the reference's rounds and the program's come to the same. -/
import Derived.Test.YtennnifijepfhaaDtRu
namespace Go.Proofs.Ytennnifijepfhaa
open Go Go.AH
set_option linter.unusedSimpArgs false
set_option linter.unusedVariables false
abbrev Lv := Int → Int
def nd (o : Lv) (a : At) : Int := o a.p + if a.n = true then 1 else 0
def up (h : Int) (s : Lv × Bool) (a : At) : Lv × Bool := if s.1 h < nd s.1 a then (fun v => if v = h then nd s.1 a else s.1 v, true) else s
def passR (s : Lv × Bool) (r : Ru) : Lv × Bool := r.b.foldl (up r.h.p) s
def pass (o : Lv) (rs : List Ru) : Lv × Bool := rs.foldl passR (o, false)
/-- The reference: some rounds, the first that changes nothing. -/
def sIt (rs : List Ru) : Nat → Lv → Option Lv
  | 0, _ => none
  | k + 1, o => if (pass o rs).2 = true then sIt rs k (pass o rs).1 else some (pass o rs).1
/-- The program: it gives up where a need exceeds 3. -/
def upF (h : Int) (s : Option (Lv × Bool)) (a : At) : Option (Lv × Bool) := match s with
  | some s => if 3 < nd s.1 a then none else some (up h s a)
  | none => none
def passRF (s : Option (Lv × Bool)) (r : Ru) : Option (Lv × Bool) := r.b.foldl (upF r.h.p) s
def passF (o : Lv) (rs : List Ru) : Option (Lv × Bool) := rs.foldl passRF (some (o, false))
def iIt (rs : List Ru) : Nat → Lv → Option Lv
  | 0, _ => none
  | k + 1, o => match passF o rs with
    | some (o', true) => iIt rs k o'
    | some (o', false) => some o'
    | none => none
/-- All pairs of a head and an atom, in order. -/
def prs (rs : List Ru) : List (Int × At) := rs.flatMap fun r => r.b.map fun a => (r.h.p, a)
theorem pass_prs (rs : List Ru) : ∀ s : Lv × Bool, rs.foldl passR s = (prs rs).foldl (fun s p => up p.1 s p.2) s := by
  induction rs with
  | nil => intro s; rfl
  | cons r rs ih => intro s; simp only [List.foldl_cons, prs, List.flatMap_cons, List.foldl_append, List.foldl_map]; exact ih _
theorem passF_prs (rs : List Ru) : ∀ s : Option (Lv × Bool), rs.foldl passRF s = (prs rs).foldl (fun s p => upF p.1 s p.2) s := by
  induction rs with
  | nil => intro s; rfl
  | cons r rs ih => intro s; simp only [List.foldl_cons, prs, List.flatMap_cons, List.foldl_append, List.foldl_map]; exact ih _
/-- What a valid program's pairs are. -/
def OkP (l : List (Int × At)) : Prop := ∀ p ∈ l, (p.1 = 2 ∨ p.1 = 3) ∧ (p.2.p = 0 ∨ p.2.p = 1 ∨ p.2.p = 2 ∨ p.2.p = 3)
def SolP (l : List (Int × At)) (m : Lv) : Prop := ∀ p ∈ l, nd m p.2 ≤ m p.1
def Lv.le (o m : Lv) : Prop := ∀ v, o v ≤ m v
theorem nd_le {o m : Lv} (h : o.le m) (a : At) : nd o a ≤ nd m a := by unfold nd; have := h a.p; omega
theorem up_le {o m : Lv} {c : Bool} {h : Int} {a : At} (ho : o.le m) (hs : nd m a ≤ m h) : Lv.le (up h (o, c) a).1 m := by
  intro v
  unfold up
  split
  · have := nd_le ho a
    simp only
    split
    · rename_i e; subst e; omega
    · exact ho v
  · exact ho v
theorem fold_le {m : Lv} : ∀ (l : List (Int × At)) (s : Lv × Bool), SolP l m → s.1.le m → Lv.le (l.foldl (fun s p => up p.1 s p.2) s).1 m
  | [], s, _, h => h
  | p :: l, s, hs, h => fold_le l _ (fun q hq => hs q (List.mem_cons_of_mem _ hq)) (up_le h (hs p List.mem_cons_self))
theorem up_ge (h : Int) (s : Lv × Bool) (a : At) : Lv.le s.1 (up h s a).1 := by
  intro v
  unfold up
  split
  · simp only
    split
    · rename_i hlt e; subst e; omega
    · omega
  · omega
theorem fold_ge : ∀ (l : List (Int × At)) (s : Lv × Bool), Lv.le s.1 (l.foldl (fun s p => up p.1 s p.2) s).1
  | [], s => fun v => by simp
  | p :: l, s => fun v => by
    have h1 := up_ge p.1 s p.2 v
    have h2 := fold_ge l (up p.1 s p.2) v
    rw [List.foldl_cons]
    omega
/-- A round that changes nothing: nothing was to be changed. -/
theorem fold_same : ∀ (l : List (Int × At)) (s : Lv × Bool), (l.foldl (fun s p => up p.1 s p.2) s).2 = false → s.2 = false ∧ (l.foldl (fun s p => up p.1 s p.2) s).1 = s.1 ∧ SolP l s.1
  | [], s, h => ⟨h, rfl, fun p hp => by cases hp⟩
  | p :: l, s, h => by
    rw [List.foldl_cons] at h ⊢
    obtain ⟨h1, h2, h3⟩ := fold_same l _ h
    by_cases hc : s.1 p.1 < nd s.1 p.2
    · simp [up, hc] at h1
    · have e : up p.1 s p.2 = s := by simp [up, hc]
      rw [e] at h1 h2 h3 ⊢
      refine ⟨h1, h2, fun q hq => ?_⟩
      rcases List.mem_cons.1 hq with rfl | hq
      · omega
      · exact h3 q hq
/-- A round that changes something: a head's number has grown. -/
theorem fold_more : ∀ (l : List (Int × At)) (s : Lv × Bool), OkP l → s.2 = false → (l.foldl (fun s p => up p.1 s p.2) s).2 = true → s.1 2 + s.1 3 < (l.foldl (fun s p => up p.1 s p.2) s).1 2 + (l.foldl (fun s p => up p.1 s p.2) s).1 3
  | [], s, _, h, h2 => by simp at h2; rw [h] at h2; cases h2
  | p :: l, s, ho, h, h2 => by
    rw [List.foldl_cons] at h2 ⊢
    by_cases hc : s.1 p.1 < nd s.1 p.2
    · have g2 := fold_ge l (up p.1 s p.2) 2
      have g3 := fold_ge l (up p.1 s p.2) 3
      have hu : (up p.1 s p.2).1 p.1 = nd s.1 p.2 := by simp [up, hc]
      have k2 := up_ge p.1 s p.2 2
      have k3 := up_ge p.1 s p.2 3
      have : s.1 2 + s.1 3 < (up p.1 s p.2).1 2 + (up p.1 s p.2).1 3 := by
        rcases (ho p List.mem_cons_self).1 with e | e
        · rw [e] at hu hc; rw [e]; rw [e] at k3; omega
        · rw [e] at hu hc; rw [e]; rw [e] at k2; omega
      omega
    · have e : up p.1 s p.2 = s := by simp [up, hc]
      rw [e] at h2 ⊢
      exact fold_more l s (fun q hq => ho q (List.mem_cons_of_mem _ hq)) h h2
/-- If there is a solution at all, there is one with small numbers. -/
theorem small {l : List (Int × At)} (ho : OkP l) {m : Lv} (hm : SolP l m) : ∃ a b : Int, 0 ≤ a ∧ 0 ≤ b ∧ a + b ≤ 3 ∧ a ≤ 2 ∧ b ≤ 2 ∧ SolP l fun v => if v = 2 then a else if v = 3 then b else 0 := by
  have key : ∀ r ∈ l, ∃ w : Int, (0 ≤ w ∧ w ≤ 1) ∧ m r.2.p + w ≤ m r.1 ∧ ∀ o : Lv, nd o r.2 = o r.2.p + w := fun r hr => by
    have a3 := hm r hr
    unfold nd at a3
    refine ⟨if r.2.n = true then 1 else 0, by split <;> omega, a3, fun o => rfl⟩
  by_cases h1 : ∃ p ∈ l, p.1 = 2 ∧ p.2.p = 3
  · by_cases h2 : ∃ p ∈ l, p.1 = 3 ∧ p.2.p = 2
    · obtain ⟨p, hp, e1, e2⟩ := h1
      obtain ⟨q, hq, f1, f2⟩ := h2
      obtain ⟨w1, q1, a1, _⟩ := key p hp
      obtain ⟨w2, q2, a2, _⟩ := key q hq
      rw [e1, e2] at a1
      rw [f1, f2] at a2
      refine ⟨1, 1, by omega, by omega, by omega, by omega, by omega, fun r hr => ?_⟩
      obtain ⟨w, q3, a3, en⟩ := key r hr
      obtain ⟨g1, g2⟩ := ho r hr
      rw [en]
      rcases g1 with e | e <;> rcases g2 with f | f | f | f <;> rw [e, f] at a3 <;> simp only [e, f] <;> simp <;> omega
    · refine ⟨2, 1, by omega, by omega, by omega, by omega, by omega, fun r hr => ?_⟩
      obtain ⟨w, q3, a3, en⟩ := key r hr
      obtain ⟨g1, g2⟩ := ho r hr
      rw [en]
      by_cases hx : r.1 = 3 ∧ r.2.p = 2
      · exact absurd ⟨r, hr, hx⟩ h2
      rcases g1 with e | e <;> rcases g2 with f | f | f | f <;> rw [e, f] at a3 hx <;> simp only [e, f] <;> simp at hx ⊢ <;> omega
  · refine ⟨1, 2, by omega, by omega, by omega, by omega, by omega, fun r hr => ?_⟩
    obtain ⟨w, q3, a3, en⟩ := key r hr
    obtain ⟨g1, g2⟩ := ho r hr
    rw [en]
    by_cases hx : r.1 = 2 ∧ r.2.p = 3
    · exact absurd ⟨r, hr, hx⟩ h1
    rcases g1 with e | e <;> rcases g2 with f | f | f | f <;> rw [e, f] at a3 hx <;> simp only [e, f] <;> simp at hx ⊢ <;> omega
/-- The program's round, where no need is too great, and where one is. -/
theorem foldF_some : ∀ (l : List (Int × At)) (s r : Lv × Bool), l.foldl (fun s p => upF p.1 s p.2) (some s) = some r → l.foldl (fun s p => up p.1 s p.2) s = r
  | [], s, r, h => by simpa using h
  | p :: l, s, r, h => by
    rw [List.foldl_cons, show upF p.1 (some s) p.2 = if 3 < nd s.1 p.2 then none else some (up p.1 s p.2) from rfl] at h
    rw [List.foldl_cons]
    split at h
    · exfalso
      have : ∀ l : List (Int × At), l.foldl (fun s p => upF p.1 s p.2) (none : Option (Lv × Bool)) = none := fun l => by induction l with
        | nil => rfl
        | cons p l ih => simpa [upF] using ih
      rw [this] at h
      cases h
    · exact foldF_some l _ r h
theorem foldF_ok {m : Lv} (hm : ∀ v, v = 2 ∨ v = 3 → m v ≤ 3) : ∀ (l : List (Int × At)) (s : Lv × Bool), OkP l → SolP l m → s.1.le m → l.foldl (fun s p => upF p.1 s p.2) (some s) = some (l.foldl (fun s p => up p.1 s p.2) s)
  | [], s, _, _, _ => rfl
  | p :: l, s, ho, hs, h => by
    rw [List.foldl_cons, List.foldl_cons]
    have h1 := hs p List.mem_cons_self
    have h2 := nd_le h p.2
    have h3 := hm p.1 (ho p List.mem_cons_self).1
    simp only [upF, if_neg (show ¬ 3 < nd s.1 p.2 by omega)]
    exact foldF_ok hm l _ (fun q hq => ho q (List.mem_cons_of_mem _ hq)) (fun q hq => hs q (List.mem_cons_of_mem _ hq)) (up_le h h1)
theorem foldF_bd : ∀ (l : List (Int × At)) (s r : Lv × Bool), (∀ v, s.1 v ≤ 3) → l.foldl (fun s p => upF p.1 s p.2) (some s) = some r → ∀ v, r.1 v ≤ 3
  | [], s, r, hb, h => by simp at h; rw [← h]; exact hb
  | p :: l, s, r, hb, h => by
    rw [List.foldl_cons, show upF p.1 (some s) p.2 = if 3 < nd s.1 p.2 then none else some (up p.1 s p.2) from rfl] at h
    split at h
    · exfalso
      have : ∀ l : List (Int × At), l.foldl (fun s p => upF p.1 s p.2) (none : Option (Lv × Bool)) = none := fun l => by induction l with
        | nil => rfl
        | cons p l ih => simpa [upF] using ih
      rw [this] at h
      cases h
    · refine foldF_bd l _ r (fun v => ?_) h
      unfold up
      split
      · simp only
        split
        · omega
        · exact hb v
      · exact hb v
def o0 : Lv := fun _ => 0
/-- With a solution, at most three rounds change something. -/
theorem sIt_sol {rs : List Ru} (ho : OkP (prs rs)) {m : Lv} (hm : SolP (prs rs) m) (hm3 : ∀ v, v = 2 ∨ v = 3 → m v ≤ 3) : ∀ (k : Nat) (o : Lv), o.le m → m 2 + m 3 - (o 2 + o 3) < k → ∃ o', sIt rs k o = some o' ∧ iIt rs k o = some o'
  | 0, o, hle, h => by have := hle 2; have := hle 3; omega
  | k + 1, o, hle, h => by
    have e1 : passF o rs = some (pass o rs) := by
      unfold passF pass
      rw [passF_prs, pass_prs]
      exact foldF_ok hm3 _ _ ho hm hle
    unfold sIt iIt
    rw [e1]
    by_cases hc : (pass o rs).2 = true
    · have hl : Lv.le (pass o rs).1 m := by unfold pass; rw [pass_prs]; exact fold_le _ _ hm hle
      have hg : o 2 + o 3 < (pass o rs).1 2 + (pass o rs).1 3 := by
        unfold pass at hc ⊢; rw [pass_prs] at hc ⊢; exact fold_more _ _ ho rfl hc
      obtain ⟨o', h1, h2⟩ := sIt_sol ho hm hm3 k (pass o rs).1 hl (by omega)
      refine ⟨o', by rw [if_pos hc]; exact h1, ?_⟩
      rw [show pass o rs = ((pass o rs).1, true) from Prod.ext rfl hc]
      exact h2
    · have hc' : (pass o rs).2 = false := by simpa using hc
      refine ⟨(pass o rs).1, by rw [if_neg hc], ?_⟩
      rw [show pass o rs = ((pass o rs).1, false) from Prod.ext rfl hc']
theorem sIt_fix {rs : List Ru} : ∀ (k : Nat) (o o' : Lv), sIt rs k o = some o' → SolP (prs rs) o'
  | 0, o, o', h => by cases h
  | k + 1, o, o', h => by
    unfold sIt at h
    split at h
    · exact sIt_fix k _ _ h
    · rename_i hc
      cases h
      have hc' : (pass o rs).2 = false := by simpa using hc
      unfold pass at hc' ⊢
      rw [pass_prs] at hc' ⊢
      obtain ⟨_, h1, h2⟩ := fold_same _ _ hc'
      rw [h1]; exact h2
theorem iIt_fix {rs : List Ru} : ∀ (k : Nat) (o o' : Lv), iIt rs k o = some o' → SolP (prs rs) o'
  | 0, o, o', h => by cases h
  | k + 1, o, o', h => by
    unfold iIt at h
    split at h
    · exact iIt_fix k _ _ h
    · rename_i o2 hp
      cases h
      unfold passF at hp
      rw [passF_prs] at hp
      have := foldF_some _ _ _ hp
      have hc' : ((prs rs).foldl (fun s p => up p.1 s p.2) (o, false)).2 = false := by rw [this]
      obtain ⟨_, h1, h2⟩ := fold_same _ _ hc'
      rw [this] at h1
      simp at h1
      rw [h1]; exact h2
    · cases h
/-- Both come to the same. -/
theorem sIt_iIt {rs : List Ru} (ho : OkP (prs rs)) : sIt rs 5 o0 = iIt rs 13 o0 := by
  by_cases hs : ∃ m, SolP (prs rs) m
  · obtain ⟨m, hm⟩ := hs
    obtain ⟨a, b, h1, h2, h3, h4, h5, hm2⟩ := small ho hm
    have hle : o0.le fun v => if v = 2 then a else if v = 3 then b else 0 := fun v => by
      show (0 : Int) ≤ if v = 2 then a else if v = 3 then b else 0
      split
      · exact h1
      · split
        · exact h2
        · omega
    have h33 : ∀ v : Int, v = 2 ∨ v = 3 → (if v = 2 then a else if v = 3 then b else 0) ≤ 3 := fun v hv => by rcases hv with rfl | rfl <;> simp <;> omega
    obtain ⟨o', e1, _⟩ := sIt_sol ho hm2 h33 5 o0 hle (by simp [o0]; omega)
    obtain ⟨o2, e2, e3⟩ := sIt_sol ho hm2 h33 13 o0 hle (by simp [o0]; omega)
    have mono : ∀ (k : Nat) (o o' : Lv), sIt rs k o = some o' → sIt rs (k + 8) o = some o' := by
      intro k
      induction k with
      | zero => intro o o' h; cases h
      | succ k ih =>
        intro o o' h
        rw [show k + 1 + 8 = (k + 8) + 1 by omega]
        unfold sIt at h ⊢
        split at h
        · rename_i hc; rw [if_pos hc]; exact ih _ _ h
        · rename_i hc; rw [if_neg hc]; exact h
    have := mono 5 o0 o' e1
    rw [e2] at this
    rw [e1, e3, this]
  · have n1 : sIt rs 5 o0 = none := by
      cases h : sIt rs 5 o0 with
      | none => rfl
      | some o' => exact absurd ⟨o', sIt_fix _ _ _ h⟩ hs
    have n2 : iIt rs 13 o0 = none := by
      cases h : iIt rs 13 o0 with
      | none => rfl
      | some o' => exact absurd ⟨o', iIt_fix _ _ _ h⟩ hs
    rw [n1, n2]
end Go.Proofs.Ytennnifijepfhaa
