/- Regions that draw their order: whatever the order, what the early order shows. -/
import Derived.Test.YtennnifijepfhaaAhR
namespace Go.AH
open Go Go.RowKit

section
variable {P : Program} {w0 : World} {n : Nat} {ops : Array Oper} {ents : List Ent} {N : Fr → Heap → Prop}
theorem chkOk_mem {fr : Fr} {σ : Heap} : ∀ {l : List (AOp × Option (Nat × Bool) × Nat)}, chkOk fr σ l → ∀ x ∈ l, gval fr x.2.1 = some true → x.1.step fr σ = some (fr x.2.2, σ)
  | [], _, x, hx => by cases hx
  | (a, g, d) :: r, h, x, hx => by
    rcases List.mem_cons.1 hx with rfl | hx
    · exact h.1
    · exact chkOk_mem h.2 x hx
/-- What reads keeps its value behind an operation that acts. -/
theorem fact_kept {T : List Nat} {done : List Ent} {x : Ent} (hst : stOk ops T done x = true) (hxe : x.e = true) {p : Ent} (hp : p ∈ done) (hpe : p.e = false) (hb : bit T x.i p.i ≠ true) {fr : Fr} {σ σ' : Heap} {v : Value} (hf : Fact p fr σ)
    (hσ : chkOk (upd fr x.o.dst v) σ' (chkFor T done x) ∨ σ' = σ) : Fact p (upd fr x.o.dst v) σ' := by
  obtain ⟨_, _, _, s4, _, _⟩ := stOk_parts hst
  obtain ⟨a, d, q1, q2, q3, q4⟩ := hf
  have hno : ∀ t, (t ∈ touch p ∨ p.o.dst = some t) → upd fr x.o.dst v t = fr t := fun t ht => upd_ne fun e => hb (s4 p hp hpe t e ht).2
  have hag : agree fr (upd fr x.o.dst v) (touch p) := fun t ht => (hno t (.inl ht)).symm
  have e1 := gval_agree (g := p.o.guard) hag.right
  have hag2 : agree fr (upd fr x.o.dst v) a.tmps := by
    have := hag.left
    rw [q1] at this
    exact this
  refine ⟨a, d, q1, q2, q3, ?_⟩
  rw [hno d (.inr q3)]
  rcases q4 with ⟨g1, g2⟩ | ⟨g1, g2⟩
  · refine .inl ⟨by rw [← e1]; exact g1, ?_⟩
    rw [AOp.step_agree hag2 σ] at g2
    rcases hσ with hσ | rfl
    · by_cases hpu : a.pure = true
      · exact AOp.pure_step hpu g2 σ'
      · have hm : (a, p.o.guard, d) ∈ chkFor T done x := by
          unfold chkFor
          rw [if_pos hxe, List.mem_filterMap]
          refine ⟨p, hp, ?_⟩
          have hb' : bit T x.i p.i = false := by simpa using hb
          have hpu' : insPure p.o.ins = false := by rw [q1]; simpa [insPure] using hpu
          rw [if_neg (by simp [hpe, hb', hpu'])]
          simp only [chkOf, q1, q3]
        have := chkOk_mem hσ _ hm (by rw [← e1]; exact g1)
        simp only at this
        rwa [hno d (.inr q3)] at this
    · exact g2
  · exact .inr ⟨by rw [← e1]; exact g1, g2⟩

def unl (ops : Array Oper) (L : Array Bool) : Nat := (List.range ops.size).countP fun i => !L.getD i false
theorem countP_lt {α : Type} {p q : α → Bool} (h : ∀ x, q x = true → p x = true) {y : α} (hp : p y = true) (hq : q y = false) : ∀ (l : List α), y ∈ l → l.countP q < l.countP p
  | [], hy => by cases hy
  | x :: l, hy => by
    have hle : l.countP q ≤ l.countP p := List.countP_mono_left fun x _ hx => h x hx
    rcases List.mem_cons.1 hy with rfl | hy
    · rw [List.countP_cons, List.countP_cons, hp, hq]; simp; omega
    · have := countP_lt h hp hq l hy
      rw [List.countP_cons, List.countP_cons]
      cases hqx : q x with
      | false => simp; omega
      | true => rw [h x hqx]; simp; omega
theorem getD_any {L : Array Bool} {i : Nat} (hi : i < L.size) (d d' : Bool) : L.getD i d = L.getD i d' := by simp [Array.getD_eq_getD_getElem?, hi]
theorem getD_set (L : Array Bool) (i j : Nat) (hi : i < L.size) : (L.setIfInBounds i true).getD j false = if i = j then true else L.getD j false := by
  simp only [Array.getD_eq_getD_getElem?, Array.getElem?_setIfInBounds]
  by_cases h : i = j
  · subst h; simp [hi]
  · simp [h]
theorem any_sound (hok : allOk ops (ancs ops) [] ents = true) (hcov : ∀ i, i < ops.size → ∃ p ∈ ents, p.i = i) (hcomp : ∀ p ∈ ents, ∃ o, ops[p.i]? = some o ∧ compOper P n ops o = some p.o) {ρ0 : Ren} {K : Exit → Act → World → Prop}
    (hK : ∀ fr' σ' ρ' a' w', N fr' σ' → ρ0.le ρ' → Rel w0 n ρ' fr' σ' a' w' → K .normal a' w') :
    ∀ (fuel : Nat) (L : Array Bool) (done rest : List Ent) (fr : Fr) (σ : Heap) (ρ : Ren) (a : Act) (w : World), L.size = ops.size → unl ops L ≤ fuel → Inv P w0 n ops ents N ρ0 L done rest fr σ ρ a w → wpAny P .any ops K fuel L a w := by
  -- nothing is ready: all has come up
  have hend : ∀ (L : Array Bool) (done rest : List Ent) (fr : Fr) (σ : Heap) (ρ : Ren) (a : Act) (w : World), L.size = ops.size → Inv P w0 n ops ents N ρ0 L done rest fr σ ρ a w → Region.ready .any ops L = [] → K .normal a w := by
    intro L done rest fr σ ρ a w hL hI hr
    have hallL : ∀ (k : Nat), k ≤ ents.length → ∀ p ∈ ents.take k, L.getD p.i false = true := by
      intro k
      induction k with
      | zero => intro _ p hp; simp at hp
      | succ k ih =>
        intro hk p hp
        have hpre := ih (by omega)
        rw [List.take_succ_eq_append_getElem (by omega)] at hp
        rcases List.mem_append.1 hp with hp | hp
        · exact hpre p hp
        · simp only [List.mem_singleton] at hp
          have hs : [] ++ (ents.take k ++ p :: ents.drop (k + 1)) = ents := by
            rw [hp, List.nil_append, ← List.drop_eq_getElem_cons (by omega), List.take_append_drop]
          have hst : stOk ops (ancs ops) ([] ++ ents.take k) p = true := by
            have hok2 := hok
            rw [← hs] at hok2
            exact allOk_at hok2
          obtain ⟨⟨o, ho, hedges⟩, _⟩ := stOk_parts hst
          by_cases hlp : L.getD p.i false = true
          · exact hlp
          · exfalso
            have hps : p.i < ops.size := (Array.getElem?_eq_some_iff.1 ho).1
            have hm : p.i ∈ Region.ready .any ops L := by
              rw [mem_ready]
              refine ⟨?_, o, ho, fun e he hb => ?_⟩
              · rw [getD_any (by omega) true false]; simpa using hlp
              · obtain ⟨q, hq, hqe⟩ := hedges e he hb
                rw [← hqe]
                exact hpre q (by simpa using hq)
            rw [hr] at hm
            cases hm
    have hall : ∀ p ∈ ents, L.getD p.i false = true := fun p hp => hallL ents.length (Nat.le_refl _) p (by rw [List.take_length]; exact hp)
    have hrest : rest = [] := by
      cases rest with
      | nil => rfl
      | cons x r =>
        have h1 := hI.restU x List.mem_cons_self
        have h2 := hall x (by rw [← hI.all]; simp)
        rw [h1] at h2
        cases h2
    subst hrest
    refine hK fr σ ρ a w hI.wp hI.ren ⟨hI.heap, fun t => ?_, hI.size, hI.defers⟩
    rcases hI.fram t with h | ⟨p, hp, _, hpl, _⟩
    · exact h
    · have h2 := hall p (by rw [← hI.all]; simp [hp])
      rw [hpl] at h2
      cases h2
  intro fuel
  induction fuel with
  | zero =>
    intro L done rest fr σ ρ a w hL hu hI
    have hr : Region.ready .any ops L = [] := by
      cases hr : Region.ready .any ops L with
      | nil => rfl
      | cons i l =>
        have hm : i ∈ Region.ready .any ops L := by rw [hr]; exact List.mem_cons_self
        obtain ⟨h1, o, ho, _⟩ := mem_ready.1 hm
        have his : i < ops.size := (Array.getElem?_eq_some_iff.1 ho).1
        have h3 : (List.range ops.size).countP (fun i => !L.getD i false) ≠ 0 := by
          intro h0
          rw [List.countP_eq_zero] at h0
          have := h0 i (List.mem_range.2 his)
          rw [getD_any (by omega) false true, h1] at this
          simp at this
        exact absurd (Nat.le_zero.1 hu) h3
    exact ⟨hr, hend L done rest fr σ ρ a w hL hI hr⟩
  | succ fuel ih =>
    intro L done rest fr σ ρ a w hL hu hI
    refine ⟨fun hr => hend L done rest fr σ ρ a w hL hI hr, fun i hi => ?_⟩
    obtain ⟨hun0, o, ho, hedge⟩ := mem_ready.1 hi
    have his : i < ops.size := (Array.getElem?_eq_some_iff.1 ho).1
    have hun : L.getD i false = false := by rw [getD_any (by omega) false true]; exact hun0
    have hanc := anc_listed hI.closed i o ho hedge
    have hset := fun j => getD_set L i j (by omega)
    have hu' : unl ops (L.setIfInBounds i true) ≤ fuel := by
      have : unl ops (L.setIfInBounds i true) < unl ops L := by
        refine countP_lt (fun x hx => ?_) (y := i) (by simp [hun]) (by rw [hset, if_pos rfl]; rfl) _ (List.mem_range.2 his)
        rw [hset] at hx
        split at hx
        · cases hx
        · exact hx
      omega
    have hL' : (L.setIfInBounds i true).size = ops.size := by simpa using hL
    have hclosed : Closed ops (L.setIfInBounds i true) := by
      intro j oj hoj hj e he hb
      rw [hset] at hj ⊢
      split
      · rfl
      · by_cases hij : i = j
        · subst hij
          rw [ho] at hoj
          cases hoj
          exact hedge e he hb
        · rw [if_neg hij] at hj
          exact hI.closed j oj hoj hj e he hb
    obtain ⟨x, hx, hxi⟩ := hcov i his
    obtain ⟨o', ho', hcx⟩ := hcomp x hx
    rw [hxi, ho] at ho'
    cases ho'
    -- the frame as the world has it: nothing stands where an operation is still to come
    open Classical in
    let pend : Nat → Prop := fun t => ∃ p ∈ done, p.e = false ∧ L.getD p.i false = false ∧ p.o.dst = some t
    let fr' : Fr := fun t => if pend t then junk else fr t
    have hrel : Rel w0 n ρ fr' σ a w := by
      refine ⟨hI.heap, fun t => ?_, hI.size, hI.defers⟩
      by_cases ht : pend t
      · show VRel _ _ (if pend t then junk else fr t) _
        rw [if_pos ht]; exact .junk _
      · show VRel _ _ (if pend t then junk else fr t) _
        rw [if_neg ht]
        rcases hI.fram t with h | h
        · exact h
        · exact absurd h ht
    have hmemE : ∀ p ∈ ents, p ∈ done ∨ p ∈ rest := fun p hp => by rw [← hI.all] at hp; simpa using hp
    have hstx : ∀ (pre suf : List Ent), pre ++ x :: suf = ents → stOk ops (ancs ops) pre x = true := by
      intro pre suf hs
      rw [← hs] at hok
      simpa using allOk_at hok
    unfold wpOp
    rw [ho]
    rcases hmemE x hx with hxd | hxr
    · -- an operation that reads, late
      have hxe : x.e = false := by
        cases hxe : x.e with
        | false => rfl
        | true =>
          have := hI.doneE x hxd hxe
          rw [hxi, hun] at this
          cases this
      obtain ⟨a0, d, q1, q2, q3, q4⟩ := hI.fact x hxd hxe (by rw [hxi]; exact hun)
      obtain ⟨d1, d2, hd12⟩ := List.append_of_mem hxd
      have hst := hstx d1 (d2 ++ rest) (by rw [← hI.all, hd12]; simp)
      obtain ⟨_, _, _, _, s5, _⟩ := stOk_parts hst
      have hnp : ∀ t ∈ touch x, ¬ pend t := by
        rintro t ht ⟨p, hp, hpe, hpl, hpd⟩
        rw [hd12] at hp
        rcases List.mem_append.1 hp with hp | hp
        · have := hanc p.i (by have := s5 p hp hpe t ht hpd; rw [hxi] at this; exact this)
          rw [hpl] at this
          cases this
        · rcases List.mem_cons.1 hp with rfl | hp
          · obtain ⟨_, _, s3, _⟩ := stOk_parts hst
            obtain ⟨_, d', hd', hdt⟩ := s3 hxe
            rw [hpd] at hd'
            cases hd'
            exact hdt ht
          · obtain ⟨e1, e2, he12⟩ := List.append_of_mem hp
            have hstp : stOk ops (ancs ops) (d1 ++ x :: e1) p = true := by
              have hs : [] ++ ((d1 ++ x :: e1) ++ p :: (e2 ++ rest)) = ents := by rw [← hI.all, hd12, he12]; simp
              rw [← hs] at hok
              simpa using allOk_at (pre := d1 ++ x :: e1) hok
            obtain ⟨_, _, _, s4, _, _⟩ := stOk_parts hstp
            have := (s4 x (by simp) hxe t hpd (.inl ht)).1
            rw [hpe] at this
            cases this
      have hag : agree fr fr' (touch x) := fun t ht => by
        show fr t = if pend t then junk else fr t
        rw [if_neg (hnp t ht)]
      have e1 := gval_agree (g := x.o.guard) hag.right
      have hag2 : agree fr fr' a0.tmps := by
        have := hag.left
        rw [q1] at this
        exact this
      have e2 := AOp.step_agree hag2 σ
      have hast : astep P w0 x.o (fun fr2 σ2 => fr2 = upd fr' (some d) (fr d) ∧ σ2 = σ) fr' σ := by
        unfold astep
        rw [← e1]
        rcases q4 with ⟨g1, g2⟩ | ⟨g1, g2⟩
        · rw [g1]
          simp only [q1]
          rw [← e2, g2]
          simp only [q3, and_self]
        · rw [g1]
          simp only [q3, g2, and_self]
      refine oper_sound hcx hast hrel fun fr2 σ2 ρ2 a2 w2 hN hρ hr2 => ?_
      obtain ⟨rfl, rfl⟩ := hN
      refine ih _ done rest fr σ2 ρ2 a2 w2 hL' hu' ⟨hI.all, hI.wp, hr2.heap, fun t => ?_, hr2.size, hr2.defers, fun p hp he => ?_, fun p hp => ?_, fun p hp he hpl => ?_, hI.head, hclosed, hI.ren.trans hρ⟩
      · by_cases htd : t = d
        · subst htd
          have := hr2.frame t
          rw [upd_eq] at this
          exact .inl this
        · have hf := hr2.frame t
          rw [upd_ne (fun e => htd (by cases e; rfl))] at hf
          by_cases hpt : pend t
          · obtain ⟨p, hp, hpe, hpl, hpd⟩ := hpt
            refine .inr ⟨p, hp, hpe, ?_, hpd⟩
            rw [hset, if_neg]
            · exact hpl
            · intro hip
              -- then p is x itself, or another entry of the same number: its target is another
              have hpx : p.o.dst = x.o.dst := by
                obtain ⟨op', hop', hcp⟩ := hcomp p (by rw [← hI.all]; simp [hp])
                rw [← hip, ho] at hop'
                cases hop'
                rw [hcx] at hcp
                rw [Option.some.inj hcp]
              rw [hpd, q3] at hpx
              cases hpx
              exact htd rfl
          · change VRel _ _ (if pend t then junk else fr t) _ at hf
            rw [if_neg hpt] at hf
            exact .inl hf
      · rw [hset]
        split
        · rfl
        · exact hI.doneE p hp he
      · rw [hset, if_neg]
        · exact hI.restU p hp
        · intro hip
          obtain ⟨r1, r2, hr12⟩ := List.append_of_mem hp
          have hstp : stOk ops (ancs ops) (done ++ r1) p = true := by
            have hs : [] ++ ((done ++ r1) ++ p :: r2) = ents := by rw [← hI.all, hr12]; simp
            rw [← hs] at hok
            simpa using allOk_at (pre := done ++ r1) hok
          obtain ⟨_, _, _, _, _, s6⟩ := stOk_parts hstp
          exact s6 x (by simp [hxd]) (by rw [hxi, hip])
      · rw [hset] at hpl
        split at hpl
        · cases hpl
        · exact hI.fact p hp he hpl
    · -- the next operation that acts
      obtain ⟨y, r, hyr, hye⟩ : ∃ y r, rest = y :: r ∧ y.e = true := by
        rcases hI.head with h | h
        · rw [h] at hxr; cases hxr
        · exact h
      have hxy : x = y := by
        rw [hyr] at hxr
        rcases List.mem_cons.1 hxr with h | h
        · exact h
        · exfalso
          obtain ⟨r1, r2, hr12⟩ := List.append_of_mem h
          have hst := hstx (done ++ y :: r1) r2 (by rw [← hI.all, hyr, hr12]; simp)
          obtain ⟨_, s2, _, _, _, _⟩ := stOk_parts hst
          have := s2 y (by simp) hye
          rw [hxi] at this
          have h1 := hanc y.i this
          rw [hI.restU y (by rw [hyr]; exact List.mem_cons_self)] at h1
          cases h1
      subst hxy
      have hst := hstx done r (by rw [← hI.all, hyr])
      obtain ⟨_, _, _, s4, s5, s6⟩ := stOk_parts hst
      have hnp : ∀ t ∈ touch x, ¬ pend t := by
        rintro t ht ⟨p, hp, hpe, hpl, hpd⟩
        have := hanc p.i (by have := s5 p hp hpe t ht hpd; rw [hxi] at this; exact this)
        rw [hpl] at this
        cases this
      have hag : agree fr fr' (touch x) := fun t ht => by
        show fr t = if pend t then junk else fr t
        rw [if_neg (hnp t ht)]
      have e1 := gval_agree (g := x.o.guard) hag.right
      have hagI := hag.left
      have hwp := hI.wp
      rw [hyr] at hwp
      simp only [attach] at hwp
      have hast : astep P w0 x.o (fun fr2 σ2 => ∃ v, fr2 = upd fr' x.o.dst v ∧ (chkOk (upd fr x.o.dst v) σ2 (chkFor (ancs ops) done x) ∨ σ2 = σ) ∧ rwp P w0 (attach (ancs ops) (done ++ [x]) r) N (upd fr x.o.dst v) σ2) fr' σ := by
        unfold rwp at hwp
        unfold astep
        simp only at hwp
        rw [← e1]
        split
        · rename_i hg
          simp only [hg] at hwp
          split
          · rename_i a0 ha
            simp only [ha] at hwp
            have hag2 : agree fr fr' a0.tmps := by
              have := hagI
              rw [ha] at this
              exact this
            rw [← AOp.step_agree hag2 σ]
            split
            · rename_i v σ2 hs
              simp only [hs] at hwp
              exact ⟨v, rfl, .inl hwp.1, hwp.2⟩
            · rename_i hs
              simp only [hs] at hwp
          · rename_i f args ha
            simp only [ha] at hwp
            have hag2 : agree fr fr' (args.flatMap AOpd.tmps) := by
              have := hagI
              rw [ha] at this
              exact this
            rw [← map_agree hag2]
            exact hwp.mono fun v σ2 h => ⟨v, rfl, .inl h.1, h.2⟩
          · rename_i z args ha
            simp only [ha] at hwp
            have hag2 : agree fr fr' (z.tmps ++ args.flatMap AOpd.tmps) := by
              have := hagI
              rw [ha] at this
              exact this
            rw [← AOpd.ev_agree hag2.left, ← map_agree hag2.right]
            split
            · rename_i f cap hz
              simp only [hz] at hwp
              exact ⟨hwp.1, hwp.2.mono fun v σ2 h => ⟨v, rfl, .inl h.1, h.2⟩⟩
            · rename_i hz
              simp only [hz] at hwp
        · rename_i hg
          simp only [hg] at hwp
          exact ⟨undef, rfl, .inr rfl, hwp⟩
        · rename_i hg
          simp only [hg] at hwp
      refine oper_sound hcx hast hrel fun fr2 σ2 ρ2 a2 w2 hN hρ hr2 => ?_
      obtain ⟨v, rfl, hchk, hw2⟩ := hN
      obtain ⟨S, rest', fr3, h1, h2, h3, h4, h5, h6⟩ := advance hok r (done ++ [x]) (upd fr x.o.dst v) σ2 (by rw [← hI.all, hyr]; simp) hw2
      have hUn : ∀ p ∈ r, (L.setIfInBounds i true).getD p.i false = false := by
        intro p hp
        rw [hset, if_neg]
        · exact hI.restU p (by rw [hyr]; exact List.mem_cons_of_mem _ hp)
        · intro hip
          obtain ⟨r1, r2, hr12⟩ := List.append_of_mem hp
          have hstp : stOk ops (ancs ops) (done ++ x :: r1) p = true := by
            have hs : [] ++ ((done ++ x :: r1) ++ p :: r2) = ents := by rw [← hI.all, hyr, hr12]; simp
            rw [← hs] at hok
            simpa using allOk_at (pre := done ++ x :: r1) hok
          obtain ⟨_, _, _, _, _, s6'⟩ := stOk_parts hstp
          exact s6' x (by simp) (by rw [hxi, hip])
      -- no later reader writes what an earlier one touches
      have hkeep : ∀ q ∈ done ++ [x], q.e = false → ∀ t, (t ∈ touch q ∨ q.o.dst = some t) → fr3 t = upd fr x.o.dst v t := by
        intro q hq hqe t ht
        refine h6 t (fun p hp hpd => ?_)
        obtain ⟨S1, S2, hS⟩ := List.append_of_mem hp
        have hs : [] ++ ((done ++ [x] ++ S1) ++ p :: (S2 ++ rest')) = ents := by rw [← hI.all, hyr, h1, hS]; simp
        have hok2 := hok
        rw [← hs] at hok2
        have hst2 := allOk_at (pre := done ++ [x] ++ S1) hok2
        obtain ⟨_, _, _, s4', _, _⟩ := stOk_parts hst2
        have := (s4' q (by rw [List.nil_append]; exact List.mem_append_left _ hq) hqe t hpd ht).1
        rw [h2 p hp] at this
        cases this
      refine ih _ (done ++ [x] ++ S) rest' fr3 σ2 ρ2 a2 w2 hL' hu' ⟨by rw [← hI.all, hyr, h1]; simp, h4, hr2.heap, fun t => ?_, hr2.size, hr2.defers, fun p hp he => ?_, fun p hp => ?_, fun p hp he hpl => ?_, h3, hclosed, hI.ren.trans hρ⟩
      · by_cases htS : ∃ p ∈ S, p.o.dst = some t
        · obtain ⟨p, hp, hpd⟩ := htS
          exact .inr ⟨p, List.mem_append_right _ hp, h2 p hp, hUn p (by rw [h1]; exact List.mem_append_left _ hp), hpd⟩
        · have e3 : fr3 t = upd fr x.o.dst v t := h6 t (fun p hp hpd => htS ⟨p, hp, hpd⟩)
          have hf := hr2.frame t
          rw [e3]
          by_cases htd : x.o.dst = some t
          · rw [htd, upd_eq] at hf ⊢
            exact .inl hf
          · rw [upd_ne htd] at hf ⊢
            by_cases hpt : pend t
            · obtain ⟨p, hp, hpe, hpl, hpd⟩ := hpt
              refine .inr ⟨p, by simp [hp], hpe, ?_, hpd⟩
              rw [hset, if_neg]
              · exact hpl
              · intro hip
                exact s6 p hp (by rw [hxi, hip])
            · change VRel _ _ (if pend t then junk else fr t) _ at hf
              rw [if_neg hpt] at hf
              exact .inl hf
      · rw [hset]
        split
        · rfl
        · rename_i hne
          rcases List.mem_append.1 hp with hp | hp
          · rcases List.mem_append.1 hp with hp | hp
            · exact hI.doneE p hp he
            · simp only [List.mem_singleton] at hp
              subst hp
              exact absurd hxi.symm hne
          · rw [h2 p hp] at he
            cases he
      · exact hUn p (by rw [h1]; exact List.mem_append_right _ hp)
      · rcases List.mem_append.1 hp with hp | hp
        · rcases List.mem_append.1 hp with hp' | hp'
          · have hpl0 : L.getD p.i false = false := by
              rw [hset] at hpl
              split at hpl
              · cases hpl
              · exact hpl
            have hb : bit (ancs ops) x.i p.i ≠ true := by
              intro hb
              have := hanc p.i (by rw [hxi] at hb; exact hb)
              rw [hpl0] at this
              cases this
            obtain ⟨a', d', q1, q2, q3, q4⟩ := fact_kept hst hye hp' he hb (hI.fact p hp' he hpl0) hchk
            have hk := hkeep p hp he
            have hagx : agree (upd fr x.o.dst v) fr3 (touch p) := fun t ht => (hk t (.inl ht)).symm
            have e1 := gval_agree (g := p.o.guard) hagx.right
            have hag2 : agree (upd fr x.o.dst v) fr3 a'.tmps := by
              have := hagx.left
              rw [q1] at this
              exact this
            have e2 := AOp.step_agree hag2 σ2
            refine ⟨a', d', q1, q2, q3, ?_⟩
            rw [hk d' (.inr q3), ← e1, ← e2]
            exact q4
          · simp only [List.mem_singleton] at hp'
            subst hp'
            rw [hye] at he
            cases he
        · exact h5 p hp

/-- A region's operations in the order in which the abstract machine takes them. -/
def isE (o : Oper) (i : AIns) : Bool := (match o.op with | .assign _ => true | _ => false) || !insStable i
def compEnt (P : Program) (n : Nat) (ops : Array Oper) (i : Nat) : Option Ent :=
  match ops[i]? with
  | some o => match compOper P n ops o with
    | some ao => some ⟨i, ao, isE o ao.ins⟩
    | none => none
  | none => none
/-- How many of those that act an operation waits for (itself told in): its phase. -/
def phaseOf (T : List Nat) (es : List Ent) (x : Ent) : Nat := (es.filter fun p => p.e && (bit T x.i p.i || p.i == x.i)).length
def ordered (T : List Nat) (es : List Ent) : List Ent :=
  (List.range (es.length + 1)).flatMap fun k => (es.filter fun x => x.e && phaseOf T es x == k) ++ (es.filter fun x => !x.e && phaseOf T es x == k)
def compDraw (P : Program) (n : Nat) (ops : Array Oper) : Option (List AOper) :=
  match (List.range ops.size).mapM (compEnt P n ops) with
  | none => none
  | some es => if allOk ops (ancs ops) [] (ordered (ancs ops) es) = true ∧ ((List.range ops.size).all fun i => (ordered (ancs ops) es).any fun p => p.i == i) = true then some (attach (ancs ops) [] (ordered (ancs ops) es)) else none
def compRegion (P : Program) (n : Nat) (ops : Array Oper) (draw : Bool) : Option (List AOper) :=
  if draw = true then compDraw P n ops else (List.range ops.size).mapM fun i => (ops[i]?).bind (compOper P n ops)
theorem mapM_mem {α β : Type} {f : α → Option β} : ∀ {l : List α} {r : List β}, l.mapM f = some r → ∀ y ∈ r, ∃ x ∈ l, f x = some y
  | [], r, h, y, hy => by
    have e : some [] = some r := h
    cases e
    cases hy
  | x :: l, r, h, y, hy => by
    simp only [List.mapM_cons, Option.bind_eq_bind, Option.bind_eq_some_iff] at h
    obtain ⟨b, hb, r', hr, e⟩ := h
    simp only [Option.pure_def, Option.some.injEq] at e
    subst e
    rcases List.mem_cons.1 hy with rfl | hy
    · exact ⟨x, List.mem_cons_self, hb⟩
    · obtain ⟨z, hz, hfz⟩ := mapM_mem hr y hy
      exact ⟨z, List.mem_cons_of_mem _ hz, hfz⟩
theorem region_sound (hm : P.follows .mixedOrders = true) {id : Nat} {draw : Bool} {aops : List AOper} (h : compRegion P n ops draw = some aops) {ρ : Ren} {fr : Fr} {σ : Heap} {a : Act} {w : World}
    (hw : rwp P w0 aops N fr σ) (hr : Rel w0 n ρ fr σ a w) {K : Exit → Act → World → Prop} (hK : ∀ fr' σ' ρ' a' w', N fr' σ' → ρ.le ρ' → Rel w0 n ρ' fr' σ' a' w' → K .normal a' w') : (Code.region id ops draw).wp P K a w := by
  unfold compRegion at h
  split at h
  · rename_i hd
    subst hd
    unfold compDraw at h
    split at h
    · cases h
    · rename_i es hes
      split at h
      · rename_i hc
        obtain ⟨c1, c2⟩ := hc
        cases h
        have hcov : ∀ i, i < ops.size → ∃ p ∈ ordered (ancs ops) es, p.i = i := by
          intro i hi
          have := List.all_eq_true.1 c2 i (List.mem_range.2 hi)
          obtain ⟨p, hp, hpi⟩ := List.any_eq_true.1 this
          exact ⟨p, hp, by simpa using hpi⟩
        have hcomp : ∀ p ∈ ordered (ancs ops) es, ∃ o, ops[p.i]? = some o ∧ compOper P n ops o = some p.o := by
          intro p hp
          have hpe : p ∈ es := by
            unfold ordered at hp
            simp only [List.mem_flatMap, List.mem_append, List.mem_filter] at hp
            obtain ⟨_, _, hp⟩ := hp
            rcases hp with hp | hp <;> exact hp.1
          obtain ⟨i, _, hi⟩ := mapM_mem hes p hpe
          unfold compEnt at hi
          split at hi
          · rename_i o ho
            split at hi
            · rename_i ao hao
              cases hi
              exact ⟨o, ho, hao⟩
            · cases hi
          · cases hi
        refine wp_region_any hm ?_
        have hI0 : ∃ S rest' fr', ordered (ancs ops) es = S ++ rest' ∧ (∀ p ∈ S, p.e = false) ∧ (rest' = [] ∨ ∃ x r, rest' = x :: r ∧ x.e = true) ∧ rwp P w0 (attach (ancs ops) ([] ++ S) rest') N fr' σ ∧
            (∀ p ∈ S, Fact p fr' σ) ∧ (∀ t, (∀ p ∈ S, p.o.dst ≠ some t) → fr' t = fr t) := advance c1 (ordered (ancs ops) es) [] fr σ rfl hw
        obtain ⟨S, rest', fr', h1, h2, h3, h4, h5, h6⟩ := hI0
        have hun : ∀ j, (Array.replicate ops.size false).getD j false = false := by
          intro j
          rw [Array.getD_eq_getD_getElem?, Array.getElem?_replicate]
          split <;> rfl
        refine any_sound (N := N) c1 hcov hcomp hK ops.size (Array.replicate ops.size false) S rest' fr' σ ρ a _ (by simp) ?_ ⟨h1.symm, by simpa using h4, hr.heap.drawn _, fun t => ?_, hr.size, hr.defers, fun p hp he => ?_, fun p _ => hun _, fun p hp _ _ => h5 p hp, h3, fun i o _ hi => ?_, Ren.le.refl _⟩
        · unfold unl
          have := List.countP_le_length (p := fun i => !(Array.replicate ops.size false).getD i false) (l := List.range ops.size)
          simpa using this
        · by_cases htS : ∃ p ∈ S, p.o.dst = some t
          · obtain ⟨p, hp, hpd⟩ := htS
            exact .inr ⟨p, hp, h2 p hp, hun _, hpd⟩
          · rw [h6 t (fun p hp hpd => htS ⟨p, hp, hpd⟩)]
            exact .inl (hr.frame t)
        · rw [h2 p hp] at he
          cases he
        · rw [hun] at hi
          cases hi
      · cases h
  · rename_i hd
    have hd' : draw = false := by simpa using hd
    subst hd'
    exact wp_region (ops_sound _ aops ρ fr σ a w h hw hr hK)
end
end Go.AH
