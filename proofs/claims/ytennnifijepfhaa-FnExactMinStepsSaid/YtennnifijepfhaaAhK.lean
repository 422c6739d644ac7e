/- The translation of an operation into its abstract step, and that it is sound. -/
import Derived.Test.YtennnifijepfhaaAhJ
namespace Go.AH
open Go Go.RowKit

/-- A type's zero cells, if they may be laid. -/
def zeroOf (P : Program) (t : TypeId) : Option (TypeInfo × Value) :=
  match P.info? t with
  | none => none
  | some i => match i.zero with
    | none => none
    | some z => if constOk z = true ∧ okCells z = true ∧ (vcells z).length = i.size then some (i, z) else none
theorem zeroOf_eq {P : Program} {t : TypeId} {i : TypeInfo} {z : Value} (h : zeroOf P t = some (i, z)) : P.info? t = some i ∧ i.zero = some z ∧ constOk z = true ∧ okCells z = true ∧ (vcells z).length = i.size := by
  unfold zeroOf at h
  split at h
  · cases h
  · rename_i i' hi
    split at h
    · cases h
    · rename_i z' hz
      split at h
      · rename_i hc
        simp only [Option.some.injEq, Prod.mk.injEq] at h
        obtain ⟨rfl, rfl⟩ := h
        exact ⟨hi, hz, hc⟩
      · cases h
def sliceElem (P : Program) (t : TypeId) : Option TypeId :=
  match P.underlying t with
  | some (.slice e) => some e
  | _ => none
theorem sliceElem_eq {P : Program} {t e : TypeId} (h : sliceElem P t = some e) : P.underlying t = some (.slice e) := by
  unfold sliceElem at h
  split at h
  · rename_i hu; cases h; exact hu
  · cases h
def compCall (P : Program) (c : Call) : Option AOp :=
  match c.callee, c.args.toList, c.argTypes.toList with
  | .builtin .len, [x], [t] => (sliceElem P t).bind fun _ => (compOpd x).map .len
  | .builtin .max, [x, y], _ => (compOpd x).bind fun ax => (compOpd y).map fun ay => .mx true ax ay
  | .builtin .min, [x, y], _ => (compOpd x).bind fun ax => (compOpd y).map fun ay => .mx false ax ay
  | .builtin .append, [x, y], [t, t2] => (sliceElem P t).bind fun e => (sliceElem P t2).bind fun _ => (zeroOf P e).bind fun q => (compOpd x).bind fun ax => (compOpd y).map fun ay => .append q.1.size q.1.bytes ax ay
  | .builtin .clear, [x], [t] => (sliceElem P t).bind fun e => (zeroOf P e).bind fun q => (compOpd x).map fun ax => .clear q.1.size (vcells q.2) ax
  | _, _, _ => none
def compBin (P : Program) (op : BinOp) (t : TypeId) (x y : Operand) : Option AOp :=
  (compOpd x).bind fun ax => (compOpd y).bind fun ay =>
  match P.underlying t with
  | some (.int _) => if op = .shl ∨ op = .shr then some (.shift op ax ay) else some (.bin op ax ay)
  | some .bool => if op = .eql ∨ op = .neq then some (.beq (isNeq op) ax ay) else none
  | some (.slice _) => match y with
    | .const (.slice none 0 0) => if op = .eql ∨ op = .neq then some (.snil (isNeq op) ax) else none
    | _ => none
  | some (.struct _) => if (op = .eql ∨ op = .neq) ∧ P.stoodInHeld t = false ∧ P.eqGuardType P.depth t = false ∧ flatB P (P.fieldsOf t).toList 0 = true then
      some (.aeq (P.fieldsOf t).size (isNeq op) ax ay) else none
  | _ => none
def compOp (P : Program) (o : Oper) : Option AOp :=
  match o.op with
  | .move x => (compOpd x).map .mov
  | .assign x => (compOpd x).map .mov
  | .pick c a b => (compOpd c).bind fun ac => (compOpd a).bind fun aa => (compOpd b).map fun ab => .pick ac aa ab
  | .alloc e => (zeroOf P e).map fun q => .alloc (vcells q.2)
  | .box _ x => (compOpd x).map .box
  | .build t ps => (zeroOf P t).bind fun q => match P.underlying t with
    | some (.struct fs) => if (fs.toList.all fun f => (P.info? f.type).isSome) = true then (compParts (fun j => (fs[j]?).map fun f => (f.offset, P.cellsOf f.type)) ps.toList).map fun aps => .build (vcells q.2) aps else none
    | some (.array _ e) => (P.info? e).bind fun ie => (compParts (fun j => some (j * ie.size, ie.size)) ps.toList).map fun aps => .build (vcells q.2) aps
    | _ => none
  | .buildSlice t n ps => (sliceElem P t).bind fun e => (zeroOf P e).bind fun q => if 0 < q.1.size ∧ n * q.1.size ≤ 16777216 then (compParts (fun j => some (j * q.1.size, q.1.size)) ps.toList).map fun aps => .lit q.1.size n (vcells q.2) aps else none
  | .load t x => (P.underlying t).bind fun d => (P.info? t).bind fun i => (compOpd x).map fun ax => .load i.size (isAggD d) ax
  | .store t x y => (P.info? t).bind fun i => (compOpd x).bind fun ax => (compOpd y).map fun ay => .store i.size ax ay
  | .nilCheck x => (compOpd x).map .nilck
  | .binOp op t x y _ => compBin P op t x y
  | .unOp op _ x => (compOpd x).map fun ax => .un op ax
  | .convert s t x => (P.underlying s).bind fun _ => match P.underlying t with
    | some (.int k) => (compOpd x).map fun ax => .conv k ax
    | _ => none
  | .makeFunc (.func f) first xs => if first = #[] then (xs.toList.mapM compOpd).map fun l => .mkfn f l else none
  | .makeSlice t x y => (sliceElem P t).bind fun e => (zeroOf P e).bind fun q => if 0 < q.1.size then (compOpd x).bind fun ax => (compOpd y).map fun ay => .mk q.1.size q.1.bytes (vcells q.2) ax ay else none
  | .slice t x lo hi mx => (sliceElem P t).bind fun e => (P.info? e).bind fun i => (compOpd x).bind fun ax => (optOpd lo).bind fun al => (optOpd hi).bind fun ah => (optOpd mx).map fun am => .slice i.size ax al ah am
  | .fieldAddr t x n => match P.underlying t with
    | some (.struct fs) => (fs[n]?).bind fun f => (P.info? f.type).bind fun i => if i.size ≠ 0 then (compOpd x).map fun ax => .faddr f.offset ax else none
    | _ => none
  | .field t x n => match P.underlying t with
    | some (.struct fs) => (fs[n]?).bind fun f => (P.underlying f.type).bind fun d => (P.info? f.type).bind fun i => (compOpd x).map fun ax => .field f.offset i.size (isAggD d) ax
    | _ => none
  | .indexAddr t x y => match P.underlying t with
    | some (.slice e) => (P.info? e).bind fun i => (compOpd x).bind fun ax => (compOpd y).map fun ay => .iaddr i.size ax ay
    | some (.array n e) => (P.info? e).bind fun i => (compOpd x).bind fun ax => (compOpd y).map fun ay => .iaddrA n i.size ax ay
    | _ => none
  | .index t x y => match P.underlying t with
    | some (.array n e) => (P.underlying e).bind fun d => (P.info? e).bind fun i => (compOpd x).bind fun ax => (compOpd y).map fun ay => .index n i.size (isAggD d) ax ay
    | _ => none
  | .extract x i => (compOpd x).map fun ax => .extract ax i
  | .call c => compCall P c
  | _ => none

theorem arr1 {α : Type} {a : Array α} {x : α} (h : a.toList = [x]) : a = #[x] := Array.ext' h
theorem arr2 {α : Type} {a : Array α} {x y : α} (h : a.toList = [x, y]) : a = #[x, y] := Array.ext' h
theorem compCall_sim {P : Program} {o : Oper} {c : Call} {ao : AOp} (ho : o.op = .call c) (h : compCall P c = some ao) : Sim P o (fun fr σ => ao.step fr σ) := by
  obtain ⟨callee, args, argTypes⟩ := c
  unfold compCall at h
  split at h
  · rename_i x t e1 e2 e3
    simp only [Option.bind_eq_some_iff, Option.map_eq_some_iff] at h
    obtain ⟨e, he, ax, hx, rfl⟩ := h
    simp only at e1 e2 e3
    subst e1
    rw [arr1 e2, arr1 e3] at ho
    exact sim_len ho rfl (sliceElem_eq he) hx
  · rename_i x y e1 e2
    simp only [Option.bind_eq_some_iff, Option.map_eq_some_iff] at h
    obtain ⟨ax, hx, ay, hy, rfl⟩ := h
    simp only at e1 e2
    subst e1
    rw [arr2 e2] at ho
    exact sim_mx (m := true) (by rw [ho]; rfl) hx hy
  · rename_i x y e1 e2
    simp only [Option.bind_eq_some_iff, Option.map_eq_some_iff] at h
    obtain ⟨ax, hx, ay, hy, rfl⟩ := h
    simp only at e1 e2
    subst e1
    rw [arr2 e2] at ho
    exact sim_mx (m := false) (by rw [ho]; rfl) hx hy
  · rename_i x y t t2 e1 e2 e3
    simp only [Option.bind_eq_some_iff, Option.map_eq_some_iff] at h
    obtain ⟨e, he, e', he', ⟨i, z⟩, hq, ax, hx, ay, hy, rfl⟩ := h
    simp only at e1 e2 e3
    subst e1
    rw [arr2 e2, arr2 e3] at ho
    obtain ⟨q1, q2, q3, q4, q5⟩ := zeroOf_eq hq
    have hzs : z.cells.size = i.size := by
      have := (VRel.cells (constOk_rel (B := 0) (ρ := fun _ => none) q3) q4).1.1
      simp at this; omega
    exact sim_append ho (sliceElem_eq he) (sliceElem_eq he') q1 q2 hzs hx hy
  · rename_i x t e1 e2 e3
    simp only [Option.bind_eq_some_iff, Option.map_eq_some_iff] at h
    obtain ⟨e, he, ⟨i, z⟩, hq, ax, hx, rfl⟩ := h
    simp only at e1 e2 e3
    subst e1
    rw [arr1 e2, arr1 e3] at ho
    obtain ⟨q1, q2, q3, q4, q5⟩ := zeroOf_eq hq
    exact sim_clear ho rfl (sliceElem_eq he) q1 q2 q3 q4 q5 hx
  · cases h
theorem compBin_sim {P : Program} {o : Oper} {op : BinOp} {t ty : TypeId} {x y : Operand} {ao : AOp} (ho : o.op = .binOp op t x y ty) (h : compBin P op t x y = some ao) : Sim P o (fun fr σ => ao.step fr σ) := by
  unfold compBin at h
  simp only [Option.bind_eq_some_iff] at h
  obtain ⟨ax, hx, ay, hy, h⟩ := h
  split at h
  · rename_i k hu
    split at h
    · rename_i hop; cases h; exact sim_shift ho hop hx hy
    · cases h; exact sim_bin ho hx hy
  · rename_i hu
    split at h
    · rename_i hop; cases h; exact sim_beq ho hop hu hx hy
    · cases h
  · rename_i e hu
    split at h
    · split at h
      · rename_i hop; cases h; exact sim_snil ho hop hu hx rfl
      · cases h
    · cases h
  · rename_i fs hu
    split at h
    · rename_i hc
      obtain ⟨c1, c3, c4, c5⟩ := hc
      cases h
      have c2 : P.underlying t = some (.struct (P.fieldsOf t)) := by simp [Program.fieldsOf, hu]
      exact sim_aeq ho c1 c2 c3 c4 c5 rfl hx hy
    · cases h
  · cases h
theorem compOp_sim {P : Program} {o : Oper} {ao : AOp} (h : compOp P o = some ao) : Sim P o (fun fr σ => ao.step fr σ) := by
  unfold compOp at h
  split at h
  case h_1 x ho => simp only [Option.map_eq_some_iff] at h; obtain ⟨ax, hx, rfl⟩ := h; exact sim_mov (.inl ho) hx
  case h_2 x ho => simp only [Option.map_eq_some_iff] at h; obtain ⟨ax, hx, rfl⟩ := h; exact sim_mov (.inr ho) hx
  case h_3 c a b ho =>
    simp only [Option.bind_eq_some_iff, Option.map_eq_some_iff] at h
    obtain ⟨ac, hc, aa, ha, ab, hb, rfl⟩ := h
    exact sim_pick ho hc ha hb
  case h_4 e ho =>
    simp only [Option.map_eq_some_iff] at h
    obtain ⟨⟨i, z⟩, hq, rfl⟩ := h
    obtain ⟨q1, q2, q3, q4, q5⟩ := zeroOf_eq hq
    exact sim_alloc ho q1 q2 q3 q4
  case h_5 e x ho => simp only [Option.map_eq_some_iff] at h; obtain ⟨ax, hx, rfl⟩ := h; exact sim_box ho hx
  case h_6 t ps ho =>
    simp only [Option.bind_eq_some_iff] at h
    obtain ⟨⟨i, z⟩, hq, h⟩ := h
    obtain ⟨q1, q2, q3, q4, q5⟩ := zeroOf_eq hq
    split at h
    · rename_i fs hu
      split at h
      · rename_i hfs
        simp only [Option.map_eq_some_iff] at h
        obtain ⟨aps, hp, rfl⟩ := h
        exact sim_build_struct ho hu q1 q2 q3 q4 hfs hp
      · cases h
    · rename_i n e hu
      simp only [Option.bind_eq_some_iff, Option.map_eq_some_iff] at h
      obtain ⟨ie, hie, aps, hp, rfl⟩ := h
      exact sim_build_array ho hu q1 hie q2 q3 q4 hp
    · cases h
  case h_7 t n ps ho =>
    simp only [Option.bind_eq_some_iff] at h
    obtain ⟨e, he, ⟨i, z⟩, hq, h⟩ := h
    obtain ⟨q1, q2, q3, q4, q5⟩ := zeroOf_eq hq
    split at h
    · rename_i hc
      simp only [Option.map_eq_some_iff] at h
      obtain ⟨aps, hp, rfl⟩ := h
      exact sim_lit ho (sliceElem_eq he) q1 q2 q3 q4 q5 hc.1 hc.2 hp
    · cases h
  case h_8 t x ho =>
    simp only [Option.bind_eq_some_iff, Option.map_eq_some_iff] at h
    obtain ⟨d, hd, i, hi, ax, hx, rfl⟩ := h
    exact sim_load ho hd hi hx
  case h_9 t x y ho =>
    simp only [Option.bind_eq_some_iff, Option.map_eq_some_iff] at h
    obtain ⟨i, hi, ax, hx, ay, hy, rfl⟩ := h
    exact sim_store ho hi hx hy
  case h_10 x ho => simp only [Option.map_eq_some_iff] at h; obtain ⟨ax, hx, rfl⟩ := h; exact sim_nilck ho hx
  case h_11 op t x y ty ho => exact compBin_sim ho h
  case h_12 op t x ho => simp only [Option.map_eq_some_iff] at h; obtain ⟨ax, hx, rfl⟩ := h; exact sim_un ho hx
  case h_13 s t x ho =>
    simp only [Option.bind_eq_some_iff] at h
    obtain ⟨d, hd, h⟩ := h
    split at h
    · rename_i k hu
      simp only [Option.map_eq_some_iff] at h
      obtain ⟨ax, hx, rfl⟩ := h
      exact sim_conv ho hd hu hx
    · cases h
  case h_14 f first xs ho =>
    split at h
    · rename_i hf
      subst hf
      simp only [Option.map_eq_some_iff] at h
      obtain ⟨l, hl, rfl⟩ := h
      exact sim_mkfn ho hl
    · cases h
  case h_15 t x y ho =>
    simp only [Option.bind_eq_some_iff] at h
    obtain ⟨e, he, ⟨i, z⟩, hq, h⟩ := h
    obtain ⟨q1, q2, q3, q4, q5⟩ := zeroOf_eq hq
    split at h
    · rename_i hc
      simp only [Option.bind_eq_some_iff, Option.map_eq_some_iff] at h
      obtain ⟨ax, hx, ay, hy, rfl⟩ := h
      exact sim_mk ho (sliceElem_eq he) q1 q2 q3 q4 q5 hc hx hy
    · cases h
  case h_16 t x lo hi mx ho =>
    simp only [Option.bind_eq_some_iff, Option.map_eq_some_iff] at h
    obtain ⟨e, he, i, hi, ax, hx, al, hl, ah, hh, am, hm, rfl⟩ := h
    exact sim_slice ho (sliceElem_eq he) hi hx hl hh hm
  case h_17 t x n ho =>
    split at h
    · rename_i fs hu
      simp only [Option.bind_eq_some_iff] at h
      obtain ⟨f, hf, i, hi, h⟩ := h
      split at h
      · rename_i hz
        simp only [Option.map_eq_some_iff] at h
        obtain ⟨ax, hx, rfl⟩ := h
        exact sim_faddr ho hu hf hi hz hx
      · cases h
    · cases h
  case h_18 t x n ho =>
    split at h
    · rename_i fs hu
      simp only [Option.bind_eq_some_iff, Option.map_eq_some_iff] at h
      obtain ⟨f, hf, d, hd, i, hi, ax, hx, rfl⟩ := h
      exact sim_field ho hu hf hd hi hx
    · cases h
  case h_19 t x y ho =>
    split at h
    · rename_i e hu
      simp only [Option.bind_eq_some_iff, Option.map_eq_some_iff] at h
      obtain ⟨i, hi, ax, hx, ay, hy, rfl⟩ := h
      exact sim_iaddr ho hu hi hx hy
    · rename_i n e hu
      simp only [Option.bind_eq_some_iff, Option.map_eq_some_iff] at h
      obtain ⟨i, hi, ax, hx, ay, hy, rfl⟩ := h
      exact sim_iaddrA ho hu hi hx hy
    · cases h
  case h_20 t x y ho =>
    split at h
    · rename_i n e hu
      simp only [Option.bind_eq_some_iff, Option.map_eq_some_iff] at h
      obtain ⟨d, hd, i, hi, ax, hx, ay, hy, rfl⟩ := h
      exact sim_index ho hu hd hi hx hy
    · cases h
  case h_21 x i ho => simp only [Option.map_eq_some_iff] at h; obtain ⟨ax, hx, rfl⟩ := h; exact sim_extract ho hx
  case h_22 c ho => exact compCall_sim ho h
  case h_23 => cases h
end Go.AH
