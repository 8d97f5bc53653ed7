/- Structs out of their parts. -/
import Derived.Test.YtgekiiildobfkabE10
set_option linter.unusedVariables false
set_option linter.unusedSimpArgs false
set_option linter.unusedSectionVars false
namespace Go.Proofs.E
open Go.RowKit

def Places (P : Program) : List Field → List (Nat × Nat) → Prop
  | [], [] => True
  | f :: fs, p :: ps => (Nat.beq f.offset p.1 = true ∧ ∀ w, (sizeOf f.type).run P w = .ok p.2 w) ∧ Places P fs ps
  | _, _ => False
/-- Cells put over others, part by part. -/
def putParts (ps : List (Nat × Nat)) : List Value → List (Nat × Value) → Option (List Value)
  | cs, [] => some cs
  | cs, (i, v) :: r =>
    match ps[i]? with
    | none => none
    | some (off, m) => bif Nat.beq (cellsL v).length m && Nat.ble (off + m) cs.length then putParts ps (over cs off (cellsL v)) r else none
theorem foldl_over : ∀ (us : List Value) (cs : Array Value) (off k : Nat), off + k + us.length ≤ cs.size →
    (us.zipIdx k).foldl (fun cs (c, j) => cs.setIfInBounds (off + j) c) cs = (over cs.toList (off + k) us).toArray
  | [], cs, off, k, h => by simp [over]
  | u :: us, cs, off, k, h => by
    simp only [List.length_cons] at h
    rw [List.zipIdx_cons, List.foldl_cons, foldl_over us _ off (k + 1) (by simp; omega)]
    apply Array.toList_inj.1
    simp only [over, Array.toList_setIfInBounds, List.length_cons]
    have h1 : off + k < cs.toList.length := by simp; omega
    rw [List.set_eq_take_append_cons_drop, if_pos h1]
    have e1 : (cs.toList.take (off + k)).length = off + k := by rw [List.length_take]; omega
    have e2 : off + (k + 1) = (cs.toList.take (off + k)).length + 1 := by rw [e1]; omega
    have e3 : off + (k + 1) + us.length = (cs.toList.take (off + k)).length + (1 + us.length) := by rw [e1]; omega
    rw [e3, e2, List.take_length_add_append, List.drop_length_add_append]
    simp only [List.take_succ_cons, List.take_zero, Nat.add_comm 1 us.length, List.drop_succ_cons, List.drop_drop]
    have e4 : off + k + 1 + us.length = off + k + (us.length + 1) := by omega
    simp [e4, Nat.add_assoc]
    try omega
theorem fill_put {ps : List (Nat × Nat)} {place : Nat → Option (Nat × Nat)} : ∀ (parts : List (Nat × Value)) (cs out : List Value), (∀ p ∈ parts, place p.1 = ps[p.1]?) → putParts ps cs parts = some out → Instr.fill place cs.toArray parts = some out.toArray
  | [], cs, out, _, h => by simp only [putParts, Option.some.injEq] at h; subst h; rfl
  | (i, v) :: r, cs, out, hpl, h => by
    simp only [putParts] at h
    cases hp : ps[i]? with
    | none => simp [hp] at h
    | some q =>
      obtain ⟨off, m⟩ := q
      simp only [hp] at h
      cases hb : Nat.beq (cellsL v).length m && Nat.ble (off + m) cs.length with
      | false => simp [hb] at h
      | true =>
        simp only [hb, cond_true] at h
        rw [Bool.and_eq_true] at hb
        have h1 := Nat.eq_of_beq_eq_true hb.1
        have h2 := Nat.le_of_ble_eq_true hb.2
        have hsz : v.cells.size = m := by rw [← h1, ← cellsL_eq]; simp
        have hp' : place i = some (off, m) := by rw [hpl _ (List.mem_cons_self ..)]; exact hp
        have ih := fill_put r _ out (fun p hp => hpl p (List.mem_cons_of_mem _ hp)) h
        simp only [Instr.fill, hp']
        have hcond : ¬ (decide (v.cells.size ≠ m) || decide (off + v.cells.size > cs.toArray.size)) = true := by
          rw [hsz]; simp; omega
        rw [if_neg hcond, ← ih]
        congr 1
        rw [← Array.foldl_toList, Array.toList_zipIdx, cellsL_eq]
        have := foldl_over (cellsL v) cs.toArray off 0 (by rw [h1]; simp; omega)
        simpa using this
section
variable {P : Program} {ops : Array Oper} {o : Oper} {rest : List Oper} {K : Kn} {a : Act} {w w' : World} {n : Nat} {S T : Nat → Prop} {w0 : World} {ρ : Env} {μ μ1 μ2 ν : List Res} {G : Option Bool}
theorem run_places : ∀ {fs : List Field} {ps : List (Nat × Nat)}, Places P fs ps → ∀ w, (fs.mapM fun f => (do pure (f.offset, ← sizeOf f.type) : Sem (Nat × Nat))).run P w = .ok ps w
  | [], [], _, w => by simp
  | [], p :: ps, h, w => h.elim
  | f :: fs, [], h, w => h.elim
  | f :: fs, p :: ps, h, w => by
    obtain ⟨⟨h1, h2⟩, h3⟩ := h
    have h1 := Nat.eq_of_beq_eq_true h1
    have h4 := run_places h3
    rw [List.mapM_cons]
    simp only [Sem.run_bind, Sem.run_pure, Result.andThen_ok, h2, h4, h1]
theorem run_buildS {t : TypeId} {z : Value} {fs : Array Field} {ps : List (Nat × Nat)} {parts : List (Nat × Value)} {cells : List Value} (hz : ∀ w, (zeroValue t).run P w = .ok z w) (hu : P.underlying t = some (.struct fs)) (hp : Places P fs.toList ps)
    (hf : putParts ps (cellsL z) parts = some cells) : ∀ w, (Instr.build t parts.toArray).run P w = .ok (.agg cells.toArray) w := by
  intro w
  have h1 := run_places hp w
  have h2 : (fs.mapM fun f => (do pure (f.offset, ← sizeOf f.type) : Sem (Nat × Nat))).run P w = .ok ps.toArray w := by
    rw [← Array.toArray_toList (xs := fs), List.mapM_toArray, Sem.run_map, h1]
    rfl
  have h3 := fill_put (place := fun i => ps.toArray[i]?) parts (cellsL z) cells (by simp) hf
  rw [← cellsL_eq, Array.toArray_toList] at h3
  simp only [Instr.build, Sem.run_bind, hz, Result.andThen_ok, run_underlying hu, h2, h3, Sem.run_pure]
/-- A struct out of its parts. -/
theorem L.buildS (hC : Conf n S w0 ρ μ a w) (hG : guardOf ρ ops o = some G) {t : TypeId} {parts : Array (Nat × Operand)} (ho : o.op = .build t parts) {cs : List Bool} {vs : List Value} (hx : evs ρ (parts.toList.map (·.2)) = some (cs, vs)) (hcs : Gt G → All cs)
    {z : Value} {fs : Array Field} {ps : List (Nat × Nat)} {cells : List Value} (hz : ∀ w, (zeroValue t).run P w = .ok z w) (hu : P.underlying t = some (.struct fs)) (hp : Places P fs.toList ps)
    (hf : putParts ps (cellsL z) ((parts.toList.map (·.1)).zip vs) = some cells) {d : Nat} (hd : o.dst = some d) (hn : Nat.blt d n = true)
    (k : ∀ a, Conf n S w0 ((d, (G, .agg cells.toArray)) :: ρ) μ a w → L P ops rest K a w) : L P ops (o :: rest) K a w :=
  L.build hC hG ho hx hcs (run_buildS hz hu hp hf) hd hn k
/-- A slice literal: all elements are given. -/
theorem L.bsP (hC : Conf n S w0 ρ μ a w) (hg : o.guard = none) {t e : TypeId} {len : Nat} {parts : Array (Nat × Operand)} (ho : o.op = .buildSlice t len parts) {vs : List Value} (hx : evs ρ (parts.toList.map (·.2)) = some ([], vs))
    (hu : P.underlying t = some (.slice e)) {z : Value} {m bytes : Nat} (hi : (P.info? e).map (fun i => (i.zero, i.size, i.bytes)) = some (some z, m, bytes)) (hm : Nat.blt 0 m = true) (hl : Nat.blt 0 len = true) (hs : Nat.ble (len * m) 1000 = true)
    (hix : (parts.toList.map (·.1)).all (fun i => Nat.blt i len) = true) {cells : List Value}
    (hf : putParts ((List.range len).map fun i => (i * m, m)) ((List.range (len * m)).map fun j => (cellsL z)[j % (cellsL z).length]!) ((parts.toList.map (·.1)).zip vs) = some cells) {d : Nat} (hd : o.dst = some d) (hn : Nat.blt d n = true)
    (k : ∀ b a w', Frm Nob w w' → Conf n S w0 ((d, (none, .slice (some ⟨b, 0, none⟩) len len)) :: ρ) (blkR b cells e :: μ) a w' → L P ops rest K a w') : L P ops (o :: rest) K a w := by
  refine L.bs hC hg ho hx hu hi hm hl hs ?_ hd hn k
  have h3 := fill_put (place := fun i => some (i * m, m)) _ _ cells (fun p hp => ?_) hf
  · rw [← h3]
    congr 1
    apply Array.toList_inj.1
    simp only [Array.toList_map, Array.toList_range, ← cellsL_eq]
    simp
    intro a _
    cases h : z.cells[a % z.cells.size]? <;> simp [getElem!_def, h]
  · have h1 : p.1 ∈ parts.toList.map (·.1) := (List.of_mem_zip (a := p.1) (b := p.2) hp).1
    have h2 := List.all_eq_true.1 hix _ h1
    have h2 : p.1 < len := by simpa [Nat.blt_eq] using h2
    rw [List.getElem?_map, List.getElem?_range h2]
    rfl
theorem L.litsP (hC : Conf n S w0 ρ μ a w) (hG : guardOf ρ ops o = some G) {t e : TypeId} {len : Nat} {parts : Array (Nat × Operand)} (ho : o.op = .buildSlice t len parts) {cs : List Bool} {vs : List Value} (hx : evs ρ (parts.toList.map (·.2)) = some (cs, vs)) (hcs : Gt G → All cs)
    (hu : P.underlying t = some (.slice e)) (hi : (P.info? e).map (fun i => (i.zero, i.size, i.bytes)) = some (some (.int .i64 0), 1, 8)) (hl : Nat.blt 0 len = true) (hs : Nat.ble len 1000 = true)
    {xs : List Int} (hxs : intsOf vs = some xs) (hlen : Nat.beq xs.length len = true) (hix : (parts.toList.map (·.1)).all (fun i => Nat.blt i len) = true) (hf : putParts ((List.range len).map fun i => (i, 1)) (List.replicate len (.int .i64 0)) ((parts.toList.map (·.1)).zip vs) = some vs) {d : Nat} (hd : o.dst = some d) (hn : Nat.blt d n = true)
    (k : ∀ a w' v, Frm Nob w w' → Conf n S w0 ((d, (G, v)) :: ρ) (condR G (rdR v intE xs) :: μ) a w' → L P ops rest K a w') : L P ops (o :: rest) K a w := by
  refine L.lits hC hG ho hx hcs hu hi hl hs hxs hlen ?_ hd hn k
  have h3 := fill_put (place := fun i => some (i * 1, 1)) _ _ vs (fun p hp => ?_) hf
  · rw [← h3]
    congr 1
    apply Array.toList_inj.1
    simp only [Array.toList_map, Array.toList_range, Nat.mul_one, Nat.mod_one]
    rw [List.map_const']
    simp
  · have h1 : p.1 ∈ parts.toList.map (·.1) := (List.of_mem_zip (a := p.1) (b := p.2) hp).1
    have h2 := List.all_eq_true.1 hix _ h1
    have h2 : p.1 < len := by simpa [Nat.blt_eq] using h2
    rw [List.getElem?_map, List.getElem?_range h2]
    simp
/-- A part of a struct. -/
theorem L.fld (hC : Conf n S w0 ρ μ a w) (hG : guardOf ρ ops o = some G) {t i : Nat} {x : Operand} (ho : o.op = .field t x i) {cs : List Bool} {vs : Array Value} (hx : ev ρ x = some (cs, .agg vs)) (hcs : Gt G → All cs)
    {fs : Array Field} (hu : P.underlying t = some (.struct fs)) {f : Field} (hf : fs[i]? = some f) (hA : ∀ w, (isAgg f.type).run P w = .ok false w) {v : Value} (hv : vs[f.offset]? = some v) {d : Nat} (hd : o.dst = some d) (hn : Nat.blt d n = true)
    (k : ∀ a, Conf n S w0 ((d, (G, v)) :: ρ) μ a w → L P ops rest K a w) : L P ops (o :: rest) K a w := by
  refine L.step hC hG (fun hg => ?_) hd hn k
  unfold execOp
  simp [ho, hC.ev hx (hcs hg), Instr.field, run_underlying hu, hf, part, hA, hv, asAgg]
end
end Go.Proofs.E
